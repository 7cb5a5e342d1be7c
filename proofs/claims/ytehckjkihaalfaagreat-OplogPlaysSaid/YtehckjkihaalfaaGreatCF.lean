/- closure.Places, walked. -/
import Derived.Test.YtehckjkihaalfaaGreatCE
import Derived.Test.YtehckjkihaalfaaGreatRW
import Derived.Test.YtehckjkihaalfaaGreatLS
import Derived.Shelf.Sort.Plain
import Derived.Shelf.Slices.In.SortNone
import Derived.Sort.OwnSortedInts
namespace Go.Proofs.YtehckjkihaalfaaGreat
open Go.RowKit Go.Maps

/-- The closure, computed from the last record on. -/
def inB (l : List R) (inos : List Int) : Nat → Nat → Bool
  | 0, _ => false
  | f + 1, k => writesB (rAt l k) inos || (List.range l.length).any fun m => decide (k < m) && inB l inos f m && meetB (rAt l k) (rAt l m)
theorem inB_of {l : List R} {inos : List Int} {k : Nat} (h : InC l inos k) : ∀ f, l.length - k ≤ f → inB l inos f k = true := by
  induction h with
  | @own k hk hw =>
    intro f hf
    obtain ⟨f, rfl⟩ : ∃ g, f = g + 1 := ⟨f - 1, by omega⟩
    unfold inB
    rw [hw]
    rfl
  | @on m k hm hk ih =>
    intro f hf
    have hlt := hm.lt
    obtain ⟨h1, h2⟩ := onL_mem.1 hk
    obtain ⟨f, rfl⟩ : ∃ g, f = g + 1 := ⟨f - 1, by omega⟩
    unfold inB
    rw [Bool.or_eq_true]
    refine .inr (List.any_eq_true.2 ⟨m, List.mem_range.2 hlt, ?_⟩)
    rw [ih f (by omega), h2]
    simp [h1]
theorem InC.of_inB {l : List R} {inos : List Int} : ∀ (f k : Nat), k < l.length → inB l inos f k = true → InC l inos k
  | 0, k, _, h => by simp [inB] at h
  | f + 1, k, hk, h => by
    unfold inB at h
    rw [Bool.or_eq_true] at h
    rcases h with h | h
    · exact .own hk h
    · obtain ⟨m, hm, h1⟩ := List.any_eq_true.1 h
      simp only [Bool.and_eq_true, decide_eq_true_eq] at h1
      exact .on (InC.of_inB f m (List.mem_range.1 hm) h1.1.2) (onL_mem.2 ⟨h1.1.1, h1.2⟩)
theorem inB_iff {l : List R} {inos : List Int} {k : Nat} (hk : k < l.length) : inB l inos l.length k = true ↔ InC l inos k :=
  ⟨InC.of_inB _ k hk, fun h => inB_of h _ (by omega)⟩
/-- Its places. -/
def placesL (l : List R) (inos : List Int) : List Nat := (List.range l.length).filter (inB l inos l.length)
theorem mem_places {l : List R} {inos : List Int} {k : Nat} : k ∈ placesL l inos ↔ InC l inos k := by
  unfold placesL
  rw [List.mem_filter, List.mem_range]
  exact ⟨fun h => (inB_iff h.1).1 h.2, fun h => ⟨h.lt, (inB_iff h.lt).2 h⟩⟩
theorem places_rise (l : List R) (inos : List Int) : (placesL l inos).Pairwise (· < ·) := List.Pairwise.filter _ List.pairwise_lt_range
theorem places_len (l : List R) (inos : List Int) : (placesL l inos).length ≤ l.length := by
  unfold placesL
  exact Nat.le_trans (List.length_filter_le _ _) (by simp)
theorem sort_places {es ps : List Nat} (h1 : es.Nodup) (h2 : ps.Pairwise (· < ·)) (hm : ∀ k, k ∈ es ↔ k ∈ ps) : ((es.map fun (n : Nat) => (n : Int)).mergeSort fun x y => decide (x ≤ y)) = ps.map fun (n : Nat) => (n : Int) := by
  have hp : es.Perm ps := (List.perm_ext_iff_of_nodup h1 (h2.imp (fun h => Nat.ne_of_lt h))).2 hm
  refine List.Perm.eq_of_pairwise (le := fun (a b : Int) => a ≤ b) (fun a b _ _ x y => Int.le_antisymm x y) ?_ ?_ ((List.mergeSort_perm _ _).trans (hp.map _))
  · have := List.pairwise_mergeSort (le := fun (x y : Int) => decide (x ≤ y)) (by intro a b c; simp only [decide_eq_true_eq]; omega) (by intro a b; simp only [Bool.or_eq_true, decide_eq_true_eq]; omega) (es.map fun (n : Nat) => (n : Int))
    exact this.imp (fun h => by simpa using h)
  · rw [List.pairwise_map]
    exact h2.imp (fun h => by omega)
/-- Those that have come. -/
def ColP (ks : List Int) (left : Lit → Bool) (es : List Nat) : Prop := es.Nodup ∧ ∀ k : Nat, k ∈ es ↔ (Named ks k ∧ left (.int .i64 (k : Int)) = false)
theorem cntI_some {ks : List Int} {k : Int} : (cntI ks (.int .i64 k)).isSome = true ↔ k ∈ ks := by
  show (if ks.count k = 0 then none else some _ : Option Value).isSome = true ↔ _
  split
  · rename_i h
    rw [List.count_eq_zero] at h
    simp [h]
  · rename_i h
    rw [List.count_eq_zero] at h
    simp at h ⊢
    exact h
theorem ColP.start {ks : List Int} {left : Lit → Bool} (h : ∀ kl, WideAt.IsKeyLit kl → left kl = (cntI ks kl).isSome) : ColP ks left [] := by
  refine ⟨List.nodup_nil, fun k => ⟨fun h => by simp at h, fun ⟨h1, h2⟩ => ?_⟩⟩
  rw [h (.int .i64 (k : Int)) trivial] at h2
  rw [cntI_some.2 h1] at h2
  cases h2
theorem ColP.step {ks : List Int} {left : Lit → Bool} {es : List Nat} {k : Nat} (h : ColP ks left es) (hl : left (.int .i64 (k : Int)) = true) (hk : Named ks k) : ColP ks (fun x => left x && !x.sameKey (.int .i64 (k : Int))) (es ++ [k]) := by
  refine ⟨?_, fun j => ?_⟩
  · rw [List.nodup_append]
    refine ⟨h.1, by simp, fun a ha b hb e => ?_⟩
    simp at hb
    subst hb
    subst e
    have := ((h.2 a).1 ha).2
    rw [hl] at this
    cases this
  · rw [List.mem_append, h.2]
    by_cases e : j = k
    · subst e
      simp [hk, Lit.sameKey]
    · have e2 : ¬ ((j : Int) = (k : Int)) := by omega
      simp [e, e2, Lit.sameKey]
theorem wpList_next_P {ops : Array Oper} {rest : List Oper} {o : Oper} {a : Act} {w : World} {Q : Exit → Act → World → Prop} {b r n cnt : Nat} {ks : List Int} {left : Lit → Bool} (hg : o.guard = none) (it : Operand) (hop : o.op = Op.next it false)
    (hit : a.eval it = .pointer (some ⟨r, 0, none⟩)) (h : RangeAt w Tryz.prog 3 b r n (cntI ks) left cnt) (hks : ∀ x ∈ ks, ∃ k : Nat, x = (k : Int))
    (hDone : (∀ kl, left kl = false) → wpList Tryz.prog ops Q rest (a.put o.dst (.tuple #[.bool false])) w)
    (hMore : ∀ (k c : Nat) (w' : World) (cnt' : Nat), left (.int .i64 (k : Int)) = true → Named ks k → RangeAt w' Tryz.prog 3 b r n (cntI ks) (fun x => left x && !x.sameKey (.int .i64 (k : Int))) cnt' → cnt' < cnt → w.grownBy w' (some r) → w'.heap.size = w.heap.size →
      (Instr.entry (.pointer (some ⟨r, 0, none⟩))).run Tryz.prog w' = .ok (.tuple #[.int .i64 (k : Int), .int .i64 (c : Int)]) w' → wpList Tryz.prog ops Q rest (a.put o.dst (.tuple #[.bool true, .int .i64 (k : Int), .int .i64 (c : Int)])) w') :
    wpList Tryz.prog ops Q (o :: rest) a w := by
  refine wpList_plain hg fun K' hK' => ?_
  unfold Oper.wp
  rcases h.next law64 o.type with ⟨h0, hl, hrun⟩ | ⟨key, v, kl, w', cnt', hkey, hlk, hv, hrun, hrg, hlt, hgr, hsz, hen⟩
  · simp [execOp, hop, hit, hrun, Result.andThen]
    exact hK' _ _ (hDone hl)
  · obtain ⟨k, rfl, rfl, _⟩ := Maps.keyOf_int_inv Tryz.underlying3 hkey
    have hin : k ∈ ks := cntI_some.1 (by rw [hv]; rfl)
    obtain ⟨j, rfl⟩ := hks k hin
    obtain ⟨c, rfl⟩ : ∃ c : Nat, v = .int .i64 (c : Int) := by
      unfold cntI at hv
      simp only at hv
      split at hv
      · cases hv
      · injection hv with hv
        exact ⟨_, hv.symm⟩
    simp [execOp, hop, hit, hrun, Result.andThen]
    exact hK' _ _ (hMore j c w' cnt' hlk hin hrg hlt hgr hsz hen)
section
variable {P' : Program} {k t' e : TypeId} {w : World} {b n : Nat} {m : Lit → Option Value}
theorem MapAt.range2 (h : MapAt w P' k b n m) (K : Keyed P' k) (ht : P'.underlying t' = some (.map k e)) :
    ∃ w' left cnt, (Instr.range t' (.map (some b))).run P' w = .ok (.pointer (some ⟨w.heap.size, 0, none⟩)) w' ∧ RangeAt w' P' k b w.heap.size n m left cnt ∧ cnt ≤ n ∧ (∀ kl, WideAt.IsKeyLit kl → left kl = (m kl).isSome) ∧ Below w.heap.size w w' ∧ w'.heap.size = w.heap.size + 1 := by
  obtain ⟨D, hD, hm⟩ := h
  obtain ⟨w', h1, h2, h3, h4⟩ := hD.range K ht
  exact ⟨w', _, _, h1, ⟨D, h2, hm⟩, hD.size_le, fun kl hk => by rw [ofD_has hD K hk, hm kl hk], ⟨h3.os, h3.tape, h3.output, h3.size, fun i hi => h3.block i hi (by simp)⟩, h4⟩
end
theorem t_sortI (blk cap : Nat) (zs : List Int) (w : World) (hH : Go.Sort.Holds (Value.int .i64) w blk 0 zs.toArray) (hblk : blk < w.heap.size) (hsz : zs.length < 4611686018427387904) :
    Calls Tryz.prog 89 #[.slice (some ⟨blk, 0, none⟩) zs.length cap] w fun e w' => e = .returned (.tuple #[]) ∧ ∃ n os, w' = Go.Sort.grow (Go.Sort.putRow (Value.int .i64) (Go.Sort.ahead w n) blk 0 (zs.mergeSort fun x y => decide (x ≤ y)).toArray) os :=
  Any.slices_Sort_int so blk 0 cap zs w hH hblk hsz
theorem t_sortI0 (p : Option Addr) (cap : Nat) (w : World) : Calls Tryz.prog 89 #[.slice p 0 cap] w fun e w' => e = .returned (.tuple #[]) ∧ w' = w := Any.slices_Sort_int_none so p cap w
end Go.Proofs.YtehckjkihaalfaaGreat
