/- The document's tallies: add. -/
import Derived.Test.YtenddeglhjmhcaaDoorUH
namespace Go.Proofs.YtenddeglhjmhcaaDoor
open Go.RowKit

theorem ev_tmp {a : Act} {t : Nat} {v : Value} (h : a.tmps[t]?.getD undef = v) : a.eval (.tmp t) = v := (eval_slot a t).trans h
/-- Numbers in a block of a type of their own. -/
def ArrB (T : TypeId) (W : World) (b : Nat) (t : List Int) : Prop := W.heap[b]? = some (.cells (t.map intV).toArray T (0, 0))
section
variable {T : TypeId} {W : World} {b : Nat} {t : List Int}
theorem ArrB.cell (h : ArrB T W b t) {k : Nat} {x : Int} (hk : t[k]? = some x) : W.cell? ⟨b, k, none⟩ = some (.int .i64 x) := by
  rw [cell_of h]
  simp [hk]
theorem ArrB.froz (h : ArrB T W b t) (k : Nat) : W.frozen? ⟨b, k, none⟩ = false := by
  unfold ArrB at h
  simp [World.frozen?, h]
theorem ArrB.set (h : ArrB T W b t) (k : Nat) (c : Int) : ArrB T (W.setCell ⟨b, k, none⟩ (.int .i64 c)) b (t.set k c) := by
  unfold ArrB at *
  rw [pheap_set W b k (.int .i64 c) _ _ h]
  congr 2
  simp [List.map_set]
theorem ArrB.range (h : ArrB T W b t) : W.rangeAt b 0 (t.map intV) := fun j v hv => by
  rw [Nat.zero_add, cell_of h]
  simpa using hv
theorem ArrB.there (h : ArrB T W b t) {n : Nat} (ht : t.length = n) : W.there b 0 n := fun j hj => by
  obtain ⟨x, hx⟩ : ∃ x, t[j]? = some x := ⟨_, List.getElem?_eq_getElem (by rw [ht]; exact hj)⟩
  exact ⟨by rw [Nat.zero_add, h.cell hx]; rfl, by rw [Nat.zero_add]; exact h.froz j⟩
theorem ArrB.put {z : List Int} {n : Nat} (h : ArrB T W b z) (hz : z.length = n) (ht : t.length = n) : ArrB T (W.setCells b 0 (t.map intV)) b t ∧ W.grownBy (W.setCells b 0 (t.map intV)) (some b) := by
  have hth : W.there b 0 (t.map intV).length := by rw [List.length_map, ht]; exact h.there hz
  refine ⟨?_, grown_setCells b _ 0 _⟩
  obtain ⟨cs', g1, g2⟩ := setCells_form b T (0, 0) (t.map intV) 0 _ _ h
  have hr := World.rangeAt_setCells_same W b 0 (t.map intV) hth
  have hcs : cs' = (t.map intV).toArray := ?_
  · rw [ArrB, g1, hcs]
  apply Array.ext_getElem?
  intro j
  by_cases hj : j < (t.map intV).length
  · have hv : (t.map intV)[j]? = some ((t.map intV)[j]'hj) := List.getElem?_eq_getElem _
    have := hr j _ hv
    simp only [World.cell?, g1, Nat.zero_add] at this
    have e2 : (t.map intV).toArray[j]? = some ((t.map intV)[j]'hj) := by simp only [List.getElem?_toArray]; exact hv
    rw [e2]
    simpa using this
  · rw [List.length_map, ht] at hj
    rw [Array.getElem?_eq_none (by rw [g2]; simp [hz]; omega), Array.getElem?_eq_none (by simp [ht]; omega)]
theorem ArrB.kept {W' : World} {r : Nat} (h : ArrB T W b t) (hg : W.grownBy W' (some r)) (hne : b ≠ r) : ArrB T W' b t := (hg.block b (Array.getElem?_eq_some_iff.1 h).1 fun e => hne (by injection e)).trans h
theorem ArrB.below {W' : World} (h : ArrB T W b t) (hb : Below W.heap.size W W') : ArrB T W' b t := (hb.block b (Array.getElem?_eq_some_iff.1 h).1).trans h
end
theorem arr_ne {W : World} {b c : Nat} {T U : TypeId} {s t : List Int} (h : ArrB T W b s) (k : ArrB U W c t) (hTU : T ≠ U) : b ≠ c := fun e => by
  subst e
  rw [ArrB] at h k
  rw [h] at k
  simp only [Option.some.injEq, Obj.cells.injEq] at k
  exact hTU k.2.1
def z4 : List Int := List.replicate 4 0
def z16 : List Int := List.replicate 16 0
/-- What the copies of a tally's two rows come to: new blocks; a row of zeros may be filled. -/
def RelA (n0 : Nat) (A1 A2 : List Int) (W W' : World) : Prop := Below n0 W W' ∧
  ((∀ b, ArrB 23 W b A1 → ArrB 23 W' b A1) ∧ ∀ b, ArrB 23 W b z4 → ArrB 23 W' b z4 ∨ ArrB 23 W' b A1) ∧
  (∀ b, ArrB 24 W b A2 → ArrB 24 W' b A2) ∧ ∀ b, ArrB 24 W b z16 → ArrB 24 W' b z16 ∨ ArrB 24 W' b A2
section
variable {n0 : Nat} {A1 A2 : List Int} {W W' W'' : World}
theorem RelA.of (h : Below n0 W W') (hb : ∀ b, b < W.heap.size → W'.heap[b]? = W.heap[b]?) : RelA n0 A1 A2 W W' :=
  ⟨h, ⟨fun b k => (hb b (Array.getElem?_eq_some_iff.1 k).1).trans k, fun b k => .inl ((hb b (Array.getElem?_eq_some_iff.1 k).1).trans k)⟩, fun b k => (hb b (Array.getElem?_eq_some_iff.1 k).1).trans k, fun b k => .inl ((hb b (Array.getElem?_eq_some_iff.1 k).1).trans k)⟩
theorem RelA.trans (h : RelA n0 A1 A2 W W') (k : RelA n0 A1 A2 W' W'') : RelA n0 A1 A2 W W'' :=
  ⟨h.1.trans k.1, ⟨fun b x => k.2.1.1 b (h.2.1.1 b x), fun b x => (h.2.1.2 b x).elim (k.2.1.2 b) fun y => .inr (k.2.1.1 b y)⟩, fun b x => k.2.2.1 b (h.2.2.1 b x), fun b x => (h.2.2.2 b x).elim (k.2.2.2 b) fun y => .inr (k.2.2.1 b y)⟩
theorem RelA.refl : RelA n0 A1 A2 W W := RelA.of (Below.refl _ _) fun _ _ => rfl
theorem RelA.drew : RelA n0 A1 A2 W W.drew := RelA.of ⟨rfl, rfl, rfl, Nat.le_refl _, fun _ _ => rfl⟩ fun _ _ => rfl
theorem RelA.alloc (hn : n0 ≤ W.heap.size) (o : Obj) : RelA n0 A1 A2 W (W.alloc o) := RelA.of ((Below.refl _ _).alloc hn o) fun _ hb => Below.heap_alloc _ _ _ hb
theorem grown_below {r : Nat} (hg : W.grownBy W' (some r)) (hr : n0 ≤ r) (hn : n0 ≤ W.heap.size) : Below n0 W W' := ⟨hg.os, hg.tape, hg.output, hg.size, fun k hk => hg.block k (Nat.lt_of_lt_of_le hk hn) fun e => by injection e with e; omega⟩
theorem RelA.put4 {g : Nat} (hg : n0 ≤ g) (hn : n0 ≤ W.heap.size) (h : ArrB 23 W g z4 ∨ ArrB 23 W g A1) (hl : A1.length = 4) : RelA n0 A1 A2 W (W.setCells g 0 (A1.map intV)) ∧ ArrB 23 (W.setCells g 0 (A1.map intV)) g A1 := by
  obtain ⟨h1, h2⟩ : ArrB 23 (W.setCells g 0 (A1.map intV)) g A1 ∧ W.grownBy (W.setCells g 0 (A1.map intV)) (some g) := h.elim (fun h => h.put rfl hl) fun h => h.put hl hl
  refine ⟨⟨grown_below h2 hg hn, ⟨fun b k => ?_, fun b k => ?_⟩, fun b k => ?_, fun b k => ?_⟩, h1⟩
  · by_cases hb : b = g
    · subst hb; exact h1
    · exact k.kept h2 hb
  · by_cases hb : b = g
    · subst hb; exact .inr h1
    · exact .inl (k.kept h2 hb)
  · exact k.kept h2 (h.elim (fun h => (arr_ne h k (by decide)).symm) fun h => (arr_ne h k (by decide)).symm)
  · exact .inl (k.kept h2 (h.elim (fun h => (arr_ne h k (by decide)).symm) fun h => (arr_ne h k (by decide)).symm))
theorem RelA.put16 {g : Nat} (hg : n0 ≤ g) (hn : n0 ≤ W.heap.size) (h : ArrB 24 W g z16 ∨ ArrB 24 W g A2) (hl : A2.length = 16) : RelA n0 A1 A2 W (W.setCells g 0 (A2.map intV)) ∧ ArrB 24 (W.setCells g 0 (A2.map intV)) g A2 := by
  obtain ⟨h1, h2⟩ : ArrB 24 (W.setCells g 0 (A2.map intV)) g A2 ∧ W.grownBy (W.setCells g 0 (A2.map intV)) (some g) := h.elim (fun h => h.put rfl hl) fun h => h.put hl hl
  refine ⟨⟨grown_below h2 hg hn, ⟨fun b k => ?_, fun b k => ?_⟩, fun b k => ?_, fun b k => ?_⟩, h1⟩
  · exact k.kept h2 (h.elim (fun h => (arr_ne h k (by decide)).symm) fun h => (arr_ne h k (by decide)).symm)
  · exact .inl (k.kept h2 (h.elim (fun h => (arr_ne h k (by decide)).symm) fun h => (arr_ne h k (by decide)).symm))
  · by_cases hb : b = g
    · subst hb; exact h1
    · exact k.kept h2 hb
  · by_cases hb : b = g
    · subst hb; exact .inr h1
    · exact .inl (k.kept h2 hb)
end
def is4 (n0 : Nat) (A1 : List Int) : Ph := fun v W => ∃ g, v = .pointer (some ⟨g, 0, none⟩) ∧ n0 ≤ g ∧ (ArrB 23 W g z4 ∨ ArrB 23 W g A1)
def full4 (n0 : Nat) (A1 : List Int) : Ph := fun v W => ∃ g, v = .pointer (some ⟨g, 0, none⟩) ∧ n0 ≤ g ∧ ArrB 23 W g A1
def is16 (n0 : Nat) (A2 : List Int) : Ph := fun v W => ∃ g, v = .pointer (some ⟨g, 0, none⟩) ∧ n0 ≤ g ∧ (ArrB 24 W g z16 ∨ ArrB 24 W g A2)
def full16 (n0 : Nat) (A2 : List Int) : Ph := fun v W => ∃ g, v = .pointer (some ⟨g, 0, none⟩) ∧ n0 ≤ g ∧ ArrB 24 W g A2
section
variable {n0 : Nat} {A1 A2 : List Int}
theorem is4.stay : ∀ v W W', is4 n0 A1 v W → RelA n0 A1 A2 W W' → is4 n0 A1 v W' := fun _ _ _ ⟨g, h1, h2, h3⟩ hr => ⟨g, h1, h2, h3.elim (hr.2.1.2 g) fun h => .inr (hr.2.1.1 g h)⟩
theorem full4.stay : ∀ v W W', full4 n0 A1 v W → RelA n0 A1 A2 W W' → full4 n0 A1 v W' := fun _ _ _ ⟨g, h1, h2, h3⟩ hr => ⟨g, h1, h2, hr.2.1.1 g h3⟩
theorem is16.stay : ∀ v W W', is16 n0 A2 v W → RelA n0 A1 A2 W W' → is16 n0 A2 v W' := fun _ _ _ ⟨g, h1, h2, h3⟩ hr => ⟨g, h1, h2, h3.elim (hr.2.2.2 g) fun h => .inr (hr.2.2.1 g h)⟩
theorem full16.stay : ∀ v W W', full16 n0 A2 v W → RelA n0 A1 A2 W W' → full16 n0 A2 v W' := fun _ _ _ ⟨g, h1, h2, h3⟩ hr => ⟨g, h1, h2, hr.2.2.1 g h3⟩
end
theorem infoA16 : (Tryd.prog.info? 24).map (·.size) = some 16 := by kernel_rfl
theorem tal16 {W : World} {b : Nat} {t : List Int} (h : TalB W b t) : W.rangeAt b 4 (((t.drop 4).take 16).map intV) := fun j v hv => by
  have hj : j < 16 := by have := (List.getElem?_eq_some_iff.1 hv).1; rw [List.length_map, List.length_take] at this; omega
  have := h.range (4 + j) v (by rw [← hv, List.getElem?_map, List.getElem?_map, List.getElem?_take_of_lt hj, List.getElem?_drop])
  rwa [Nat.zero_add] at this
end Go.Proofs.YtenddeglhjmhcaaDoor
