/- slices over records and stamps, walked. -/
import Derived.Test.YtehckjkihaalfaaGreatEC
import Derived.Laws.IdiomCopy
import Derived.Lib.SliceRun
import Derived.Deep.Upon
namespace Go.Proofs.YtehckjkihaalfaaGreat
open Go.RowKit Go.Maps

/-- A row of stamps. -/
def U64At (w : World) (A : Option Addr) (l : List Int) : Prop := l ≠ [] → ∃ b o, A = some ⟨b, o, none⟩ ∧ b < w.heap.size ∧ ∀ (k : Nat) (x : Int), l[k]? = some x → w.cell? ⟨b, o + k, none⟩ = some (.int .u64 x)
theorem U64At.below {w w' : World} {A : Option Addr} {l : List Int} (h : U64At w A l) (hb : Below w.heap.size w w') : U64At w' A l := fun hn => by
  obtain ⟨b, o, h1, h2, h3⟩ := h hn
  exact ⟨b, o, h1, Nat.lt_of_lt_of_le h2 hb.size, fun k x hk => (World.cell?_of_block (a := ⟨b, _, none⟩) (hb.block b h2)).trans (h3 k x hk)⟩
set_option maxRecDepth 100000 in
set_option maxHeartbeats 4000000 in
theorem t_atU64 (A : Option Addr) (n c : Nat) (l : List Int) (v : Int) (w : World) (h : U64At w A l) (hn : l.length = n) (hn2 : n ≤ 9223372036854775807) :
    Calls Tryz.prog 98 #[.slice A n c, .int .u64 v] w fun e w' => ∃ i : Int, e = .returned (.int .i64 i) ∧ decide (0 ≤ i) = hasI l v ∧ w = w' := by
  have H := Lib.hid h
  have HN := Lib.hid hn
  clear h hn
  go_enter Tryz.func98, Tryz.ntmps98
  go_wp2
  go_loopw [8] (fun x wr => ∃ k : Nat, x = .int .i64 (k : Int) ∧ k ≤ n ∧ w = wr ∧ Hid (hasI (l.take k) v = false)) (fun x _ => n - (intOf x).toNat)
  case atStart => exact ⟨0, rfl, Nat.zero_le _, rfl, rfl⟩
  case round =>
    obtain ⟨k, rfl, hk, rfl, HF⟩ := hrel
    by_cases he : k = n
    · have hf : Hid (hasI l v = false) := by
        have := HF.out
        rw [List.take_of_length_le (by rw [HN.out]; omega)] at this
        exact this
      go_wp2
      go_ret
      exact ⟨-1, rfl, by rw [hf.out]; rfl, rfl⟩
    · have hk2 : k < n := by omega
      obtain ⟨x, hx⟩ : ∃ x, l[k]? = some x := ⟨l[k]'(by rw [HN.out]; omega), List.getElem?_eq_getElem _⟩
      obtain ⟨b, o, rfl, hb, hc⟩ := H.out (fun e => by rw [e] at hx; simp at hx)
      have c0 := hc k x hx
      have HX := Lib.hid hx
      clear hc hx
      by_cases hv : v = x
      · have hv2 : (v == x) = true := by simpa using hv
        go_wp2
        go_ret
        refine ⟨k, rfl, ?_, rfl⟩
        have h1 : hasI l v = true := any_at _ _ _ _ HX.out (by simpa using hv)
        rw [h1]
        simp
      · have hv2 : (v == x) = false := by simpa using hv
        clear hv
        go_wp2
        go_roundw
        case rel => exact ⟨k + 1, rfl, hk2, by first | rfl | trivial, any_take_succ _ _ _ _ HX.out HF.out (by simpa using hv2)⟩
        case measure => simp only [intOf]; omega
set_option maxRecDepth 100000 in
set_option maxHeartbeats 4000000 in
theorem t_hasU64 (A : Option Addr) (n c : Nat) (l : List Int) (v : Int) (w : World) (h : U64At w A l) (hn : l.length = n) (hn2 : n ≤ 9223372036854775807) :
    Calls Tryz.prog 60 #[.slice A n c, .int .u64 v] w fun e w' => e = .returned (.bool (hasI l v)) ∧ w = w' := by
  go_enter Tryz.func60, Tryz.ntmps60
  go_wp2_with (go_at_call 98; (with_reducible refine (t_atU64 A n c l v _ h hn hn2).mono ?_); rintro e w' ⟨i, rfl, hi, rfl⟩; have HI := Lib.hid hi; clear hi)
  go_ret
  exact ⟨pret_bool HI.out, rfl⟩
set_option maxRecDepth 100000 in
set_option maxHeartbeats 4000000 in
theorem t_take1 (r : R) (Bi : Nat) (A : Option Addr) (n c : Nat) (l : List Int) (w : World) (h : U64At w A l) (hn : l.length = n) (hn2 : n ≤ 9223372036854775807) (hB : w.heap[Bi]? = some (.cells #[.slice A n c] 23 (0, 0))) :
    Calls Tryz.prog 59 #[r.val, .pointer (some ⟨Bi, 0, none⟩)] w fun e w' => e = .returned (.bool (hasI l r.stamp)) ∧ Below w.heap.size w w' := by
  have cB := box_cell hB
  have hlt : Bi < w.heap.size := lt_heap hB
  unfold R.val
  go_enter Tryz.func59, Tryz.ntmps59
  go_wp2_with (go_at_call 60; (with_reducible refine (t_hasU64 A n c l r.stamp _ (h.below (below_a1' w _)) hn hn2).mono ?_); rintro e w' ⟨rfl, rfl⟩)
  go_ret
  exact ⟨rfl, below_a1' w _⟩
set_option maxRecDepth 100000 in
set_option maxHeartbeats 4000000 in
theorem t_upto1 (r : R) (Bi : Nat) (s : Int) (w : World) (hB : w.heap[Bi]? = some (.cells #[.int .u64 s] 31 (0, 0))) :
    Calls Tryz.prog 62 #[r.val, .pointer (some ⟨Bi, 0, none⟩)] w fun e w' => e = .returned (.bool (decide (s < r.stamp))) ∧ Below w.heap.size w w' := by
  have cB := box_cell hB
  have hlt : Bi < w.heap.size := lt_heap hB
  unfold R.val
  go_enter Tryz.func62, Tryz.ntmps62
  go_wp2
  go_ret
  exact ⟨rfl, below_a1' w _⟩
/-- The first place where p is. -/
def IdxIs (p : R → Bool) (l : List R) (i : Int) : Prop := (i = -1 ∧ ∀ j, j < l.length → p (rAt l j) = false) ∨ ∃ k : Nat, i = (k : Int) ∧ k < l.length ∧ p (rAt l k) = true ∧ ∀ j, j < k → p (rAt l j) = false
set_option maxRecDepth 100000 in
set_option maxHeartbeats 4000000 in
theorem t_indexTake (A : Option Addr) (n c : Nat) (l : List R) (w : World) (hl : RecsAt w A l) (hn : l.length = n) (hn2 : n ≤ 60000) (Bi : Nat) (As : Option Addr) (ns cs : Nat) (ls : List Int) (hs : U64At w As ls) (hns : ls.length = ns) (hns2 : ns ≤ 9223372036854775807) (hB : w.heap[Bi]? = some (.cells #[.slice As ns cs] 23 (0, 0))) :
    Calls Tryz.prog 61 #[.slice A n c, .func (.func 59) #[] #[.pointer (some ⟨Bi, 0, none⟩)]] w fun e w' => ∃ i : Int, e = .returned (.int .i64 i) ∧ IdxIs (fun r => hasI ls r.stamp) l i ∧ Below w.heap.size w w' := by
  have HL := Lib.hid hl
  have HN := Lib.hid hn
  have HU := Lib.hid hs
  have HNS := Lib.hid hns
  have HB := Lib.hid hB
  clear hs hns hB
  clear hl hn
  go_enter Tryz.func61, Tryz.ntmps61
  go_wp2
  go_loopw [8] (fun x wr => ∃ k : Nat, x = .int .i64 (k : Int) ∧ k ≤ n ∧ Hid (Below w.heap.size w wr) ∧ Hid (∀ j, j < k → (fun r => hasI ls r.stamp) (rAt l j) = false)) (fun x _ => n - (intOf x).toNat)
  case atStart => exact ⟨0, rfl, Nat.zero_le _, Below.refl _ _, fun j hj => by omega⟩
  case round =>
    obtain ⟨k, rfl, hk, HW, HF⟩ := hrel
    by_cases he : k = n
    · have hf : Hid (IdxIs (fun r => hasI ls r.stamp) l (-1)) := .inl ⟨rfl, fun j hj => HF.out j (by rw [he, ← HN.out]; exact hj)⟩
      go_wp2
      go_ret
      exact ⟨-1, rfl, hf.out, HW.out⟩
    · have hk2 : k < n := by omega
      have hx := rAt_get2 (l := l) (k := k) (by rw [HN.out]; exact hk2)
      obtain ⟨r, hr⟩ : ∃ r, r = rAt l k := ⟨_, rfl⟩
      rw [← hr] at hx
      obtain ⟨b, o, rfl, hb, hc⟩ := (HL.out.below HW.out).at_ (fun e => by rw [e] at hx; simp at hx)
      have f6 := hc k r hx
      have r0 := f6 0 _ rfl
      rw [Nat.add_zero] at r0
      have r1 := f6 1 _ rfl
      have r2 := f6 2 _ rfl
      have r3 := f6 3 _ rfl
      have r4 := f6 4 _ rfl
      have r5 := f6 5 _ rfl
      have r6 := f6 6 _ rfl
      have r7 := f6 7 _ rfl
      have r8 := f6 8 _ rfl
      have r9 := f6 9 _ rfl
      have r10 := f6 10 _ rfl
      have r11 := f6 11 _ rfl
      have HR := Lib.hid hr
      have hcall := t_take1 r Bi As ns cs ls wr (HU.out.below HW.out) HNS.out hns2 ((HW.out.block _ (lt_heap HB.out)).trans HB.out)
      unfold R.val at hcall
      clear hc hx f6 hr
      by_cases hv : (fun r => hasI ls r.stamp) r = true
      · simp only [hv] at hcall
        have HV := Lib.hid hv
        clear hv
        go_wp2_with (go_at_call 59; (with_reducible refine hcall.mono ?_); rintro e w2 ⟨rfl, hb⟩; have H2 := Lib.hid (ptrans HW.out hb); clear hb)
        go_ret
        exact ⟨k, rfl, .inr ⟨k, rfl, by rw [HN.out]; exact hk2, by rw [← HR.out]; exact HV.out, HF.out⟩, H2.out⟩
      · simp only [Bool.not_eq_true] at hv
        simp only [hv] at hcall
        have HV := Lib.hid hv
        clear hv
        go_wp2_with (go_at_call 59; (with_reducible refine hcall.mono ?_); rintro e w2 ⟨rfl, hb⟩; have H2 := Lib.hid (ptrans HW.out hb); clear hb)
        go_roundw
        case rel =>
          refine ⟨k + 1, rfl, hk2, H2, fun j hj => ?_⟩
          rcases (by omega : j < k ∨ j = k) with hj | rfl
          · exact HF.out j hj
          · rw [← HR.out]
            exact HV.out
        case measure => simp only [intOf]; omega
set_option maxRecDepth 100000 in
set_option maxHeartbeats 4000000 in
theorem t_indexUpto (A : Option Addr) (n c : Nat) (l : List R) (w : World) (hl : RecsAt w A l) (hn : l.length = n) (hn2 : n ≤ 60000) (Bi : Nat) (s : Int) (hB : w.heap[Bi]? = some (.cells #[.int .u64 s] 31 (0, 0))) :
    Calls Tryz.prog 61 #[.slice A n c, .func (.func 62) #[] #[.pointer (some ⟨Bi, 0, none⟩)]] w fun e w' => ∃ i : Int, e = .returned (.int .i64 i) ∧ IdxIs (fun r => decide (s < r.stamp)) l i ∧ Below w.heap.size w w' := by
  have HL := Lib.hid hl
  have HN := Lib.hid hn
  have HB := Lib.hid hB
  clear hB
  clear hl hn
  go_enter Tryz.func61, Tryz.ntmps61
  go_wp2
  go_loopw [8] (fun x wr => ∃ k : Nat, x = .int .i64 (k : Int) ∧ k ≤ n ∧ Hid (Below w.heap.size w wr) ∧ Hid (∀ j, j < k → (fun r => decide (s < r.stamp)) (rAt l j) = false)) (fun x _ => n - (intOf x).toNat)
  case atStart => exact ⟨0, rfl, Nat.zero_le _, Below.refl _ _, fun j hj => by omega⟩
  case round =>
    obtain ⟨k, rfl, hk, HW, HF⟩ := hrel
    by_cases he : k = n
    · have hf : Hid (IdxIs (fun r => decide (s < r.stamp)) l (-1)) := .inl ⟨rfl, fun j hj => HF.out j (by rw [he, ← HN.out]; exact hj)⟩
      go_wp2
      go_ret
      exact ⟨-1, rfl, hf.out, HW.out⟩
    · have hk2 : k < n := by omega
      have hx := rAt_get2 (l := l) (k := k) (by rw [HN.out]; exact hk2)
      obtain ⟨r, hr⟩ : ∃ r, r = rAt l k := ⟨_, rfl⟩
      rw [← hr] at hx
      obtain ⟨b, o, rfl, hb, hc⟩ := (HL.out.below HW.out).at_ (fun e => by rw [e] at hx; simp at hx)
      have f6 := hc k r hx
      have r0 := f6 0 _ rfl
      rw [Nat.add_zero] at r0
      have r1 := f6 1 _ rfl
      have r2 := f6 2 _ rfl
      have r3 := f6 3 _ rfl
      have r4 := f6 4 _ rfl
      have r5 := f6 5 _ rfl
      have r6 := f6 6 _ rfl
      have r7 := f6 7 _ rfl
      have r8 := f6 8 _ rfl
      have r9 := f6 9 _ rfl
      have r10 := f6 10 _ rfl
      have r11 := f6 11 _ rfl
      have HR := Lib.hid hr
      have hcall := t_upto1 r Bi s wr ((HW.out.block _ (lt_heap HB.out)).trans HB.out)
      unfold R.val at hcall
      clear hc hx f6 hr
      by_cases hv : (fun r => decide (s < r.stamp)) r = true
      · simp only [hv] at hcall
        have HV := Lib.hid hv
        clear hv
        go_wp2_with (go_at_call 62; (with_reducible refine hcall.mono ?_); rintro e w2 ⟨rfl, hb⟩; have H2 := Lib.hid (ptrans HW.out hb); clear hb)
        go_ret
        exact ⟨k, rfl, .inr ⟨k, rfl, by rw [HN.out]; exact hk2, by rw [← HR.out]; exact HV.out, HF.out⟩, H2.out⟩
      · simp only [Bool.not_eq_true] at hv
        simp only [hv] at hcall
        have HV := Lib.hid hv
        clear hv
        go_wp2_with (go_at_call 62; (with_reducible refine hcall.mono ?_); rintro e w2 ⟨rfl, hb⟩; have H2 := Lib.hid (ptrans HW.out hb); clear hb)
        go_roundw
        case rel =>
          refine ⟨k + 1, rfl, hk2, H2, fun j hj => ?_⟩
          rcases (by omega : j < k ∨ j = k) with hj | rfl
          · exact HF.out j hj
          · rw [← HR.out]
            exact HV.out
        case measure => simp only [intOf]; omega
end Go.Proofs.YtehckjkihaalfaaGreat

/- slices.Clone and DeleteFunc over records, walked. -/
namespace Go.Proofs.YtehckjkihaalfaaGreat
open Go.RowKit Go.Maps

theorem flatR_len' (l : List R) : (flatR l).length = l.length * 12 := by
  induction l with
  | nil => rfl
  | cons r l ih => unfold flatR at *; rw [List.flatMap_cons, List.length_append, ih, List.length_cons, show (cellsL r).length = 12 from rfl]; omega
theorem flatR_one (l : List R) : ∀ u ∈ flatR l, u.oneCell' = true := fun u hu => by
  obtain ⟨r, _, h⟩ := List.mem_flatMap.1 hu
  simp only [cellsL, List.mem_cons, List.not_mem_nil, or_false] at h
  rcases h with rfl | rfl | rfl | rfl | rfl | rfl | rfl | rfl | rfl | rfl | rfl | rfl <;> rfl
theorem wpList_append_all {ops : Array Oper} {rest : List Oper} {o : Oper} {a : Act} {Q : Exit → Act → World → Prop} {w : World} (hgd : o.guard = none) (s x : Operand)
    (ho : o.op = .call { callee := .builtin .append, args := #[s, x], argTypes := #[37, 37] })
    (base : Nat) (v : Value) (l : List R) (n m c : Nat) (hs : a.eval s = v) (hown : w.ownsRow base 34 12 v 0 []) (b : Nat) (hm : l.length = m) (hx : a.eval x = .slice (some ⟨b, 0, none⟩) m c)
    (hq : ∀ j u, (flatR l)[j]? = some u → w.cell? ⟨b, j, none⟩ = some u) (hl : m ≤ 100000) (hbase : base ≤ w.heap.size)
    (h : ∀ A1 c1 w', w'.ownsRow base 34 12 (.slice A1 m c1) m (flatR l) → w.grownBy w' v.ownBlock → wpList Tryz.prog ops Q rest (a.put o.dst (.slice A1 m c1)) w') : wpList Tryz.prog ops Q (o :: rest) a w :=
  wpList_plain hgd fun _ hK => by
    obtain ⟨i0, hi, hz0, hz1, hz2⟩ := infoRec
    obtain ⟨v', w', hrun, h2, h3, _, _⟩ := run_append_own_at (P := Tryz.prog) w base 37 o.type 34 i0 _ 12 96 Tryz.underlying37 hi hz0 hz1 hz2 rfl (by decide) v 0 [] hown ⟨b, 0, none⟩ m c (flatR l)
      (by rw [flatR_len', hm]) (fun j u hu => by
        rw [Addr.add_mid, Nat.zero_add]
        exact hq j u hu) (flatR_one l) (by unfold maxLen; omega) (by omega) hbase
    rw [Nat.zero_add, List.nil_append] at h2
    unfold Oper.wp execOp
    simp only [ho, resolve, invoke, builtin, Sem.run_bind, Sem.run_pure, Result.andThen_ok, List.map_toArray, List.map_cons, List.map_nil, hs, hx, hrun]
    obtain ⟨A1, c1, rfl⟩ := row_slice h2
    exact hK _ _ (h A1 c1 w' h2 h3)
set_option maxRecDepth 100000 in
set_option maxHeartbeats 4000000 in
theorem t_cloneRec (A : Option Addr) (n c base : Nat) (l : List R) (w : World) (h : w.ownsRow base 34 12 (.slice A n c) n (flatR l)) (hn : l.length = n) (hn2 : n ≤ 60000) :
    Calls Tryz.prog 58 #[.slice A n c] w fun e w' => ∃ A1 c1, e = .returned (.slice A1 n c1) ∧ w'.ownsRow w.heap.size 34 12 (.slice A1 n c1) n (flatR l) ∧ Below w.heap.size w w' := by
  have H := Lib.hid h
  have HN := Lib.hid hn
  clear h hn
  cases A with
  | none =>
    have hn0 : n = 0 := by
      rcases H.out.2 with ⟨h1, h2⟩ | ⟨g, cap, cur, h1, _⟩
      · exact h2
      · simp at h1
    subst hn0
    obtain rfl := List.length_eq_zero_iff.1 HN.out
    go_enter Tryz.func58, Tryz.ntmps58
    have heq : ∀ W, Sem.run Tryz.prog (binOp .eql 37 (.slice none 0 c) (.slice none 0 0)) W = .ok (.bool true) W := fun W => Lib.run_eql_slice_nil W _ 34 _ _ _ _ _ Tryz.underlying37
    go_wp2
    go_ret
    exact ⟨none, 0, rfl, World.ownsRow_nil _ _ _ _, Below.refl _ _⟩
  | some a =>
    obtain ⟨g, rfl⟩ : ∃ g, a = ⟨g, 0, none⟩ := by
      rcases H.out.2 with ⟨h1, h2⟩ | ⟨g, cap, cur, h1, _⟩
      · simp at h1
      · simp only [Value.slice.injEq, Option.some.injEq] at h1
        exact ⟨g, h1.1⟩
    go_enter Tryz.func58, Tryz.ntmps58
    have heq : ∀ W, Sem.run Tryz.prog (binOp .eql 37 (.slice (some ⟨g, 0, none⟩) n c) (.slice none 0 0)) W = .ok (.bool false) W := fun W => Lib.run_eql_slice_nil W _ 34 _ _ _ _ _ Tryz.underlying37
    have hcell : ∀ j u, (flatR l)[j]? = some u → (w.alloc (.cells #[] 34)).cell? ⟨g, j, none⟩ = some u := fun j u hu => by
      have hj := (List.getElem?_eq_some_iff.1 hu).1
      rw [flatR_len', HN.out] at hj
      rw [World.cell?_of_block (a := ⟨g, j, none⟩) (heap_alloc_old w _ ((H.out.lt g rfl).2)), H.out.cellAt j hj]
      exact hu
    have HC := Lib.hid hcell
    have hown : (w.alloc (.cells #[] 34)).ownsRow w.heap.size 34 12 (.slice (some ⟨w.heap.size, 0, none⟩) 0 0) 0 [] := ⟨rfl, .inr ⟨w.heap.size, 0, #[], rfl, Nat.le_refl _, heap_alloc_new _ _, Nat.le_refl _, by decide, rfl, rfl⟩⟩
    have HOW := Lib.hid hown
    clear hcell hown
    go_wp2_with (at_builtin; refine wpList_append_all rfl _ _ rfl w.heap.size _ l 0 n c rfl HOW.out g HN.out rfl HC.out (by omega) (by rw [World.alloc_size']; omega) ?_; intro A2 d2 W4 g4 g5; have H4 := Lib.hid (And.intro g4 g5); clear g4 g5)
    go_ret
    refine ⟨A2, d2, rfl, H4.out.1, ?_⟩
    have hg := H4.out.2
    exact ⟨hg.os, hg.tape, hg.output, Nat.le_trans (by rw [World.alloc_size']; omega) hg.size, fun b hb => (hg.block b (by rw [World.alloc_size']; omega) (fun e => by have h1 : b = w.heap.size := Option.some.inj e; omega)).trans (heap_alloc_old _ _ hb)⟩
end Go.Proofs.YtehckjkihaalfaaGreat

/- slices.DeleteFunc over records, walked. -/
namespace Go.Proofs.YtehckjkihaalfaaGreat
open Go.RowKit Go.Maps

/-- Cells put in from a place on. -/
def setRange : List Value → Nat → List Value → List Value
  | xs, _, [] => xs
  | xs, o, v :: vs => setRange (xs.set o v) (o + 1) vs
theorem setRange_len (vs : List Value) : ∀ (xs : List Value) (o : Nat), (setRange xs o vs).length = xs.length := by
  induction vs with
  | nil => intro xs o; rfl
  | cons v vs ih => intro xs o; unfold setRange; rw [ih, List.length_set]
theorem setRange_take (vs : List Value) : ∀ (xs : List Value) (o m : Nat), m ≤ o → (setRange xs o vs).take m = xs.take m := by
  induction vs with
  | nil => intro xs o m _; rfl
  | cons v vs ih =>
    intro xs o m h
    unfold setRange
    rw [ih _ _ _ (by omega), List.take_set_of_le (by omega)]
theorem setRange_cons (a : Value) (vs : List Value) : ∀ (xs : List Value) (o : Nat), setRange (a :: xs) (o + 1) vs = a :: setRange xs o vs := by
  induction vs with
  | nil => intro xs o; rfl
  | cons v vs ih => intro xs o; unfold setRange; rw [List.set_cons_succ, ih]
theorem setRange_append (ys : List Value) : ∀ (xs vs : List Value) (o : Nat), setRange (ys ++ xs) (ys.length + o) vs = ys ++ setRange xs o vs := by
  induction ys with
  | nil => intro xs vs o; simp
  | cons y ys ih => intro xs vs o; rw [List.cons_append, List.length_cons, show ys.length + 1 + o = (ys.length + o) + 1 by omega, setRange_cons, ih]; rfl
theorem setRange_zero (vs : List Value) : ∀ (xs : List Value), vs.length ≤ xs.length → setRange xs 0 vs = vs ++ xs.drop vs.length := by
  induction vs with
  | nil => intro xs _; rfl
  | cons v vs ih =>
    intro xs h
    cases xs with
    | nil => simp at h
    | cons x xs =>
      unfold setRange
      rw [List.set_cons_zero, setRange_cons, ih xs (by simpa using h)]
      rfl
theorem setRange_rec (l : List R) (i : Nat) (r : R) (hi : i < l.length) : setRange (flatR l) (i * 12) (cellsL r) = flatR (l.set i r) := by
  induction l generalizing i with
  | nil => simp at hi
  | cons a l ih =>
    cases i with
    | zero =>
      rw [show 0 * 12 = 0 from rfl, setRange_zero _ _ (by rw [flatR_len', show (cellsL r).length = 12 from rfl, List.length_cons]; omega)]
      show cellsL r ++ (cellsL a ++ flatR l).drop 12 = cellsL r ++ flatR l
      rw [List.drop_append, show (cellsL a).length = 12 from rfl, List.drop_of_length_le (by rw [show (cellsL a).length = 12 from rfl]; omega)]
      simp
    | succ i =>
      have := ih i (by simpa using hi)
      rw [show (i + 1) * 12 = (cellsL a).length + i * 12 by rw [show (cellsL a).length = 12 from rfl]; omega]
      show setRange (cellsL a ++ flatR l) _ _ = cellsL a ++ flatR (l.set i r)
      rw [setRange_append, this]
theorem own_setCells {base size n c g : Nat} {e : TypeId} (vs : List Value) : ∀ {w : World} {xs : List Value} (o : Nat), w.ownsRow base e size (.slice (some ⟨g, 0, none⟩) n c) n xs → (w.setCells g o vs).ownsRow base e size (.slice (some ⟨g, 0, none⟩) n c) n (setRange xs o vs) := by
  induction vs with
  | nil => intro w xs o h; exact h
  | cons v vs ih => intro w xs o h; exact ih (o + 1) (h.stored o v).1
theorem setCells_other (g : Nat) (vs : List Value) : ∀ (w : World) (o b : Nat), b ≠ g → (w.setCells g o vs).heap[b]? = w.heap[b]? := by
  induction vs with
  | nil => intro w o b _; rfl
  | cons v vs ih => intro w o b h; exact (ih _ (o + 1) b h).trans (heap_setCell_other w ⟨g, o, none⟩ b v h)
theorem setCells_size (g : Nat) (vs : List Value) : ∀ (w : World) (o : Nat), (w.setCells g o vs).heap.size = w.heap.size := by
  induction vs with
  | nil => intro w o; rfl
  | cons v vs ih => intro w o; exact (ih _ (o + 1)).trans (by simp)
theorem setCells_rest (g : Nat) (vs : List Value) : ∀ (w : World) (o : Nat), (w.setCells g o vs).os = w.os ∧ (w.setCells g o vs).tape = w.tape ∧ (w.setCells g o vs).output = w.output := by
  induction vs with
  | nil => intro w o; exact ⟨rfl, rfl, rfl⟩
  | cons v vs ih => intro w o; exact ih _ (o + 1)
theorem below_setCells' {B g : Nat} (w : World) (o : Nat) (vs : List Value) (hg : B ≤ g) : Below B w (w.setCells g o vs) :=
  ⟨(setCells_rest g vs w o).1, (setCells_rest g vs w o).2.1, (setCells_rest g vs w o).2.2, by rw [setCells_size]; omega, fun b hb => setCells_other g vs w o b (by omega)⟩
/-- A shorter row. -/
theorem own_take {w : World} {base size n c g m : Nat} {e : TypeId} {xs : List Value} (h : w.ownsRow base e size (.slice (some ⟨g, 0, none⟩) n c) n xs) (hm : m ≤ n) : w.ownsRow base e size (.slice (some ⟨g, 0, none⟩) m c) m (xs.take (m * size)) := by
  have hle : m * size ≤ n * size := Nat.mul_le_mul_right _ hm
  rcases h.2 with ⟨h', h1⟩ | ⟨g', cap', cur, h', h1, h2, h3, h4, h5, h6⟩
  · simp at h'
  · simp only [Value.slice.injEq, Option.some.injEq, Addr.mk.injEq] at h'
    obtain ⟨⟨rfl, _⟩, _, rfl⟩ := h'
    refine ⟨by rw [List.length_take, h.1]; omega, .inr ⟨g, c, cur, rfl, h1, h2, by omega, h4, h5, ?_⟩⟩
    rw [← h6, List.take_take, Nat.min_eq_left hle]
theorem zero_rec (w : World) : Sem.run Tryz.prog (zeroValue 34) w = .ok (.agg #[.int .u64 0, .int .u8 0, .int .u32 0, .string ⟨#[]⟩, .int .u32 0, .int .u8 0, .int .u32 0, .string ⟨#[]⟩, .int .u32 0, .int .u32 0, .int .i64 0, .string ⟨#[]⟩]) w := by kernel_rfl
/-- clear, over records. -/
theorem run_clear_rec (w : World) (ty : TypeId) (b o n c : Nat) (hc : ∀ j, j < n * 12 → (w.cell? ⟨b, o + j, none⟩).isSome = true) (hf : ∀ j, j < n * 12 → w.frozen? ⟨b, o + j, none⟩ = false) :
    ∃ zs : List Value, (Builtin.clear_ #[37] ty #[.slice (some ⟨b, o, none⟩) n c]).run Tryz.prog w = .ok (.tuple #[]) (w.setCells b o zs) := by
  cases n with
  | zero => exact ⟨[], by simp [Builtin.clear_, run_underlying Tryz.underlying37, World.setCells]⟩
  | succ m =>
    refine ⟨(Builtin.zeroCells (Value.agg #[.int .u64 0, .int .u8 0, .int .u32 0, .string ⟨#[]⟩, .int .u32 0, .int .u8 0, .int .u32 0, .string ⟨#[]⟩, .int .u32 0, .int .u32 0, .int .i64 0, .string ⟨#[]⟩]).cells (m + 1)).toList, ?_⟩
    have hlen : (Builtin.zeroCells (Value.agg #[.int .u64 0, .int .u8 0, .int .u32 0, .string ⟨#[]⟩, .int .u32 0, .int .u8 0, .int .u32 0, .string ⟨#[]⟩, .int .u32 0, .int .u32 0, .int .i64 0, .string ⟨#[]⟩]).cells (m + 1)).toList.length = (m + 1) * 12 := by
      rw [Array.length_toList, size_zeroCells]
      rfl
    have h1 : ∀ v ∈ (Builtin.zeroCells (Value.agg #[.int .u64 0, .int .u8 0, .int .u32 0, .string ⟨#[]⟩, .int .u32 0, .int .u8 0, .int .u32 0, .string ⟨#[]⟩, .int .u32 0, .int .u32 0, .int .i64 0, .string ⟨#[]⟩]).cells (m + 1)).toList, v.oneCell' = true := fun v hv => by
      unfold Builtin.zeroCells at hv
      rw [Array.toList_map] at hv
      obtain ⟨i, _, rfl⟩ := List.mem_map.1 hv
      have : i % 12 < 12 := Nat.mod_lt _ (by decide)
      show Value.oneCell' ((#[.int .u64 0, .int .u8 0, .int .u32 0, .string ⟨#[]⟩, .int .u32 0, .int .u8 0, .int .u32 0, .string ⟨#[]⟩, .int .u32 0, .int .u32 0, .int .i64 0, .string ⟨#[]⟩] : Array Value)[i % 12]!) = true
      generalize i % 12 = k at this
      rcases (by omega : k = 0 ∨ k = 1 ∨ k = 2 ∨ k = 3 ∨ k = 4 ∨ k = 5 ∨ k = 6 ∨ k = 7 ∨ k = 8 ∨ k = 9 ∨ k = 10 ∨ k = 11) with rfl | rfl | rfl | rfl | rfl | rfl | rfl | rfl | rfl | rfl | rfl | rfl <;> rfl
    have hst := run_storeCells_cells (P := Tryz.prog) b o _ 0 w (by rw [hlen]; simpa using hc) (by rw [hlen]; simpa using hf) h1
    simp only [Nat.add_zero] at hst
    simp [Builtin.clear_, run_underlying Tryz.underlying37, zero_rec, hst]
end Go.Proofs.YtehckjkihaalfaaGreat

/- slices.DeleteFunc over records. -/
namespace Go.Proofs.YtehckjkihaalfaaGreat
open Go.RowKit Go.Maps

def delL (p : R → Bool) (l : List R) : List R := l.filter fun r => !p r
/-- Ahead of place j all is done: i stay. -/
structure DelSt (p : R → Bool) (l L : List R) (n j i : Nat) : Prop where
  len : L.length = n
  take : L.take i = delL p (l.take j)
  cnt : (delL p (l.take j)).length = i
  rest : ∀ k, j ≤ k → k < n → rAt L k = rAt l k
theorem take_succ_rAt {l : List R} {k : Nat} (h : k < l.length) : l.take (k + 1) = l.take k ++ [rAt l k] := by
  rw [List.take_succ_eq_append_getElem h]
  congr 2
  unfold rAt
  rw [List.getD_eq_getElem?_getD, List.getElem?_eq_getElem h]
  rfl
theorem delL_none {p : R → Bool} {l : List R} (h : ∀ j, j < l.length → p (rAt l j) = false) : delL p l = l := by
  unfold delL
  rw [List.filter_eq_self]
  intro r hr
  obtain ⟨k, hk, rfl⟩ := List.getElem_of_mem hr
  have := h k hk
  unfold rAt at this
  rw [List.getD_eq_getElem?_getD, List.getElem?_eq_getElem hk] at this
  rw [show p l[k] = false from this]
  rfl
theorem DelSt.start {p : R → Bool} {l : List R} {k : Nat} (hk : k < l.length) (hp : p (rAt l k) = true) (h : ∀ j, j < k → p (rAt l j) = false) : DelSt p l l l.length (k + 1) k := by
  have h1 : delL p (l.take (k + 1)) = l.take k := by
    rw [take_succ_rAt hk]
    unfold delL
    rw [List.filter_append]
    have h2 := delL_none (p := p) (l := l.take k) fun j hj => by
      rw [List.length_take] at hj
      have := h j (by omega)
      unfold rAt at this ⊢
      rw [List.getD_eq_getElem?_getD] at this ⊢
      rw [List.getElem?_take_of_lt (by omega)]
      exact this
    unfold delL at h2
    rw [h2]
    simp [hp]
  exact ⟨rfl, h1.symm, by rw [h1, List.length_take]; omega, fun _ _ _ => rfl⟩
theorem DelSt.le {p : R → Bool} {l L : List R} {n j i : Nat} (h : DelSt p l L n j i) : i ≤ j := by
  rw [← h.cnt]
  unfold delL
  exact Nat.le_trans (List.length_filter_le _ _) (by rw [List.length_take]; omega)
theorem DelSt.skip {p : R → Bool} {l L : List R} {n j i : Nat} (h : DelSt p l L n j i) (hl : l.length = n) (hj : j < n) (hp : p (rAt l j) = true) : DelSt p l L n (j + 1) i := by
  have h1 : delL p (l.take (j + 1)) = delL p (l.take j) := by
    rw [take_succ_rAt (by omega)]
    unfold delL
    rw [List.filter_append]
    simp [hp]
  exact ⟨h.len, by rw [h1]; exact h.take, by rw [h1]; exact h.cnt, fun k h2 h3 => h.rest k (by omega) h3⟩
theorem DelSt.keep {p : R → Bool} {l L : List R} {n j i : Nat} (h : DelSt p l L n j i) (hl : l.length = n) (hj : j < n) (hp : p (rAt l j) = false) : DelSt p l (L.set i (rAt l j)) n (j + 1) (i + 1) := by
  have hij := h.le
  have h1 : delL p (l.take (j + 1)) = delL p (l.take j) ++ [rAt l j] := by
    rw [take_succ_rAt (by omega)]
    unfold delL
    rw [List.filter_append]
    simp [hp]
  refine ⟨by rw [List.length_set]; exact h.len, ?_, by rw [h1, List.length_append, h.cnt]; rfl, fun k h2 h3 => ?_⟩
  · rw [h1, ← h.take]
    have hi : i < L.length := by rw [h.len]; omega
    rw [List.take_succ_eq_append_getElem (by rw [List.length_set]; exact hi), List.getElem_set_self, List.take_set_of_le (Nat.le_refl _)]
  · rw [← h.rest k (by omega) h3]
    unfold rAt
    simp only [List.getD_eq_getElem?_getD]
    rw [List.getElem?_set_ne (by omega)]
theorem IdxIs.cases {p : R → Bool} {l : List R} {i : Int} (h : IdxIs p l i) : (i = -1 ∧ Hid (∀ j, j < l.length → p (rAt l j) = false)) ∨ ∃ k : Nat, i = (k : Int) ∧ ((k : Int) == -1) = false ∧ Hid (k < l.length ∧ p (rAt l k) = true ∧ ∀ j, j < k → p (rAt l j) = false) := by
  rcases h with ⟨h1, h2⟩ | ⟨k, h1, h2⟩
  · exact .inl ⟨h1, h2⟩
  · exact .inr ⟨k, h1, by simp, h2⟩
theorem flatR_take (L : List R) (i : Nat) : (flatR L).take (i * 12) = flatR (L.take i) := by
  induction L generalizing i with
  | nil => simp [flatR]
  | cons a L ih =>
    cases i with
    | zero => simp [flatR]
    | succ i =>
      rw [List.take_succ_cons]
      show (cellsL a ++ flatR L).take _ = cellsL a ++ flatR (L.take i)
      rw [← ih i, List.take_append, show (cellsL a).length = 12 from rfl, List.take_of_length_le (by rw [show (cellsL a).length = 12 from rfl]; omega)]
      congr 2
      omega
theorem own_below' {wr w2 : World} {base n c : Nat} {A : Option Addr} {o : Obj} {xs : List Value} (h : wr.ownsRow base 34 12 (.slice A n c) n xs) (hb : Below (wr.alloc o).heap.size (wr.alloc o) w2) : w2.ownsRow base 34 12 (.slice A n c) n xs := row_below (h.alloc _) hb
theorem rec_at {wr w2 : World} {base n c g i : Nat} {o : Obj} {L : List R} (h : wr.ownsRow base 34 12 (.slice (some ⟨g, 0, none⟩) n c) n (flatR L)) (hb : Below (wr.alloc o).heap.size (wr.alloc o) w2) (hn : L.length = n) (hi : i < n) :
    ∀ q v, (cellsR (rAt L i))[q]? = some v → w2.cell? ⟨g, i * 12 + q, none⟩ = some v := fun q v hq => by
  have hq12 : q < 12 := (Array.getElem?_eq_some_iff.1 hq).1
  rw [(own_below' h hb).cellAt _ (by omega)]
  exact flatR_get (rAt_get2 (by omega)) hq
set_option maxRecDepth 100000 in
set_option maxHeartbeats 8000000 in
theorem t_deleteTake (A : Option Addr) (n c base : Nat) (l : List R) (w : World) (h : w.ownsRow base 34 12 (.slice A n c) n (flatR l)) (hn : l.length = n) (hn2 : n ≤ 60000) (hok : ∀ r ∈ l, RecOk r) (Bi : Nat) (As : Option Addr) (ns cs : Nat) (ls : List Int)
    (hns : ls.length = ns) (hns2 : ns ≤ 9223372036854775807) (hbw : base ≤ w.heap.size) (hB : ∀ W, Below base w W → U64At W As ls ∧ W.heap[Bi]? = some (.cells #[.slice As ns cs] 23 (0, 0))) :
    Calls Tryz.prog 57 #[.slice A n c, .func (.func 59) #[] #[.pointer (some ⟨Bi, 0, none⟩)]] w fun e w' =>
      ∃ A1 m c1, e = .returned (.slice A1 m c1) ∧ m = (delL (fun r => hasI ls r.stamp) l).length ∧ w'.ownsRow base 34 12 (.slice A1 m c1) m (flatR (delL (fun r => hasI ls r.stamp) l)) ∧ Below base w w' := by
  have H := Lib.hid h
  have HN := Lib.hid hn
  have HOK := Lib.hid hok
  have HNS := Lib.hid hns
  have HB := Lib.hid hB
  clear h hn hok hns hB
  go_enter Tryz.func57, Tryz.ntmps57
  go_wp2_with (go_at_call 61; (with_reducible refine (t_indexTake A n c l w (recs_of_row H.out HN.out HOK.out) HN.out hn2 Bi As ns cs ls (HB.out w (Below.refl _ _)).1 HNS.out hns2 (HB.out w (Below.refl _ _)).2).mono ?_); rintro e w1 ⟨i, rfl, hi, hb⟩; have HW1 := Lib.hid hb; clear hb; rcases hi.cases with ⟨rfl, hno⟩ | ⟨k, rfl, hne, hf⟩)
  · have HD : Hid (delL (fun r => hasI ls r.stamp) l = l) := delL_none hno.out
    go_ret
    refine ⟨A, n, c, rfl, ?_, ?_, HW1.out.mono hbw⟩
    · rw [HD.out, HN.out]
    · rw [HD.out]
      exact row_below H.out HW1.out
  · have HB1 : Hid (Below base w w1) := HW1.out.mono hbw
    obtain ⟨hk, hp, hlt⟩ := hf.out
    have hst := DelSt.start (p := fun r => hasI ls r.stamp) hk hp hlt
    rw [HN.out] at hst hk
    have HST := Lib.hid hst
    have hg : ∃ g, A = some ⟨g, 0, none⟩ ∧ base ≤ g := by
      rcases H.out.2 with ⟨h', h0⟩ | ⟨g, cap, cur, h', h1, _⟩
      · omega
      · simp only [Value.slice.injEq] at h'
        exact ⟨g, h'.1, h1⟩
    obtain ⟨g, rfl, hgb⟩ := hg
    have HOW : Hid (w1.ownsRow base 34 12 (.slice (some ⟨g, 0, none⟩) n c) n (flatR l)) := row_below H.out HW1.out
    have hcap : n ≤ c := row_cap H.out
    have hw1 : wrap64 ((k : Int) + 1) = (k : Int) + 1 := by unfold wrap64; omega
    have HWR := Lib.hid hw1
    clear hp hlt hst hf hw1
    go_wp2
    go_loopw [5, 6] (fun v x wr => ∃ (i j : Nat), v = .int .i64 (i : Int) ∧ x = .int .i64 (j : Int) ∧ j ≤ n ∧ i < j ∧ Hid (∃ L, DelSt (fun r => hasI ls r.stamp) l L n j i ∧ wr.ownsRow base 34 12 (.slice (some ⟨g, 0, none⟩) n c) n (flatR L) ∧ Below base w wr)) (fun _ x _ => n - (intOf x).toNat)
    case atStart => exact ⟨k, k + 1, rfl, by simp [HWR.out], hk, Nat.lt_succ_self _, l, HST.out, HOW.out, HB1.out⟩
    case round =>
      obtain ⟨i, j, rfl, rfl, hj, hij, HI⟩ := hrel
      obtain ⟨L, hd, ho, hb⟩ := HI.out
      have HD := Lib.hid hd
      have HO := Lib.hid ho
      have HBW := Lib.hid hb
      clear hd ho hb HI
      by_cases he : j = n
      · have he' := he.symm
        subst he'
        have hin : (i : Int) ≤ (n : Int) := by omega
        have hic : (i : Int) ≤ (c : Int) := by omega
        obtain ⟨zs, hzs⟩ := run_clear_rec wr 0 g (i * 12) (n - i) (c - i)
          (fun q hq => by rw [HO.out.cellAt _ (by omega)]; rw [List.getElem?_eq_getElem (by rw [flatR_len', HD.out.len]; omega)]; rfl)
          (fun q hq => HO.out.frozenAt _)
        have HOZ := Lib.hid (own_setCells zs (i * 12) HO.out)
        have HBZ := Lib.hid (HBW.out.trans (below_setCells' wr (i * 12) zs hgb))
        go_wp2
        go_ret
        have hfin : delL (fun r => hasI ls r.stamp) l = L.take i := by
          rw [HD.out.take, List.take_of_length_le (by rw [HN.out]; exact Nat.le_refl _)]
        refine ⟨some ⟨g, 0, none⟩, i, c, rfl, ?_, ?_, HBZ.out⟩
        · rw [hfin, List.length_take, HD.out.len]
          omega
        · rw [hfin, ← flatR_take, ← setRange_take zs _ _ _ (Nat.le_refl _)]
          exact own_take HOZ.out (by omega)
      · have hjn : j < n := by omega
        have hjn' : (j : Int) < (n : Int) := by omega
        obtain ⟨r, hr⟩ : ∃ r, r = rAt l j := ⟨_, rfl⟩
        have hx : L[j]? = some r := by rw [hr, ← HD.out.rest j (Nat.le_refl _) hjn]; exact rAt_get2 (by rw [HD.out.len]; exact hjn)
        have f6 : ∀ q v, (cellsR r)[q]? = some v → wr.cell? ⟨g, j * 12 + q, none⟩ = some v := fun q v hq => by
          have hq12 : q < 12 := (Array.getElem?_eq_some_iff.1 hq).1
          rw [HO.out.cellAt _ (by omega)]
          exact flatR_get hx hq
        have r0 := f6 0 _ rfl
        rw [Nat.add_zero] at r0
        have r1 := f6 1 _ rfl
        have r2 := f6 2 _ rfl
        have r3 := f6 3 _ rfl
        have r4 := f6 4 _ rfl
        have r5 := f6 5 _ rfl
        have r6 := f6 6 _ rfl
        have r7 := f6 7 _ rfl
        have r8 := f6 8 _ rfl
        have r9 := f6 9 _ rfl
        have r10 := f6 10 _ rfl
        have r11 := f6 11 _ rfl
        have hba : Below base w (wr.alloc (.cells (cellsR r) 34)) := HBW.out.trans ((below_a1' wr _).mono (Nat.le_trans hbw HBW.out.size))
        have hcall := t_take1 r Bi As ns cs ls (wr.alloc (.cells (cellsR r) 34)) (HB.out _ hba).1 HNS.out hns2 (HB.out _ hba).2
        unfold R.val at hcall
        have HBA := Lib.hid hba
        have HR := Lib.hid hr
        clear f6 hx hr hba
        by_cases hv : hasI ls r.stamp = true
        · rw [hv] at hcall
          have HV := Lib.hid hv
          clear hv
          go_wp2_with (go_at_call 59; (with_reducible refine hcall.mono ?_); rintro e w2 ⟨rfl, hb⟩; have H2 := Lib.hid hb; clear hb)
          go_roundw
          case rel => 
            refine ⟨i, j + 1, rfl, rfl, hjn, by omega, L, HD.out.skip HN.out hjn (HR.out ▸ HV.out), own_below' HO.out H2.out, HBA.out.trans (H2.out.mono ?_)⟩
            have := HBW.out.size
            rw [World.alloc_size']
            omega
          case measure => simp only [intOf]; omega
        · simp only [Bool.not_eq_true] at hv
          rw [hv] at hcall
          have HV := Lib.hid hv
          clear hv
          have hin' : (i : Int) < (n : Int) := by omega
          go_wp2_with (go_at_call 59; (with_reducible refine hcall.mono ?_); rintro e w2 ⟨rfl, hb⟩; have H2 := Lib.hid hb; have t6 := rec_cell0 ((hb.block wr.heap.size (by rw [World.alloc_size']; omega)).trans (heap_alloc_new wr _)); clear hb; have t0 := t6 0 _ rfl; have t1 := t6 1 _ rfl; have t2 := t6 2 _ rfl; have t3 := t6 3 _ rfl; have t4 := t6 4 _ rfl; have t5 := t6 5 _ rfl;  have t7 := t6 7 _ rfl; have t8 := t6 8 _ rfl; have t9 := t6 9 _ rfl; have t10 := t6 10 _ rfl; have t11 := t6 11 _ rfl; replace t6 := t6 6 _ rfl; have q6 := rec_at HO.out H2.out HD.out.len (by omega : i < n); have q0 := q6 0 _ rfl; have q1 := q6 1 _ rfl; have q2 := q6 2 _ rfl; have q3 := q6 3 _ rfl; have q4 := q6 4 _ rfl; have q5 := q6 5 _ rfl;  have q7 := q6 7 _ rfl; have q8 := q6 8 _ rfl; have q9 := q6 9 _ rfl; have q10 := q6 10 _ rfl; have q11 := q6 11 _ rfl; replace q6 := q6 6 _ rfl; rw [Nat.add_zero] at q0; have z6 := fun j => (own_below' HO.out H2.out).frozenAt j; have z0 := z6 (i * 12 + 0); have z1 := z6 (i * 12 + 1); have z2 := z6 (i * 12 + 2); have z3 := z6 (i * 12 + 3); have z4 := z6 (i * 12 + 4); have z5 := z6 (i * 12 + 5);  have z7 := z6 (i * 12 + 7); have z8 := z6 (i * 12 + 8); have z9 := z6 (i * 12 + 9); have z10 := z6 (i * 12 + 10); have z11 := z6 (i * 12 + 11); replace z6 := z6 (i * 12 + 6); rw [Nat.add_zero] at z0)
          go_roundw
          case rel =>
            refine ⟨i + 1, j + 1, rfl, rfl, hjn, by omega, L.set i r, HR.out ▸ HD.out.keep HN.out hjn (HR.out ▸ HV.out), ?_, HBA.out.trans ((H2.out.mono ?_).trans ?_)⟩
            · rw [← setRange_rec L i r (by rw [HD.out.len]; omega)]
              exact own_setCells (cellsL r) (i * 12) (own_below' HO.out H2.out)
            · have := HBW.out.size
              rw [World.alloc_size']
              omega
            · exact below_setCells' w2 (i * 12) (cellsL r) hgb
          case measure => simp only [intOf]; omega
end Go.Proofs.YtehckjkihaalfaaGreat
