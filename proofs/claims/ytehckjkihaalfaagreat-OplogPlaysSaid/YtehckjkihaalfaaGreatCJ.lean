/- Rows compared, walked. -/
import Derived.Test.YtehckjkihaalfaaGreatCI
import Derived.Laws.StructEq
namespace Go.Proofs.YtehckjkihaalfaaGreat
open Go.RowKit Go.Maps

set_option maxRecDepth 100000 in
set_option maxHeartbeats 4000000 in
theorem t_sameInts (A B : Option Addr) (n m ca cb : Nat) (la lb : List Int) (r : Bool) (hr : decide (la = lb) = r) (w : World) (ha : IntsAt w A la) (hn : la.length = n) (hn2 : n ≤ 60000) (hb : IntsAt w B lb) (hm : lb.length = m) (hm2 : m ≤ 60000) :
    Calls Tryz.prog 38 #[.slice A n ca, .slice B m cb] w fun e w' => e = .returned (.bool r) ∧ Below w.heap.size w w' := by
  have HR := Lib.hid hr
  have HA := Lib.hid ha
  have HB := Lib.hid hb
  have HNN := Lib.hid hn
  have HMM := Lib.hid hm
  clear ha hb hn hm hr
  by_cases hnm : n = m
  · subst hnm
    go_enter Tryz.func38, Tryz.ntmps38
    go_wp2
    go_loopw [5] (fun x wr => ∃ i : Nat, x = .int .i64 (i : Int) ∧ i ≤ n ∧ Hid (Below w.heap.size w wr) ∧ Hid (la.take i = lb.take i)) (fun x _ => n - (intOf x).toNat)
    case atStart => exact ⟨0, rfl, Nat.zero_le _, Below.refl _ _, rfl⟩
    case round =>
      obtain ⟨i, rfl, hi, HW, HT⟩ := hrel
      by_cases he : i = n
      · have hf : Hid (r = true) := by
          show r = true
          rw [← HR.out, decide_eq_true_eq]
          have h := HT.out
          rw [List.take_of_length_le (by rw [HNN.out]; omega), List.take_of_length_le (by rw [HMM.out]; omega)] at h
          exact h
        go_wp2
        go_ret
        exact ⟨by rw [hf.out]; rfl, HW.out⟩
      · have hi2 : i < n := by omega
        obtain ⟨b, o, rfl, c1⟩ := ints_cell (HA.out.below HW.out) (k := i) (by rw [HNN.out]; exact hi2)
        obtain ⟨b2, o2, rfl, c2⟩ := ints_cell (HB.out.below HW.out) (k := i) (by rw [HMM.out]; exact hi2)
        obtain ⟨x, hx⟩ : ∃ x, la[i]'(by rw [HNN.out]; exact hi2) = x := ⟨_, rfl⟩
        obtain ⟨y, hy⟩ : ∃ y, lb[i]'(by rw [HMM.out]; exact hi2) = y := ⟨_, rfl⟩
        rw [hx] at c1
        rw [hy] at c2
        have HX : Hid (la[i]? = some x) := by show _ = _; rw [← hx]; exact List.getElem?_eq_getElem _
        have HY : Hid (lb[i]? = some y) := by show _ = _; rw [← hy]; exact List.getElem?_eq_getElem _
        clear hx hy
        by_cases hxy : x = y
        · subst hxy
          go_wp2
          go_quiet (fail)
          generalize hw2 : wr.drewN _ = w2
          have HB2 : Hid (Below w.heap.size w w2) := by rw [← hw2]; exact pbelow_drewN HW.out _
          clear hw2
          go_wp2
          go_roundw
          case rel => exact ⟨i + 1, rfl, hi2, HB2, by show _ = _; rw [List.take_add_one, List.take_add_one, HT.out, HX.out, HY.out]⟩
          case measure => simp only [intOf]; omega
        · have hxy2 : (x == y) = false := by simpa using hxy
          have hf : Hid (r = false) := by
            show r = false
            rw [← HR.out, decide_eq_false_iff_not]
            intro h
            have h1 := HX.out
            rw [h, HY.out] at h1
            exact hxy (Option.some.inj h1).symm
          clear hxy
          go_wp2
          go_quiet (fail)
          generalize hw2 : wr.drewN _ = w2
          have HB2 : Hid (Below w.heap.size w w2) := by rw [← hw2]; exact pbelow_drewN HW.out _
          clear hw2
          go_wp2
          go_ret
          exact ⟨by rw [hf.out]; rfl, HB2.out⟩
  · have hnm2 : ((n : Int) == m) = false := by simp; omega
    have hf : Hid (r = false) := by
      show r = false
      rw [← HR.out, decide_eq_false_iff_not]
      intro h
      apply hnm
      rw [← HNN.out, ← HMM.out, h]
    go_enter Tryz.func38, Tryz.ntmps38
    go_wp2
    go_ret
    exact ⟨by rw [hf.out]; rfl, Below.refl _ _⟩
/-- Are two records one? -/
def eqR (x y : R) : Bool := x.stamp == y.stamp && (x.act == y.act && (x.dir == y.dir && (x.name.toList == y.name.toList && (x.ino == y.ino && (x.kind == y.kind && (x.dir2 == y.dir2 && (x.name2.toList == y.name2.toList && (x.old == y.old && (x.size == y.size && (x.page == y.page && x.data.toList == y.data.toList))))))))))
theorem bytes_eq {a b : ByteArray} (h : a.toList = b.toList) : a = b := by
  rw [ByteArray.toList_eq, ByteArray.toList_eq] at h
  exact ByteArray.ext (Array.ext' h)
theorem eqR_iff {x y : R} : eqR x y = true ↔ x = y := by
  obtain ⟨x0, x1, x2, x3, x4, x5, x6, x7, x8, x9, xA, xB⟩ := x
  obtain ⟨y0, y1, y2, y3, y4, y5, y6, y7, y8, y9, yA, yB⟩ := y
  unfold eqR
  simp only [R.mk.injEq, Bool.and_eq_true, beq_iff_eq]
  constructor
  · rintro ⟨a, b, c, d, e, f, g, h, i, j, k, l⟩
    exact ⟨a, b, c, bytes_eq d, e, f, g, bytes_eq h, i, j, k, bytes_eq l⟩
  · rintro ⟨a, b, c, d, e, f, g, h, i, j, k, l⟩
    exact ⟨a, b, c, by rw [d], e, f, g, by rw [h], i, j, k, by rw [l]⟩
theorem ite_last {α : Type} [BEq α] [LawfulBEq α] {a b : α} [Decidable (a = b)] {w : World} : (if a = b then Result.ok (Value.bool false) w else Result.ok (Value.bool true) w) = Result.ok (Value.bool (!(a == b))) w := by
  split <;> simp_all
theorem ite_step {α : Type} [BEq α] [LawfulBEq α] {a b : α} [Decidable (a = b)] {c : Bool} {w : World} : (if a = b then Result.ok (Value.bool (!c)) w else Result.ok (Value.bool true) w) = Result.ok (Value.bool (!(a == b && c))) w := by
  split <;> simp_all
set_option maxRecDepth 100000 in
theorem neq_rec (x y : R) (w : World) : (binOp .neq 34 x.val y.val).run Tryz.prog w = .ok (.bool (!eqR x y)) w := by
  unfold R.val
  go_simp
  unfold eqR
  rw [ite_last]
  repeat rw [ite_step]
theorem flatR_get : ∀ {l : List R} {k : Nat} {r : R}, l[k]? = some r → ∀ {i : Nat} {v : Value}, (cellsR r)[i]? = some v → (flatR l)[k * 12 + i]? = some v
  | [], k, r, h, i, v, hv => by simp at h
  | a :: l, 0, r, h, i, v, hv => by
    simp at h
    subst h
    have hi : i < 12 := (Array.getElem?_eq_some_iff.1 hv).1
    unfold flatR
    rw [List.flatMap_cons, Nat.zero_mul, Nat.zero_add, List.getElem?_append_left (by simpa [cellsL] using hi)]
    show (cellsR a).toList[i]? = _
    rw [Array.getElem?_toList]
    exact hv
  | a :: l, k + 1, r, h, i, v, hv => by
    have h2 : l[k]? = some r := by simpa using h
    have h3 := flatR_get h2 hv
    unfold flatR at h3 ⊢
    have e : (cellsL a).length = 12 := rfl
    rw [List.flatMap_cons, List.getElem?_append_right (by rw [e]; omega), e, show (k + 1) * 12 + i - 12 = k * 12 + i by omega]
    exact h3
theorem recs_of_row {w : World} {base n c : Nat} {A : Option Addr} {l : List R} (h : w.ownsRow base 34 12 (.slice A n c) n (flatR l)) (hn : l.length = n) (hok : ∀ r ∈ l, RecOk r) : RecsAt w A l := ⟨fun hl => by
  rcases h.2 with ⟨h', h1⟩ | ⟨g, cap, cur, h', _, hc, _⟩
  · exact absurd (List.eq_nil_of_length_eq_zero (by omega)) hl
  · simp only [Value.slice.injEq] at h'
    obtain ⟨rfl, _, rfl⟩ := h'
    refine ⟨g, 0, rfl, lt_heap hc, fun k r hk i v hv => ?_⟩
    have hk2 := (List.getElem?_eq_some_iff.1 hk).1
    have hi : i < 12 := (Array.getElem?_eq_some_iff.1 hv).1
    rw [Nat.zero_add, h.cellAt _ (by omega)]
    exact flatR_get hk hv, hok⟩
theorem rAt_mem {l : List R} {k : Nat} (h : k < l.length) : rAt l k ∈ l := by
  unfold rAt
  rw [List.getD_eq_getElem?_getD, List.getElem?_eq_getElem h]
  exact List.getElem_mem h
theorem pickL_ok {l : List R} {inos : List Int} {of : Bool} (h : ∀ r ∈ l, RecOk r) : ∀ r ∈ pickL l inos of, RecOk r := fun r hr => by
  unfold pickL pickTo at hr
  obtain ⟨k, hk, rfl⟩ := List.mem_map.1 hr
  exact h _ (rAt_mem (List.mem_range.1 (List.mem_filter.1 hk).1))
set_option maxRecDepth 100000 in
set_option maxHeartbeats 4000000 in
theorem t_same (A B : Option Addr) (n m ca cb : Nat) (la lb : List R) (r : Bool) (hr : r = true ↔ la = lb) (w : World) (ha : RecsAt w A la) (hn : la.length = n) (hn2 : n ≤ 60000) (hb : RecsAt w B lb) (hm : lb.length = m) (hm2 : m ≤ 60000) :
    Calls Tryz.prog 17 #[.slice A n ca, .slice B m cb] w fun e w' => e = .returned (.bool r) ∧ Below w.heap.size w w' := by
  have HR := Lib.hid hr
  have HA := Lib.hid ha
  have HB := Lib.hid hb
  have HNN := Lib.hid hn
  have HMM := Lib.hid hm
  clear ha hb hn hm hr
  by_cases hnm : n = m
  · subst hnm
    go_enter Tryz.func17, Tryz.ntmps17
    go_wp2
    go_loopw [5] (fun x wr => ∃ i : Nat, x = .int .i64 (i : Int) ∧ i ≤ n ∧ Hid (Below w.heap.size w wr) ∧ Hid (la.take i = lb.take i)) (fun x _ => n - (intOf x).toNat)
    case atStart => exact ⟨0, rfl, Nat.zero_le _, Below.refl _ _, rfl⟩
    case round =>
      obtain ⟨i, rfl, hi, HW, HT⟩ := hrel
      by_cases he : i = n
      · have hf : Hid (r = true) := by
          show r = true
          rw [HR.out]
          have h := HT.out
          rw [List.take_of_length_le (by rw [HNN.out]; omega), List.take_of_length_le (by rw [HMM.out]; omega)] at h
          exact h
        go_wp2
        go_ret
        exact ⟨by rw [hf.out]; rfl, HW.out⟩
      · have hi2 : i < n := by omega
        obtain ⟨x, hx⟩ : ∃ x, la[i]? = some x := ⟨la[i]'(by rw [HNN.out]; exact hi2), List.getElem?_eq_getElem _⟩
        obtain ⟨y, hy⟩ : ∃ y, lb[i]? = some y := ⟨lb[i]'(by rw [HMM.out]; exact hi2), List.getElem?_eq_getElem _⟩
        obtain ⟨b, o, rfl, hbl, hca⟩ := (HA.out.below HW.out).at_ (fun e => by rw [e] at hx; simp at hx)
        obtain ⟨b2, o2, rfl, hbl2, hcb⟩ := (HB.out.below HW.out).at_ (fun e => by rw [e] at hy; simp at hy)
        have c0 : wr.cell? ⟨b, o + i * 12, none⟩ = some (.int .u64 x.stamp) := hca i x hx 0 _ rfl
        have d0 : wr.cell? ⟨b2, o2 + i * 12, none⟩ = some (.int .u64 y.stamp) := hcb i y hy 0 _ rfl
        have c1 := (hca i x hx) 1 _ rfl
        have c2 := (hca i x hx) 2 _ rfl
        have c3 := (hca i x hx) 3 _ rfl
        have c4 := (hca i x hx) 4 _ rfl
        have c5 := (hca i x hx) 5 _ rfl
        have c6 := (hca i x hx) 6 _ rfl
        have c7 := (hca i x hx) 7 _ rfl
        have c8 := (hca i x hx) 8 _ rfl
        have c9 := (hca i x hx) 9 _ rfl
        have c10 := (hca i x hx) 10 _ rfl
        have c11 := (hca i x hx) 11 _ rfl
        have d1 := (hcb i y hy) 1 _ rfl
        have d2 := (hcb i y hy) 2 _ rfl
        have d3 := (hcb i y hy) 3 _ rfl
        have d4 := (hcb i y hy) 4 _ rfl
        have d5 := (hcb i y hy) 5 _ rfl
        have d6 := (hcb i y hy) 6 _ rfl
        have d7 := (hcb i y hy) 7 _ rfl
        have d8 := (hcb i y hy) 8 _ rfl
        have d9 := (hcb i y hy) 9 _ rfl
        have d10 := (hcb i y hy) 10 _ rfl
        have d11 := (hcb i y hy) 11 _ rfl
        have HX := Lib.hid hx
        have HY := Lib.hid hy
        have hne := fun W => neq_rec x y W
        unfold R.val at hne
        clear hx hy hca hcb hbl hbl2
        cases hq : eqR x y
        · simp only [hq] at hne
          have hf : Hid (r = false) := by
            show r = false
            rw [Bool.eq_false_iff]
            intro h
            have h1 := HX.out
            rw [HR.out.1 h, HY.out] at h1
            rw [Bool.eq_false_iff] at hq
            exact hq (eqR_iff.2 (Option.some.inj h1).symm)
          clear hq
          go_wp2
          go_quiet (fail)
          generalize hw2 : wr.drewN _ = w2
          have HB2 : Hid (Below w.heap.size w w2) := by rw [← hw2]; exact pbelow_drewN HW.out _
          clear hw2
          go_wp2
          go_ret
          exact ⟨by rw [hf.out]; rfl, HB2.out⟩
        · obtain rfl := eqR_iff.1 hq
          clear hne hq
          go_wp2
          go_quiet (fail)
          generalize hw2 : wr.drewN _ = w2
          have HB2 : Hid (Below w.heap.size w w2) := by rw [← hw2]; exact pbelow_drewN HW.out _
          clear hw2
          go_wp2
          go_roundw
          case rel => exact ⟨i + 1, rfl, hi2, HB2, by show _ = _; rw [List.take_add_one, List.take_add_one, HT.out, HX.out, HY.out]⟩
          case measure => simp only [intOf]; omega
  · have hnm2 : ((n : Int) == m) = false := by simp; omega
    have hf : Hid (r = false) := by
      show r = false
      rw [Bool.eq_false_iff]
      intro h
      apply hnm
      rw [← HNN.out, ← HMM.out, HR.out.1 h]
    go_enter Tryz.func17, Tryz.ntmps17
    go_wp2
    go_ret
    exact ⟨by rw [hf.out]; rfl, Below.refl _ _⟩
end Go.Proofs.YtehckjkihaalfaaGreat
