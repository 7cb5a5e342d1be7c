/- Whether two records meet, walked. -/
import Derived.Test.YtehckjkihaalfaaGreatBP
namespace Go.Proofs.YtehckjkihaalfaaGreat
open Go.RowKit Go.Maps

def meetPt (x y : Pt) : Bool := x.kind == y.kind && x.ino == y.ino && decide (x.name.toList = y.name.toList) && (x.write || y.write)
def meetB (a b : R) : Bool := (partsL a).any fun x => (partsL b).any fun y => meetPt x y
theorem part_cells {w w' : World} {base n c : Nat} {A : Option Addr} {l : List Pt} (h : w.ownsRow base 142 4 (.slice A n c) n (flatP l)) (hn : l.length = n) (hb : Below w.heap.size w w') {k : Nat} (hk : k < n) :
    ∃ g, A = some ⟨g, 0, none⟩ ∧ ∀ (x : Pt), l[k]? = some x → w'.cell? ⟨g, k * 4, none⟩ = some (.int .u8 x.kind) ∧ w'.cell? ⟨g, k * 4 + 1, none⟩ = some (.int .u32 x.ino) ∧ w'.cell? ⟨g, k * 4 + 2, none⟩ = some (.string x.name) ∧ w'.cell? ⟨g, k * 4 + 3, none⟩ = some (.bool x.write) := by
  have hh := h
  rcases h.2 with ⟨h1, h2⟩ | ⟨g, cap, cur, h1, h2, h3, h4, h5, h6, h7⟩
  · omega
  · injection h1 with h1 h8
    subst h1
    refine ⟨g, rfl, fun x hx => ?_⟩
    have hlt := (Array.getElem?_eq_some_iff.1 h3).1
    have key : ∀ (j : Nat) (u : Value), (flatP l)[j]? = some u → w'.cell? ⟨g, j, none⟩ = some u := fun j u hu => by
      have hj : j < n * 4 := by
        have := (List.getElem?_eq_some_iff.1 hu).1
        rw [hh.1] at this
        exact this
      rw [World.cell?_of_block (a := ⟨g, j, none⟩) (hb.block g hlt)]
      rw [← h7, List.getElem?_take, if_pos hj] at hu
      simp only [World.cell?, h3]
      simpa using hu
    have fl : ∀ (l : List Pt) (k : Nat) (x : Pt) (i : Nat) (u : Value), l[k]? = some x → x.cells[i]? = some u → i < 4 → (flatP l)[k * 4 + i]? = some u := by
      intro l
      induction l with
      | nil => intro k x i u h; simp at h
      | cons y l ih =>
        intro k x i u h1 h2 h3
        show (y.cells ++ flatP l)[k * 4 + i]? = some u
        cases k with
        | zero =>
          simp only [List.getElem?_cons_zero, Option.some.injEq] at h1
          subst h1
          rw [List.getElem?_append_left (by show _ < 4; omega)]
          simpa using h2
        | succ k =>
          rw [List.getElem?_append_right (by show 4 ≤ _; omega)]
          have : (k + 1) * 4 + i - y.cells.length = k * 4 + i := by show (k + 1) * 4 + i - 4 = _; omega
          rw [this]
          exact ih k x i u (by simpa using h1) h2 h3
    exact ⟨key _ _ (fl l k x 0 _ hx rfl (by omega)), key _ _ (fl l k x 1 _ hx rfl (by omega)), key _ _ (fl l k x 2 _ hx rfl (by omega)), key _ _ (fl l k x 3 _ hx rfl (by omega))⟩
theorem rec_cell {w w' : World} {B : Nat} {r : R} (h : w.heap[B]? = some (.cells (cellsR r) 34 (0, 0))) (hb : Below w.heap.size w w') (i : Nat) (v : Value) (hv : (cellsR r)[i]? = some v) : w'.cell? ⟨B, i, none⟩ = some v := by
  simp only [World.cell?, (hb.block B (lt_heap h)).trans h]; exact hv
theorem pt_cell {w w' : World} {B : Nat} {x : Pt} (h : w.heap[B]? = some (.cells #[.int .u8 x.kind, .int .u32 x.ino, .string x.name, .bool x.write] 142 (0, 0))) (hb : Below w.heap.size w w') (i : Nat) (v : Value) (hv : (#[.int .u8 x.kind, .int .u32 x.ino, .string x.name, .bool x.write] : Array Value)[i]? = some v) : w'.cell? ⟨B, i, none⟩ = some v := by
  simp only [World.cell?, (hb.block B (lt_heap h)).trans h]; exact hv
theorem any_take_succ {α : Type} (p : α → Bool) (l : List α) (k : Nat) (x : α) (hx : l[k]? = some x) (h : (l.take k).any p = false) (hp : p x = false) : (l.take (k + 1)).any p = false := by
  obtain ⟨h1, rfl⟩ := List.getElem?_eq_some_iff.1 hx
  rw [List.take_succ_eq_append_getElem h1, List.any_append, h]
  simp [hp]
theorem any_at {α : Type} (p : α → Bool) (l : List α) (k : Nat) (x : α) (hx : l[k]? = some x) (hp : p x = true) : l.any p = true :=
  List.any_eq_true.2 ⟨x, List.mem_of_getElem? hx, hp⟩
set_option maxRecDepth 100000 in
set_option maxHeartbeats 8000000 in
theorem t_meet (a b : R) (ha : a.Ok) (a1 : a.name.size ≤ maxLen) (a2 : a.name2.size ≤ maxLen) (hb : b.Ok) (b1 : b.name.size ≤ maxLen) (b2 : b.name2.size ≤ maxLen) (w : World) :
    Calls Tryz.prog 49 #[a.val, b.val] w fun e w' => e = .returned (.bool (meetB a b)) ∧ Below w.heap.size w w' := by
  have hpa := fun w => t_parts a ha a1 a2 w
  have hpb := fun w => t_parts b hb b1 b2 w
  unfold R.val at hpa hpb ⊢
  obtain ⟨res, hres⟩ : ∃ r, meetB a b = r := ⟨_, rfl⟩
  rw [hres]
  unfold meetB at hres
  obtain ⟨la, hla⟩ : ∃ l, partsL a = l := ⟨_, rfl⟩
  obtain ⟨lb, hlb⟩ : ∃ l, partsL b = l := ⟨_, rfl⟩
  rw [hla, hlb] at hres
  rw [hla] at hpa
  rw [hlb] at hpb
  obtain ⟨n, hn⟩ : ∃ n, la.length = n := ⟨_, rfl⟩
  obtain ⟨m, hm⟩ : ∃ n, lb.length = n := ⟨_, rfl⟩
  rw [hn] at hpa
  rw [hm] at hpb
  have hn9 : n ≤ 9 := by
    rw [← hn, ← hla]; unfold partsL
    repeat (split <;> try simp)
  have hm9 : m ≤ 9 := by
    rw [← hm, ← hlb]; unfold partsL
    repeat (split <;> try simp)
  have HRES := Lib.hid hres
  have HN := Lib.hid hn
  have HM := Lib.hid hm
  clear hres hla hlb hn hm
  go_enter Tryz.func49, Tryz.ntmps49
  go_wp2_with (go_at_call 70; (with_reducible refine (hpa _).mono ?_); rintro e w1 ⟨v, rfl, ho, hbl⟩; obtain ⟨A, c, rfl⟩ := row_slice ho; have HO := Lib.hid ho; have HBL := Lib.hid hbl; clear ho hbl)
  have hrb : w1.heap[w.heap.size + 1]? = some (.cells (cellsR b) 34 (0, 0)) := by
    rw [HBL.out.block _ (by rw [World.alloc_size', World.alloc_size']; omega)]
    exact new_at _ _ _ (by simp)
  have HRB := Lib.hid hrb
  have hw1 : Below w.heap.size w w1 := (((Below.refl _ _).alloc (Nat.le_refl _) _).alloc (by rw [World.alloc_size']; omega) _).trans (HBL.out.mono (by rw [World.alloc_size', World.alloc_size']; omega))
  have HW1 := Lib.hid hw1
  clear hrb hw1 HBL hpa
  go_loopw [12] (fun x wr => ∃ k : Nat, x = .int .i64 (k : Int) ∧ k ≤ n ∧ Hid (Below w1.heap.size w1 wr) ∧ Hid ((la.take k).any (fun x => lb.any fun y => meetPt x y) = false)) (fun x _ => n - (intOf x).toNat)
  case atStart => exact ⟨0, rfl, Nat.zero_le _, Below.refl _ _, rfl⟩
  case round =>
    obtain ⟨k, rfl, hk, HB, HA⟩ := hrel
    by_cases he : k = n
    · have hf : Hid (false = res) := by
        show _ = _
        rw [← HRES.out]
        have := HA.out
        rw [List.take_of_length_le (by rw [HN.out]; omega)] at this
        exact this.symm
      go_wp2
      go_ret
      exact ⟨pret_bool hf.out, ptrans HW1.out HB.out⟩
    · have hk2 : k < n := by omega
      obtain ⟨g, hg, hc⟩ := part_cells HO.out HN.out HB.out hk2
      obtain ⟨x, hx⟩ : ∃ x, la[k]? = some x := ⟨la[k]'(by rw [HN.out]; omega), List.getElem?_eq_getElem _⟩
      subst hg
      obtain ⟨c0, c1, c2, c3⟩ := hc x hx
      have cb0 := rec_cell HRB.out (HB.out.alloc HB.out.size (.cells #[.int .u8 x.kind, .int .u32 x.ino, .string x.name, .bool x.write] 142)) 0 _ rfl
      have cb1 := rec_cell HRB.out (HB.out.alloc HB.out.size (.cells #[.int .u8 x.kind, .int .u32 x.ino, .string x.name, .bool x.write] 142)) 1 _ rfl
      have cb2 := rec_cell HRB.out (HB.out.alloc HB.out.size (.cells #[.int .u8 x.kind, .int .u32 x.ino, .string x.name, .bool x.write] 142)) 2 _ rfl
      have cb3 := rec_cell HRB.out (HB.out.alloc HB.out.size (.cells #[.int .u8 x.kind, .int .u32 x.ino, .string x.name, .bool x.write] 142)) 3 _ rfl
      have cb4 := rec_cell HRB.out (HB.out.alloc HB.out.size (.cells #[.int .u8 x.kind, .int .u32 x.ino, .string x.name, .bool x.write] 142)) 4 _ rfl
      have cb5 := rec_cell HRB.out (HB.out.alloc HB.out.size (.cells #[.int .u8 x.kind, .int .u32 x.ino, .string x.name, .bool x.write] 142)) 5 _ rfl
      have cb6 := rec_cell HRB.out (HB.out.alloc HB.out.size (.cells #[.int .u8 x.kind, .int .u32 x.ino, .string x.name, .bool x.write] 142)) 6 _ rfl
      have cb7 := rec_cell HRB.out (HB.out.alloc HB.out.size (.cells #[.int .u8 x.kind, .int .u32 x.ino, .string x.name, .bool x.write] 142)) 7 _ rfl
      have cb8 := rec_cell HRB.out (HB.out.alloc HB.out.size (.cells #[.int .u8 x.kind, .int .u32 x.ino, .string x.name, .bool x.write] 142)) 8 _ rfl
      have cb9 := rec_cell HRB.out (HB.out.alloc HB.out.size (.cells #[.int .u8 x.kind, .int .u32 x.ino, .string x.name, .bool x.write] 142)) 9 _ rfl
      have cb10 := rec_cell HRB.out (HB.out.alloc HB.out.size (.cells #[.int .u8 x.kind, .int .u32 x.ino, .string x.name, .bool x.write] 142)) 10 _ rfl
      have cb11 := rec_cell HRB.out (HB.out.alloc HB.out.size (.cells #[.int .u8 x.kind, .int .u32 x.ino, .string x.name, .bool x.write] 142)) 11 _ rfl
      go_wp2_with (go_at_call 70; (with_reducible refine (hpb _).mono ?_); rintro e w2 ⟨v2, rfl, ho2, hbl2⟩; obtain ⟨A2, d2, rfl⟩ := row_slice ho2; have HO2 := Lib.hid ho2; have HBL2 := Lib.hid hbl2; clear ho2 hbl2)
      have hxb : (wr.alloc (.cells #[.int .u8 x.kind, .int .u32 x.ino, .string x.name, .bool x.write] 142)).heap[wr.heap.size]? = some (.cells #[.int .u8 x.kind, .int .u32 x.ino, .string x.name, .bool x.write] 142 (0, 0)) := heap_alloc_new _ _
      have hx2 : w2.heap[wr.heap.size]? = some (.cells #[.int .u8 x.kind, .int .u32 x.ino, .string x.name, .bool x.write] 142 (0, 0)) := (HBL2.out.block _ (lt_heap hxb)).trans hxb
      have HX2 := Lib.hid hx2
      have hB2 : Below w1.heap.size w1 w2 := (HB.out.alloc HB.out.size (.cells #[.int .u8 x.kind, .int .u32 x.ino, .string x.name, .bool x.write] 142)).trans (HBL2.out.mono (by rw [World.alloc_size']; have := HB.out.size; omega))
      have HB2 := Lib.hid hB2
      have HXX := Lib.hid hx
      clear hxb hx2 hB2 HBL2 c0 c1 c2 c3 cb0 cb1 cb2 cb3 cb4 cb5 cb6 cb7 cb8 cb9 cb10 cb11 hc hx
      go_loopw [19] (fun z wz => ∃ j : Nat, z = .int .i64 (j : Int) ∧ j ≤ m ∧ Hid (Below w2.heap.size w2 wz) ∧ Hid ((lb.take j).any (fun y => meetPt x y) = false)) (fun z _ => m - (intOf z).toNat)
      case atStart => exact ⟨0, rfl, Nat.zero_le _, Below.refl _ _, rfl⟩
      case round =>
        obtain ⟨j, rfl, hj, HBj, HJ⟩ := hrel
        by_cases hje : j = m
        · have hno : Hid (lb.any (fun y => meetPt x y) = false) := by
            have := HJ.out
            rw [List.take_of_length_le (by rw [HM.out]; omega)] at this
            exact this
          go_wp2
          go_roundw
          case rel => exact ⟨k + 1, rfl, hk2, HB2.out.trans (HBj.out.mono HB2.out.size), any_take_succ _ _ _ _ HXX.out HA.out hno.out⟩
          case measure => simp only [intOf]; omega
        · have hj2 : j < m := by omega
          obtain ⟨g2, hg2, hc2⟩ := part_cells HO2.out HM.out HBj.out hj2
          obtain ⟨y, hy⟩ : ∃ y, lb[j]? = some y := ⟨lb[j]'(by rw [HM.out]; omega), List.getElem?_eq_getElem _⟩
          subst hg2
          obtain ⟨e0, e1, e2, e3⟩ := hc2 y hy
          have x0 := pt_cell HX2.out (HBj.out.alloc HBj.out.size (.cells #[.int .u8 y.kind, .int .u32 y.ino, .string y.name, .bool y.write] 142)) 0 _ rfl
          have x1 := pt_cell HX2.out (HBj.out.alloc HBj.out.size (.cells #[.int .u8 y.kind, .int .u32 y.ino, .string y.name, .bool y.write] 142)) 1 _ rfl
          have x2 := pt_cell HX2.out (HBj.out.alloc HBj.out.size (.cells #[.int .u8 y.kind, .int .u32 y.ino, .string y.name, .bool y.write] 142)) 2 _ rfl
          have x3 := pt_cell HX2.out (HBj.out.alloc HBj.out.size (.cells #[.int .u8 y.kind, .int .u32 y.ino, .string y.name, .bool y.write] 142)) 3 _ rfl
          have HY := Lib.hid hy
          clear hc2 hy
          cases h1 : (x.kind == y.kind)
          · go_wp2
            go_roundw
            case rel => exact ⟨j + 1, rfl, hj2, HBj.out.alloc HBj.out.size _, any_take_succ _ _ _ _ HY.out HJ.out (by unfold meetPt; simp [h1])⟩
            case measure => simp only [intOf]; omega
          · cases h2 : (x.ino == y.ino)
            · go_wp2
              go_roundw
              case rel => exact ⟨j + 1, rfl, hj2, HBj.out.alloc HBj.out.size _, any_take_succ _ _ _ _ HY.out HJ.out (by unfold meetPt; simp [h1, h2])⟩
              case measure => simp only [intOf]; omega
            · by_cases h3 : x.name.toList = y.name.toList
              · cases h4 : x.write
                · cases h5 : y.write
                  · rw [h5] at x0 x1 x2 x3
                    go_wp2
                    go_roundw
                    case rel => exact ⟨j + 1, rfl, hj2, HBj.out.alloc HBj.out.size _, any_take_succ _ _ _ _ HY.out HJ.out (by unfold meetPt; simp [h1, h2, h3, h4, h5])⟩
                    case measure => simp only [intOf]; omega
                  · rw [h5] at x0 x1 x2 x3
                    go_wp2
                    go_ret
                    have ht : true = res := by
                      rw [← HRES.out]
                      exact (any_at _ _ _ _ HXX.out (any_at _ _ _ _ HY.out (by unfold meetPt; simp [h1, h2, h3, h4, h5]))).symm
                    exact ⟨pret_bool ht, ptrans HW1.out (HB2.out.trans ((HBj.out.alloc HBj.out.size _).mono HB2.out.size))⟩
                · go_wp2
                  go_ret
                  have ht : true = res := by
                    rw [← HRES.out]
                    exact (any_at _ _ _ _ HXX.out (any_at _ _ _ _ HY.out (by unfold meetPt; simp [h1, h2, h3, h4]))).symm
                  exact ⟨pret_bool ht, ptrans HW1.out (HB2.out.trans ((HBj.out.alloc HBj.out.size _).mono HB2.out.size))⟩
              · go_wp2
                go_roundw
                case rel => exact ⟨j + 1, rfl, hj2, HBj.out.alloc HBj.out.size _, any_take_succ _ _ _ _ HY.out HJ.out (by unfold meetPt; simp [h1, h2, h3])⟩
                case measure => simp only [intOf]; omega
end Go.Proofs.YtehckjkihaalfaaGreat
