/- Whether two records meet, walked. -/
import Derived.Test.YtogljgiefmfafaaGreatPa17
import Derived.Test.YtogljgiefmfafaaGreatPa18
namespace Go.Proofs.YtogljgiefmfafaaGreat
open Go.RowKit Go.Maps
def meetPt (x y : Pt) : Bool := x.kind == y.kind && x.ino == y.ino && decide (x.name.toList = y.name.toList) && (x.write || y.write)
def meetB (a b : R) : Bool := (partsL a).any fun x => (partsL b).any fun y => meetPt x y
theorem part_cells {w w' : World} {base n c : Nat} {A : Option Addr} {l : List Pt} (h : w.ownsRow base 125 4 (.slice A n c) n (flatP l)) (_hn : l.length = n) (hb : Below w.heap.size w w') {k : Nat} (hk : k < n) :
    ∃ g, A = some ⟨g, 0, none⟩ ∧ ∀ (x : Pt), l[k]? = some x → w'.cell? ⟨g, k * 4, none⟩ = some (.int .u8 x.kind) ∧ w'.cell? ⟨g, k * 4 + 1, none⟩ = some (.int .u32 x.ino) ∧ w'.cell? ⟨g, k * 4 + 2, none⟩ = some (.string x.name) ∧ w'.cell? ⟨g, k * 4 + 3, none⟩ = some (.bool x.write) := by
  have hh := h
  rcases h.2 with ⟨h1, h2⟩ | ⟨g, cap, cur, h1, h2, h3, h4, h5, h6, h7⟩
  · omega
  · injection h1 with h1 h8
    subst h1
    refine ⟨g, rfl, fun x hx => ?_⟩
    have hlt := (Array.getElem?_eq_some_iff.1 h3).1
    have key : ∀ (j : Nat) (u : Value), (flatP l)[j]? = some u → w'.cell? ⟨g, j, none⟩ = some u := fun j u hu => by
      have hj : j < n * 4 := by
        have := (List.getElem?_eq_some_iff.1 hu).1
        rw [hh.1] at this
        exact this
      rw [World.cell?_of_block (a := ⟨g, j, none⟩) (hb.block g hlt)]
      rw [← h7, List.getElem?_take, if_pos hj] at hu
      simp only [World.cell?, h3]
      simpa using hu
    have fl : ∀ (l : List Pt) (k : Nat) (x : Pt) (i : Nat) (u : Value), l[k]? = some x → x.cells[i]? = some u → i < 4 → (flatP l)[k * 4 + i]? = some u := by
      intro l
      induction l with
      | nil => intro k x i u h; simp at h
      | cons y l ih =>
        intro k x i u h1 h2 h3
        show (y.cells ++ flatP l)[k * 4 + i]? = some u
        cases k with
        | zero =>
          simp only [List.getElem?_cons_zero, Option.some.injEq] at h1
          subst h1
          rw [List.getElem?_append_left (by show _ < 4; omega)]
          simpa using h2
        | succ k =>
          rw [List.getElem?_append_right (by show 4 ≤ _; omega)]
          have : (k + 1) * 4 + i - y.cells.length = k * 4 + i := by show (k + 1) * 4 + i - 4 = _; omega
          rw [this]
          exact ih k x i u (by simpa using h1) h2 h3
    exact ⟨key _ _ (fl l k x 0 _ hx rfl (by omega)), key _ _ (fl l k x 1 _ hx rfl (by omega)), key _ _ (fl l k x 2 _ hx rfl (by omega)), key _ _ (fl l k x 3 _ hx rfl (by omega))⟩
theorem rec_cell {w w' : World} {B : Nat} {r : R} (h : w.heap[B]? = some (.cells (cellsR r) 50 (0, 0))) (hb : Below w.heap.size w w') (i : Nat) (v : Value) (hv : (cellsR r)[i]? = some v) : w'.cell? ⟨B, i, none⟩ = some v := by
  simp only [World.cell?, (hb.block B (lt_heap h)).trans h]; exact hv
theorem pt_cell {w w' : World} {B : Nat} {x : Pt} (h : w.heap[B]? = some (.cells #[.int .u8 x.kind, .int .u32 x.ino, .string x.name, .bool x.write] 125 (0, 0))) (hb : Below w.heap.size w w') (i : Nat) (v : Value) (hv : (#[.int .u8 x.kind, .int .u32 x.ino, .string x.name, .bool x.write] : Array Value)[i]? = some v) : w'.cell? ⟨B, i, none⟩ = some v := by
  simp only [World.cell?, (hb.block B (lt_heap h)).trans h]; exact hv
theorem any_take_succ {α : Type} (p : α → Bool) (l : List α) (k : Nat) (x : α) (hx : l[k]? = some x) (h : (l.take k).any p = false) (hp : p x = false) : (l.take (k + 1)).any p = false := by
  obtain ⟨h1, rfl⟩ := List.getElem?_eq_some_iff.1 hx
  rw [List.take_succ_eq_append_getElem h1, List.any_append, h]
  simp [hp]
theorem any_at {α : Type} (p : α → Bool) (l : List α) (k : Nat) (x : α) (hx : l[k]? = some x) (hp : p x = true) : l.any p = true :=
  List.any_eq_true.2 ⟨x, List.mem_of_getElem? hx, hp⟩
set_option maxRecDepth 100000 in
set_option maxHeartbeats 8000000 in
theorem t_meet (a b : R) (ha : a.Ok) (a1 : a.name.size ≤ maxLen) (a2 : a.name2.size ≤ maxLen) (hb : b.Ok) (b1 : b.name.size ≤ maxLen) (b2 : b.name2.size ≤ maxLen) (w : World) :
    Calls Tryz.prog 30 #[a.val, b.val] w fun e w' => e = .returned (.bool (meetB a b)) ∧ Below w.heap.size w w' := by
  have hpa := fun w => t_parts a ha a1 a2 w
  have hpb := fun w => t_parts b hb b1 b2 w
  unfold R.val at hpa hpb ⊢
  obtain ⟨res, hres⟩ : ∃ r, meetB a b = r := ⟨_, rfl⟩
  rw [hres]
  unfold meetB at hres
  obtain ⟨la, hla⟩ : ∃ l, partsL a = l := ⟨_, rfl⟩
  obtain ⟨lb, hlb⟩ : ∃ l, partsL b = l := ⟨_, rfl⟩
  rw [hla, hlb] at hres
  rw [hla] at hpa
  rw [hlb] at hpb
  obtain ⟨n, hn⟩ : ∃ n, la.length = n := ⟨_, rfl⟩
  obtain ⟨m, hm⟩ : ∃ n, lb.length = n := ⟨_, rfl⟩
  rw [hn] at hpa
  rw [hm] at hpb
  have hn9 : n ≤ 9 := by
    rw [← hn, ← hla]; unfold partsL
    repeat (split <;> try simp)
  have hm9 : m ≤ 9 := by
    rw [← hm, ← hlb]; unfold partsL
    repeat (split <;> try simp)
  have HRES := Lib.hid hres
  have HN := Lib.hid hn
  have HM := Lib.hid hm
  clear hres hla hlb hn hm
  go_enter Tryz.func30, Tryz.ntmps30
  go_wp2_with (go_at_call 55; (with_reducible refine (hpa _).mono ?_); rintro e w1 ⟨v, rfl, ho, hbl⟩; obtain ⟨A, c, rfl⟩ := row_slice ho; have HO := Lib.hid ho; have HBL := Lib.hid hbl; clear ho hbl)
  have hrb : w1.heap[w.heap.size + 1]? = some (.cells (cellsR b) 50 (0, 0)) := by
    rw [HBL.out.block _ (by rw [World.alloc_size', World.alloc_size']; omega)]
    exact new_at _ _ _ (by simp)
  have HRB := Lib.hid hrb
  have hw1 : Below w.heap.size w w1 := (((Below.refl _ _).alloc (Nat.le_refl _) _).alloc (by rw [World.alloc_size']; omega) _).trans (HBL.out.mono (by rw [World.alloc_size', World.alloc_size']; omega))
  have HW1 := Lib.hid hw1
  clear hrb hw1 HBL hpa
  go_loopw [12] (fun x wr => ∃ k : Nat, x = .int .i64 (k : Int) ∧ k ≤ n ∧ Hid (Below w1.heap.size w1 wr) ∧ Hid ((la.take k).any (fun x => lb.any fun y => meetPt x y) = false)) (fun x _ => n - (intOf x).toNat)
  case atStart => exact ⟨0, rfl, Nat.zero_le _, Below.refl _ _, rfl⟩
  case round =>
    obtain ⟨k, rfl, hk, HB, HA⟩ := hrel
    by_cases he : k = n
    · have hf : Hid (false = res) := by
        show _ = _
        rw [← HRES.out]
        have := HA.out
        rw [List.take_of_length_le (by rw [HN.out]; omega)] at this
        exact this.symm
      go_wp2
      go_ret
      exact ⟨pret_bool hf.out, ptrans HW1.out HB.out⟩
    · have hk2 : k < n := by omega
      obtain ⟨g, hg, hc⟩ := part_cells HO.out HN.out HB.out hk2
      obtain ⟨x, hx⟩ : ∃ x, la[k]? = some x := ⟨la[k]'(by rw [HN.out]; omega), List.getElem?_eq_getElem _⟩
      subst hg
      obtain ⟨c0, c1, c2, c3⟩ := hc x hx
      have cb0 := rec_cell HRB.out (HB.out.alloc HB.out.size (.cells #[.int .u8 x.kind, .int .u32 x.ino, .string x.name, .bool x.write] 125)) 0 _ rfl
      have cb1 := rec_cell HRB.out (HB.out.alloc HB.out.size (.cells #[.int .u8 x.kind, .int .u32 x.ino, .string x.name, .bool x.write] 125)) 1 _ rfl
      have cb2 := rec_cell HRB.out (HB.out.alloc HB.out.size (.cells #[.int .u8 x.kind, .int .u32 x.ino, .string x.name, .bool x.write] 125)) 2 _ rfl
      have cb3 := rec_cell HRB.out (HB.out.alloc HB.out.size (.cells #[.int .u8 x.kind, .int .u32 x.ino, .string x.name, .bool x.write] 125)) 3 _ rfl
      have cb4 := rec_cell HRB.out (HB.out.alloc HB.out.size (.cells #[.int .u8 x.kind, .int .u32 x.ino, .string x.name, .bool x.write] 125)) 4 _ rfl
      have cb5 := rec_cell HRB.out (HB.out.alloc HB.out.size (.cells #[.int .u8 x.kind, .int .u32 x.ino, .string x.name, .bool x.write] 125)) 5 _ rfl
      have cb6 := rec_cell HRB.out (HB.out.alloc HB.out.size (.cells #[.int .u8 x.kind, .int .u32 x.ino, .string x.name, .bool x.write] 125)) 6 _ rfl
      have cb7 := rec_cell HRB.out (HB.out.alloc HB.out.size (.cells #[.int .u8 x.kind, .int .u32 x.ino, .string x.name, .bool x.write] 125)) 7 _ rfl
      have cb8 := rec_cell HRB.out (HB.out.alloc HB.out.size (.cells #[.int .u8 x.kind, .int .u32 x.ino, .string x.name, .bool x.write] 125)) 8 _ rfl
      have cb9 := rec_cell HRB.out (HB.out.alloc HB.out.size (.cells #[.int .u8 x.kind, .int .u32 x.ino, .string x.name, .bool x.write] 125)) 9 _ rfl
      have cb10 := rec_cell HRB.out (HB.out.alloc HB.out.size (.cells #[.int .u8 x.kind, .int .u32 x.ino, .string x.name, .bool x.write] 125)) 10 _ rfl
      have cb11 := rec_cell HRB.out (HB.out.alloc HB.out.size (.cells #[.int .u8 x.kind, .int .u32 x.ino, .string x.name, .bool x.write] 125)) 11 _ rfl
      go_wp2_with (go_at_call 55; (with_reducible refine (hpb _).mono ?_); rintro e w2 ⟨v2, rfl, ho2, hbl2⟩; obtain ⟨A2, d2, rfl⟩ := row_slice ho2; have HO2 := Lib.hid ho2; have HBL2 := Lib.hid hbl2; clear ho2 hbl2)
      have hxb : (wr.alloc (.cells #[.int .u8 x.kind, .int .u32 x.ino, .string x.name, .bool x.write] 125)).heap[wr.heap.size]? = some (.cells #[.int .u8 x.kind, .int .u32 x.ino, .string x.name, .bool x.write] 125 (0, 0)) := heap_alloc_new _ _
      have hx2 : w2.heap[wr.heap.size]? = some (.cells #[.int .u8 x.kind, .int .u32 x.ino, .string x.name, .bool x.write] 125 (0, 0)) := (HBL2.out.block _ (lt_heap hxb)).trans hxb
      have HX2 := Lib.hid hx2
      have hB2 : Below w1.heap.size w1 w2 := (HB.out.alloc HB.out.size (.cells #[.int .u8 x.kind, .int .u32 x.ino, .string x.name, .bool x.write] 125)).trans (HBL2.out.mono (by rw [World.alloc_size']; have := HB.out.size; omega))
      have HB2 := Lib.hid hB2
      have HXX := Lib.hid hx
      clear hxb hx2 hB2 HBL2 c0 c1 c2 c3 cb0 cb1 cb2 cb3 cb4 cb5 cb6 cb7 cb8 cb9 cb10 cb11 hc hx
      go_loopw [19] (fun z wz => ∃ j : Nat, z = .int .i64 (j : Int) ∧ j ≤ m ∧ Hid (Below w2.heap.size w2 wz) ∧ Hid ((lb.take j).any (fun y => meetPt x y) = false)) (fun z _ => m - (intOf z).toNat)
      case atStart => exact ⟨0, rfl, Nat.zero_le _, Below.refl _ _, rfl⟩
      case round =>
        obtain ⟨j, rfl, hj, HBj, HJ⟩ := hrel
        by_cases hje : j = m
        · have hno : Hid (lb.any (fun y => meetPt x y) = false) := by
            have := HJ.out
            rw [List.take_of_length_le (by rw [HM.out]; omega)] at this
            exact this
          go_wp2
          go_roundw
          case rel => exact ⟨k + 1, rfl, hk2, HB2.out.trans (HBj.out.mono HB2.out.size), any_take_succ _ _ _ _ HXX.out HA.out hno.out⟩
          case measure => simp only [intOf]; omega
        · have hj2 : j < m := by omega
          obtain ⟨g2, hg2, hc2⟩ := part_cells HO2.out HM.out HBj.out hj2
          obtain ⟨y, hy⟩ : ∃ y, lb[j]? = some y := ⟨lb[j]'(by rw [HM.out]; omega), List.getElem?_eq_getElem _⟩
          subst hg2
          obtain ⟨e0, e1, e2, e3⟩ := hc2 y hy
          have x0 := pt_cell HX2.out (HBj.out.alloc HBj.out.size (.cells #[.int .u8 y.kind, .int .u32 y.ino, .string y.name, .bool y.write] 125)) 0 _ rfl
          have x1 := pt_cell HX2.out (HBj.out.alloc HBj.out.size (.cells #[.int .u8 y.kind, .int .u32 y.ino, .string y.name, .bool y.write] 125)) 1 _ rfl
          have x2 := pt_cell HX2.out (HBj.out.alloc HBj.out.size (.cells #[.int .u8 y.kind, .int .u32 y.ino, .string y.name, .bool y.write] 125)) 2 _ rfl
          have x3 := pt_cell HX2.out (HBj.out.alloc HBj.out.size (.cells #[.int .u8 y.kind, .int .u32 y.ino, .string y.name, .bool y.write] 125)) 3 _ rfl
          have HY := Lib.hid hy
          clear hc2 hy
          cases h1 : (x.kind == y.kind)
          · go_wp2
            go_roundw
            case rel => exact ⟨j + 1, rfl, hj2, HBj.out.alloc HBj.out.size _, any_take_succ _ _ _ _ HY.out HJ.out (by unfold meetPt; simp [h1])⟩
            case measure => simp only [intOf]; omega
          · cases h2 : (x.ino == y.ino)
            · go_wp2
              go_roundw
              case rel => exact ⟨j + 1, rfl, hj2, HBj.out.alloc HBj.out.size _, any_take_succ _ _ _ _ HY.out HJ.out (by unfold meetPt; simp [h1, h2])⟩
              case measure => simp only [intOf]; omega
            · by_cases h3 : x.name.toList = y.name.toList
              · cases h4 : x.write
                · cases h5 : y.write
                  · rw [h5] at x0 x1 x2 x3
                    go_wp2
                    go_roundw
                    case rel => exact ⟨j + 1, rfl, hj2, HBj.out.alloc HBj.out.size _, any_take_succ _ _ _ _ HY.out HJ.out (by unfold meetPt; simp [h1, h2, h3, h4, h5])⟩
                    case measure => simp only [intOf]; omega
                  · rw [h5] at x0 x1 x2 x3
                    go_wp2
                    go_ret
                    have ht : true = res := by
                      rw [← HRES.out]
                      exact (any_at _ _ _ _ HXX.out (any_at _ _ _ _ HY.out (by unfold meetPt; simp [h1, h2, h3, h4, h5]))).symm
                    exact ⟨pret_bool ht, ptrans HW1.out (HB2.out.trans ((HBj.out.alloc HBj.out.size _).mono HB2.out.size))⟩
                · go_wp2
                  go_ret
                  have ht : true = res := by
                    rw [← HRES.out]
                    exact (any_at _ _ _ _ HXX.out (any_at _ _ _ _ HY.out (by unfold meetPt; simp [h1, h2, h3, h4]))).symm
                  exact ⟨pret_bool ht, ptrans HW1.out (HB2.out.trans ((HBj.out.alloc HBj.out.size _).mono HB2.out.size))⟩
              · go_wp2
                go_roundw
                case rel => exact ⟨j + 1, rfl, hj2, HBj.out.alloc HBj.out.size _, any_take_succ _ _ _ _ HY.out HJ.out (by unfold meetPt; simp [h1, h2, h3])⟩
                case measure => simp only [intOf]; omega
end Go.Proofs.YtogljgiefmfafaaGreat

namespace Go.Proofs.YtogljgiefmfafaaGreat
open Go.RowKit Go.Maps
section
variable {t u : PT} {r : R}
theorem AgreeR.ino (h : AgreeR r t u) : u.n r.ino = t.n r.ino := h.own _ (wI_ino r)
theorem agree_makeAt (h : AgreeR r t u) (hr : 1 ≤ r.act ∧ r.act ≤ 4) : (makeAtP u r.dir r.name r.kind r.ino).1 = (makeAtP t r.dir r.name r.kind r.ino).1 ∧ AgreeR r (makeAtP t r.dir r.name r.kind r.ino).2 (makeAtP u r.dir r.name r.kind r.ino).2 := by
  have hd := h.dir r.dir ⟨hr, .inl rfl⟩
  have he := h.ent r.dir _ ⟨hr, .inl ⟨rfl, rfl⟩⟩
  have e : makeAtE u r.dir r.name r.kind r.ino = makeAtE t r.dir r.name r.kind r.ino := by
    unfold makeAtE
    rw [there_congr (u := u) (t := t) (is := [r.dir]) (by simpa using hd_same hd), dirs_congr (u := u) (t := t) (is := [r.dir]) (by simpa using hd), fresh_congr hd he]
    unfold roomE haveE
    rw [h.room, AgreeR.ino h]
  unfold makeAtP
  rw [e]
  split
  · rename_i h0
    refine ⟨rfl, ?_⟩
    obtain ⟨_, _, _, ⟨xd, hx, _, _⟩, hn⟩ := makeAtE_zero h0
    obtain ⟨z, hz, hb⟩ := h.get ⟨hr, .inl rfl⟩ hx
    have hne : r.dir ≠ r.ino := fun c => by rw [← c, hx] at hn; cases hn
    show AgreeR r (makeT t r.dir r.name r.kind r.ino) (makeT u r.dir r.name r.kind r.ino)
    unfold makeT
    rw [hx, hz]
    exact (h.set _ _).enter (by rw [PT.set_n, if_neg hne]; exact hx) (by rw [PT.set_n, if_neg hne]; exact hz) hb _ _ _
  · exact ⟨rfl, h⟩
theorem agree_hold (h : AgreeR r t u) : (holdP u r.ino).1 = (holdP t r.ino).1 ∧ AgreeR r (holdP t r.ino).2 (holdP u r.ino).2 := by
  have hi := AgreeR.ino h
  have e : holdE u r.ino = holdE t r.ino := by
    unfold holdE fileE'
    rw [there_congr (u := u) (t := t) (is := [r.ino]) (by simp [hi]), hi]
  unfold holdP
  rw [e, hi]
  split
  · refine ⟨rfl, ?_⟩
    show AgreeR r (match t.n r.ino with | some x => t.set r.ino { x with held := x.held + 1 } | none => t) (match t.n r.ino with | some x => u.set r.ino { x with held := x.held + 1 } | none => u)
    cases t.n r.ino with
    | none => exact h
    | some x => exact h.set _ _
  · exact ⟨rfl, h⟩
theorem agree_link (h : AgreeR r t u) (hr : 1 ≤ r.act ∧ r.act ≤ 4) : (linkA u r).1 = (linkA t r).1 ∧ AgreeR r (linkA t r).2 (linkA u r).2 := by
  have hd := h.dir r.dir ⟨hr, .inl rfl⟩
  have he := h.ent r.dir _ ⟨hr, .inl ⟨rfl, rfl⟩⟩
  have hi := AgreeR.ino h
  have e : linkE u r.dir r.name r.ino = linkE t r.dir r.name r.ino := by
    unfold linkE fileE' linksE'
    rw [there_congr (u := u) (t := t) (is := [r.dir, r.ino]) (by simp [hd_same hd, hi]), dirs_congr (u := u) (t := t) (is := [r.dir]) (by simpa using hd), fresh_congr hd he, hi]
  unfold linkA linkP
  rw [e]
  split
  · refine ⟨rfl, ?_⟩
    show AgreeR r (linkT t r.dir r.name r.ino) (linkT u r.dir r.name r.ino)
    unfold linkT
    rw [hi]
    cases hx : t.n r.dir with
    | none =>
      have := hd_same hd
      rw [hx] at this
      cases hu : u.n r.dir with
      | none => exact h
      | some z => rw [hu] at this; cases this
    | some xd =>
      obtain ⟨z, hz, hb⟩ := hd_get hd hx
      rw [hz]
      cases t.n r.ino with
      | none => exact h
      | some xi => exact h.enter hx hz hb _ _ _
  · exact ⟨rfl, h⟩
theorem agree_look (h : AgreeR r t u) (hr : 1 ≤ r.act ∧ r.act ≤ 4) : lookP u r.dir r.name = lookP t r.dir r.name ∧ lookA u r = lookA t r := by
  have e := look_congr (h.dir r.dir ⟨hr, .inl rfl⟩) (h.ent r.dir _ ⟨hr, .inl ⟨rfl, rfl⟩⟩)
  refine ⟨e, ?_⟩
  unfold lookA
  rw [e]
theorem agree_drop (hW : WellP t) (h : AgreeR r t u) (hr : 1 ≤ r.act ∧ r.act ≤ 4) (hl : lookA t r = 0) (q : PN → Int) : (dropP u r.dir r.name q).1 = (dropP t r.dir r.name q).1 ∧ AgreeR r (dropP t r.dir r.name q).2 (dropP u r.dir r.name q).2 := by
  obtain ⟨h0, h1⟩ := lookA_zero hl
  obtain ⟨xd, xi, hd, hx, hi, hne, _⟩ := look_zero hW h0
  obtain ⟨e, _⟩ := agree_look h hr
  obtain ⟨z, hz, hb⟩ := h.get ⟨hr, .inl rfl⟩ hd
  unfold dropP
  rw [e, h1]
  rw [h1] at hi hne
  rw [AgreeR.ino h, hi, hd, hz, if_neg (by rw [h0]; simp), if_neg (by rw [h0]; simp)]
  simp only
  split
  · exact ⟨rfl, h⟩
  · exact ⟨rfl, h.drop hd hz hb _ _ hne _⟩
theorem agree_move (h : AgreeR r t u) (hr : r.act = 4) {i : Int} {xa xb y : PN} (ha : t.n r.dir = some xa) (hi : t.n i = some y) (hb : t.n r.dir2 = some xb) (hia : i ≠ r.dir) (hib : i ≠ r.dir2) (hw : wIr r i) :
    AgreeR r (moveT t r.dir r.name r.dir2 r.name2 i) (moveT u r.dir r.name r.dir2 r.name2 i) := by
  have hr4 : 1 ≤ r.act ∧ r.act ≤ 4 := by omega
  obtain ⟨za, hza, hba⟩ := h.get ⟨hr4, .inl rfl⟩ ha
  have hiu : u.n i = some y := (h.own i hw).trans hi
  have L := h.leave ha hza hba r.name i hia y
  have h3 : ∃ xb', (leaveT t r.dir xa r.name i y).n r.dir2 = some xb' := by
    rw [leave_n hia]
    split
    · exact ⟨_, rfl⟩
    · rw [if_neg (fun e => hib e.symm)]
      exact ⟨_, hb⟩
  obtain ⟨xb', h3⟩ := h3
  obtain ⟨zb', h4, hb'⟩ := L.get (d := r.dir2) ⟨hr4, .inr ⟨hr, rfl⟩⟩ h3
  unfold moveT
  rw [ha, hi, hza, hiu]
  simp only
  rw [h3, h4]
  exact L.enter h3 h4 hb' _ _ _
theorem agree_rename (hW : WellP t) (h : AgreeR r t u) (hr : r.act = 4) (hbel : r.kind = 2 → ∀ xb, t.n r.dir2 = some xb → xb.kind = 2 → (Bel u r.ino r.dir2 ↔ Bel t r.ino r.dir2)) : (renameA u r).1 = (renameA t r).1 ∧ AgreeR r (renameA t r).2 (renameA u r).2 := by
  have hr4 : 1 ≤ r.act ∧ r.act ≤ 4 := by omega
  obtain ⟨e, e2⟩ := agree_look h hr4
  have hd := h.dir r.dir ⟨hr4, .inl rfl⟩
  have hd2 := h.dir r.dir2 ⟨hr4, .inr ⟨hr, rfl⟩⟩
  have he2 := h.ent r.dir2 _ ⟨hr4, .inr ⟨hr, rfl, rfl⟩⟩
  have e3 := look_congr hd2 he2
  have hko : kindAt u r.ino = kindAt t r.ino := by unfold kindAt; rw [AgreeR.ino h]
  have hoo : oldAt u r = oldAt t r := by unfold oldAt; rw [e3]
  unfold renameA
  rw [e2, hko, hoo]
  split
  · exact ⟨rfl, h⟩
  · rename_i hl
    have hl := Decidable.not_not.1 hl
    obtain ⟨l0, l1⟩ := lookA_zero hl
    obtain ⟨xd, xi, hxd, hx, hi, hne, _⟩ := look_zero hW l0
    split
    · exact ⟨rfl, h⟩
    · rename_i hko2
      have hold : oldAt t r = r.old := Decidable.byContradiction fun c => hko2 (.inr c)
      have hkind : kindAt t r.ino = r.kind := Decidable.byContradiction fun c => hko2 (.inl c)
      unfold renameP
      rw [there_congr (u := u) (t := t) (is := [r.dir, r.dir2]) (by simp [hd_same hd, hd_same hd2]), dirs_congr (u := u) (t := t) (is := [r.dir, r.dir2]) (by simp [hd, hd2]), e]
      split
      · exact ⟨rfl, h⟩
      · rename_i h2
        have h2 := Decidable.not_not.1 h2
        obtain ⟨xa, xb, hxa, hxb, hak, hbk⟩ := rename_dirs h2
        obtain ⟨zb, hzb, hbb⟩ := hd_get hd2 hxb
        rw [if_neg (by rw [l0]; simp), if_neg (by rw [l0]; simp)]
        rw [l1] at hx hi hne ⊢
        have hik : xi.kind = r.kind := by
          unfold kindAt at hkind
          rw [hi] at hkind
          exact hkind
        rw [AgreeR.ino h, hi, hxb, hzb]
        simp only
        have hcond : (xi.kind = 2 ∧ Bel u r.ino r.dir2) ↔ (xi.kind = 2 ∧ Bel t r.ino r.dir2) := by
          constructor
          · rintro ⟨a, b⟩
            exact ⟨a, (hbel (by omega) xb hxb hbk).1 b⟩
          · rintro ⟨a, b⟩
            exact ⟨a, (hbel (by omega) xb hxb hbk).2 b⟩
        by_cases hnb : xi.kind = 2 ∧ Bel t r.ino r.dir2
        · rw [if_pos hnb, if_pos (hcond.2 hnb)]
          exact ⟨rfl, h⟩
        · rw [if_neg hnb, if_neg (fun c => hnb (hcond.1 c))]
          have hib : r.ino ≠ r.dir2 := fun e => by
            rw [← e, hi] at hxb
            cases hxb
            have := (hW.range _ _ hi).1
            exact hnb ⟨hbk, e ▸ bel_self (by omega)⟩
          have hle : zb.l r.name2.data.toList = xb.l r.name2.data.toList := by
            rw [← ent_some (k := r.name2.data.toList) hzb, ← ent_some (k := r.name2.data.toList) hxb]
            exact he2
          rw [hle]
          cases ho : xb.l r.name2.data.toList with
          | none => exact ⟨rfl, agree_move h hr hxd hi hxb hne hib (wI_ino r)⟩
          | some old =>
            simp only
            by_cases hne2 : old = r.ino
            · rw [if_pos hne2, if_pos hne2]
              exact ⟨rfl, h⟩
            · rw [if_neg hne2, if_neg hne2]
              obtain ⟨n1, n2, n3⟩ := names_both' (firstE_cons h2).1
              have e1 := old_of hW n2 hxb hbk ho
              have e2 : old = r.old := by
                unfold oldAt at hold
                rw [e1] at hold
                simpa using hold
              obtain ⟨_, _, hob, xo, hxo, _⟩ := hW.ent _ _ _ _ hxb ho
              have ho0 : r.old ≠ 0 := by
                have := (hW.range _ _ hxo).1
                omega
              have hwo : wIr r old := .inr ⟨ho0, e2⟩
              rw [h.own old hwo, hxo]
              simp only
              by_cases hg : givesE xi xo ≠ 0
              · rw [if_pos hg, if_pos hg]
                exact ⟨rfl, h⟩
              · rw [if_neg hg, if_neg hg]
                have hg := Decidable.not_not.1 hg
                obtain ⟨gk, ge⟩ := gives_zero hg
                have hod : old ≠ r.dir := fun e => by
                  rw [← e, hxo] at hxd
                  cases hxd
                  rw [ge] at hx
                  cases hx
                have hne3 : r.ino ≠ old := fun e => hne2 e.symm
                have D := h.drop hxb hzb hbb r.name2 old hob xo
                have n1 : (dropT t r.dir2 xb r.name2 old xo).n r.ino = some xi := by
                  rw [drop_n hob, if_neg hib, if_neg hne3]
                  exact hi
                have n2 : ∃ xa', (dropT t r.dir2 xb r.name2 old xo).n r.dir = some xa' := by
                  rw [drop_n hob]
                  split
                  · exact ⟨_, rfl⟩
                  · rw [if_neg (fun e => hod e.symm)]
                    exact ⟨_, hxd⟩
                have n3 : ∃ xb', (dropT t r.dir2 xb r.name2 old xo).n r.dir2 = some xb' := by
                  rw [drop_n hob, if_pos rfl]
                  exact ⟨_, rfl⟩
                obtain ⟨_, n2⟩ := n2
                obtain ⟨_, n3⟩ := n3
                exact ⟨rfl, agree_move D hr n2 n1 n3 hne hib (wI_ino r)⟩
theorem agree_resize (h : AgreeR r t u) : (resizeP u r.ino r.size).1 = (resizeP t r.ino r.size).1 ∧ AgreeR r (resizeP t r.ino r.size).2 (resizeP u r.ino r.size).2 := by
  have hi := AgreeR.ino h
  have e : resizeE u r.ino r.size = resizeE t r.ino r.size := by
    unfold resizeE fileE'
    rw [there_congr (u := u) (t := t) (is := [r.ino]) (by simp [hi]), hi]
  unfold resizeP
  rw [e]
  split
  · refine ⟨rfl, ?_⟩
    show AgreeR r (resizeT t r.ino r.size) (resizeT u r.ino r.size)
    unfold resizeT
    rw [hi]
    cases t.n r.ino with
    | none => exact h
    | some x => exact h.set _ _
  · exact ⟨rfl, h⟩
theorem agree_write (h : AgreeR r t u) : (writeP u r.ino r.page r.data).1 = (writeP t r.ino r.page r.data).1 ∧ AgreeR r (writeP t r.ino r.page r.data).2 (writeP u r.ino r.page r.data).2 := by
  have hi := AgreeR.ino h
  have e : writeE u r.ino r.page r.data = writeE t r.ino r.page r.data := by
    unfold writeE fileE'
    rw [there_congr (u := u) (t := t) (is := [r.ino]) (by simp [hi]), hi]
  unfold writeP
  rw [e]
  split
  · refine ⟨rfl, ?_⟩
    show AgreeR r (writeT t r.ino r.page r.data) (writeT u r.ino r.page r.data)
    unfold writeT
    rw [hi]
    cases t.n r.ino with
    | none => exact h
    | some x => exact h.set _ _
  · exact ⟨rfl, h⟩
theorem agree_free (h : AgreeR r t u) : (freeA u r).1 = (freeA t r).1 ∧ AgreeR r (freeA t r).2 (freeA u r).2 := by
  have hi := AgreeR.ino h
  have e : unholdE u r.ino = unholdE t r.ino := by
    unfold unholdE heldE'
    rw [there_congr (u := u) (t := t) (is := [r.ino]) (by simp [hi]), hi]
  unfold freeA
  rw [hi]
  cases hx : t.n r.ino with
  | none => exact ⟨rfl, h⟩
  | some x =>
    simp only
    split
    · exact ⟨rfl, h⟩
    · unfold unholdP
      rw [e, hi, hx]
      split
      · refine ⟨rfl, ?_⟩
        show AgreeR r (unholdT t r.ino x) (unholdT u r.ino x)
        unfold unholdT
        exact (h.set _ _).free _ _
      · exact ⟨rfl, h⟩
theorem agree_act (hW : WellP t) (h : AgreeR r t u) (hbel : mvB r → ∀ xb, t.n r.dir2 = some xb → xb.kind = 2 → (Bel u r.ino r.dir2 ↔ Bel t r.ino r.dir2)) : (actA u r).1 = (actA t r).1 ∧ AgreeR r (actA t r).2 (actA u r).2 := by
  unfold actA
  split
  · rename_i h1
    obtain ⟨g1, g2⟩ := agree_makeAt h (by omega)
    unfold madeA
    rw [g1]
    split
    · exact ⟨g1, g2⟩
    · exact agree_hold g2
  · split
    · exact agree_link h (by omega)
    · split
      · rename_i h3
        obtain ⟨_, e⟩ := agree_look h (by omega)
        unfold unlinkA
        rw [e]
        split
        · exact ⟨rfl, h⟩
        · rename_i hl
          have hl := Decidable.not_not.1 hl
          split
          · obtain ⟨g1, g2⟩ := agree_drop hW h (by omega) hl rmdirE
            exact ⟨by simp only [g1], g2⟩
          · obtain ⟨g1, g2⟩ := agree_drop hW h (by omega) hl unlinkE
            exact ⟨by simp only [g1], g2⟩
      · split
        · rename_i h4
          exact agree_rename hW h h4 fun hk => hbel ⟨h4, hk⟩
        · split
          · exact agree_resize h
          · split
            · obtain ⟨g1, g2⟩ := agree_write h
              unfold pageA
              rw [g1]
              split
              · exact ⟨g1, g2⟩
              · exact agree_resize g2
            · exact agree_free h
end
section
variable {t u : PT} {a b : R}
theorem check_act (hc : checkB b = true) : (1 ≤ b.act ∧ b.act ≤ 7) ∧ (b.old ≠ 0 → b.act = 4) := by
  unfold checkB fitB kMove at hc
  simp only [Bool.and_eq_true, Bool.or_eq_true, decide_eq_true_eq, Bool.not_eq_true', beq_iff_eq, decide_eq_false_iff_not] at hc
  refine ⟨hc.1.1.1.1.1.1, fun h => ?_⟩
  rcases hc.1.1.2 with ⟨e, _⟩ | ⟨_, e⟩
  · exact e
  · exact absurd e.2 h
/-- A directory that has entries is not turned, but by a move. -/
theorem act_dir (h : WellP t) (hc : checkB b = true) (hmv : ¬ mvB b) {j : Int} {x : PN} (hx : t.n j = some x) (hk : x.kind = 2) (hs : ∃ k v, x.l k = some v) (hw : wIr b j) : (actA t b).2 = t := by
  obtain ⟨hact, hold⟩ := check_act hc
  have hino : b.act ≠ 4 → j = b.ino := fun h4 => by
    rcases hw with e | ⟨e, _⟩
    · exact e
    · exact absurd (hold e) h4
  have hfile : ∀ i, i = j → fileE' t i ≠ 0 := fun i e c => by
    subst e
    exact file_zero hx c hk
  unfold actA
  split
  · rename_i h1
    have e := hino (by omega)
    have h0 : makeAtE t b.dir b.name b.kind b.ino ≠ 0 := fun c => by
      obtain ⟨_, _, _, _, hn⟩ := makeAtE_zero c
      rw [← e, hx] at hn
      cases hn
    unfold madeA makeAtP
    rw [if_neg h0, if_pos (.inl h0)]
  · split
    · rename_i h1
      have e := hino (by omega)
      have h0 : linkE t b.dir b.name b.ino ≠ 0 := fun c => by
        unfold linkE at c
        obtain ⟨_, c⟩ := firstE_cons c
        obtain ⟨_, c⟩ := firstE_cons c
        obtain ⟨_, c⟩ := firstE_cons c
        obtain ⟨c, _⟩ := firstE_cons c
        exact hfile _ e.symm c
      unfold linkA linkP
      rw [if_neg h0]
    · split
      · rename_i h1
        have e := hino (by omega)
        unfold unlinkA
        split
        · rfl
        · rename_i hl
          have hl := Decidable.not_not.1 hl
          obtain ⟨h0, h1⟩ := lookA_zero hl
          obtain ⟨xd, xi, hd, hx2, hi, hne, _⟩ := look_zero h h0
          rw [h1, ← e, hx] at hi
          obtain rfl := Option.some.inj hi
          have q1 : rmdirE x ≠ 0 := fun c => by
            obtain ⟨k, v, hv⟩ := hs
            rw [gone_ents h hx _ (.inr rfl) c] at hv
            cases hv
          have q2 : unlinkE x ≠ 0 := fun c => by
            unfold unlinkE at c
            rw [hk] at c
            cases c
          have gen : ∀ q : PN → Int, q x ≠ 0 → (dropP t b.dir b.name q).2 = t := fun q hq => by
            unfold dropP
            rw [if_neg (by rw [h0]; simp), hd, h1, ← e, hx]
            simp only
            rw [if_pos hq]
          split
          · exact gen _ q1
          · exact gen _ q2
      · split
        · rename_i h4
          have hbk : b.kind ≠ 2 := fun c => hmv ⟨h4, c⟩
          unfold renameA
          split
          · rfl
          · rename_i hl
            have hl := Decidable.not_not.1 hl
            obtain ⟨l0, l1⟩ := lookA_zero hl
            obtain ⟨xd, xi, hxd, hx2, hi, hne, _⟩ := look_zero h l0
            split
            · rfl
            · rename_i hko2
              have hkind : kindAt t b.ino = b.kind := Decidable.byContradiction fun c => hko2 (.inl c)
              have holdA : oldAt t b = b.old := Decidable.byContradiction fun c => hko2 (.inr c)
              rw [l1] at hi
              have hik : xi.kind = b.kind := by
                unfold kindAt at hkind
                rw [hi] at hkind
                exact hkind
              have hjo : j = b.old := by
                rcases hw with e | ⟨_, e⟩
                · rw [← e, hx] at hi
                  obtain rfl := Option.some.inj hi
                  omega
                · exact e
              unfold renameP
              split
              · rfl
              · rename_i h2
                have h2 := Decidable.not_not.1 h2
                obtain ⟨xa, xb, hxa, hxb, hak, hbk2⟩ := rename_dirs h2
                rw [if_neg (by rw [l0]; simp), l1, hi, hxb]
                simp only
                split
                · rfl
                · cases ho : xb.l b.name2.data.toList with
                  | none =>
                    exfalso
                    obtain ⟨n1, n2, n3⟩ := names_both' (firstE_cons h2).1
                    have e1 := look_of' n2 hxb hbk2
                    rw [ho] at e1
                    unfold oldAt at holdA
                    rw [e1] at holdA
                    simp at holdA
                    have := (h.range _ _ hx).1
                    omega
                  | some old =>
                    simp only
                    split
                    · rfl
                    · obtain ⟨n1, n2, n3⟩ := names_both' (firstE_cons h2).1
                      have e1 := old_of h n2 hxb hbk2 ho
                      have e2 : old = b.old := by
                        unfold oldAt at holdA
                        rw [e1] at holdA
                        simpa using holdA
                      rw [e2, ← hjo, hx]
                      simp only
                      rw [if_pos]
                      intro hg
                      have := (gives_zero hg).1.1 hk
                      omega
        · have hr : ∀ e : j = b.ino, resizeE t b.ino b.size ≠ 0 := fun e c => by
            unfold resizeE at c
            obtain ⟨_, c⟩ := firstE_cons c
            obtain ⟨c, _⟩ := firstE_cons c
            exact hfile _ e.symm c
          have hwr : ∀ e : j = b.ino, writeE t b.ino b.page b.data ≠ 0 := fun e c => by
            unfold writeE at c
            obtain ⟨_, c⟩ := firstE_cons c
            obtain ⟨c, _⟩ := firstE_cons c
            exact hfile _ e.symm c
          split
          · rename_i h5
            unfold sizeA resizeP
            rw [if_neg (hr (hino (by omega)))]
          · split
            · rename_i h6
              have h0 := hwr (hino (by omega))
              unfold pageA writeP
              rw [if_neg h0, if_pos h0]
            · have e := hino (by omega)
              unfold freeA
              rw [← e, hx]
              simp only
              split
              · rfl
              · unfold unholdP
                rw [if_neg]
                intro c
                unfold unholdE at c
                obtain ⟨_, c⟩ := firstE_cons c
                obtain ⟨c, _⟩ := firstE_cons c
                unfold heldE' at c
                rw [hx] at c
                unfold heldE at c
                simp [(h.dirs j x hx hk).2] at c
theorem up_of_hd {j : Int} (h : hdP u j = hdP t j) : upAt u j = upAt t j := by
  unfold upAt
  cases hx : t.n j with
  | none =>
    have := hd_same h
    rw [hx] at this
    cases hu : u.n j with
    | none => rfl
    | some z => rw [hu] at this; cases this
  | some x =>
    obtain ⟨z, hz, hb⟩ := hd_get h hx
    rw [hz]
    exact bare_up hb
theorem bel_keeps (h : WellP t) {d : Int} {xb : PN} (hu : ∀ j x, t.n j = some x → x.kind = 2 → (j = d ∨ ∃ k v, x.l k = some v) → upAt u j = upAt t j) (hb : t.n d = some xb) (hk : xb.kind = 2) (top : Int) : Bel u top d ↔ Bel t top d := by
  have key : ∀ (n : Nat) (j : Int), (j = 0 ∨ ∃ x, t.n j = some x ∧ x.kind = 2 ∧ (j = d ∨ ∃ k v, x.l k = some v)) → belowP u top n j = belowP t top n j := by
    intro n
    induction n with
    | zero => intro j _; rfl
    | succ n ih =>
      rintro j (rfl | ⟨x, hx, hxk, hs⟩)
      · rw [belowP_zero, belowP_zero]
      · unfold belowP
        rw [hu j x hx hxk hs]
        split
        · rfl
        · rename_i hj0
          split
          · rfl
          · refine ih _ ?_
            have e : upAt t j = x.up := by unfold upAt; rw [hx]
            rw [e]
            by_cases hup : x.up = 0
            · exact .inl hup
            · have hj1 : j ≠ 1 := fun e1 => by
                obtain ⟨x1, h1, _, h3⟩ := h.root
                rw [e1, h1] at hx
                cases hx
                exact hup h3
              obtain ⟨k, xu, hxu, hlu⟩ := h.up j x hx hxk hj1
              exact .inr ⟨xu, hxu, (h.ent _ _ _ _ hxu hlu).1, .inr ⟨k, j, hlu⟩⟩
  unfold Bel
  constructor
  · rintro ⟨n, hn⟩
    exact ⟨n, by rw [← key n d (.inr ⟨xb, hb, hk, .inl rfl⟩)]; exact hn⟩
  · rintro ⟨n, hn⟩
    exact ⟨n, by rw [key n d (.inr ⟨xb, hb, hk, .inl rfl⟩)]; exact hn⟩
/-- What the two have nothing of. -/
structure ApartR (a b : R) : Prop where
  ww : ∀ j, wIr a j → ¬ wIr b j
  wr : ∀ j, wIr a j → ¬ rIr b j
  rw_ : ∀ j, rIr a j → ¬ wIr b j
  ee : ∀ d k, wEr a d k → ¬ wEr b d k
  mv : ¬ (mvB a ∧ mvB b)
theorem ApartR.symm (h : ApartR a b) : ApartR b a := ⟨fun j x y => h.ww j y x, fun j x y => h.rw_ j y x, fun j x y => h.wr j y x, fun d k x y => h.ee d k y x, fun x => h.mv ⟨x.2, x.1⟩⟩
theorem apart_agree (h : WellP t) (hb : checkB b = true) (hp : ApartR a b) : AgreeR a t (actA t b).2 ∧ (mvB a → ∀ xb, t.n a.dir2 = some xb → xb.kind = 2 → (Bel (actA t b).2 a.ino a.dir2 ↔ Bel t a.ino a.dir2)) := by
  have K := keeps_actA (r := b) h hb
  have hown : ∀ j, wIr a j → (actA t b).2.n j = t.n j := fun j hj => by
    have e1 := K.hd j (hp.ww j hj)
    have e2 : ∀ k, entP (actA t b).2 j k = entP t j k := fun k => K.ent j k fun hw => by
      obtain ⟨h1, h2⟩ := hw
      refine hp.wr j hj ⟨h1, ?_⟩
      rcases h2 with ⟨e, _⟩ | ⟨e4, e, _⟩
      · exact .inl e
      · exact .inr ⟨e4, e⟩
    cases hx : t.n j with
    | none =>
      have := hd_same e1
      rw [hx] at this
      simpa using this
    | some x =>
      obtain ⟨z, hz, hbz⟩ := hd_get e1 hx
      rw [hz]
      congr 1
      refine bare_ext hbz fun k => ?_
      rw [← ent_some (k := k) hz, ← ent_some (k := k) hx]
      exact e2 k
  refine ⟨⟨K.room, hown, fun j hj => K.hd j (hp.rw_ j hj), fun d k hk => K.ent d k (hp.ee d k hk)⟩, fun hm xb hxb hk => ?_⟩
  refine bel_keeps h (fun j x hx hxk hs => ?_) hxb hk _
  by_cases hw : wIr b j
  · rcases hs with rfl | hs
    · exact absurd hw (hp.rw_ _ ⟨by have := hm.1; omega, .inr ⟨hm.1, rfl⟩⟩)
    · rw [act_dir h hb (fun c => hp.mv ⟨hm, c⟩) hx hxk hs hw]
  · exact up_of_hd (K.hd j hw)
/-- In either order. -/
theorem apart_act (h : WellP t) (hra : a.Ok) (hrb : b.Ok) (ha : checkB a = true) (hb : checkB b = true) (hp : ApartR a b) :
    (actA (actA t b).2 a).1 = (actA t a).1 ∧ (actA (actA t a).2 b).1 = (actA t b).1 ∧ (actA (actA t b).2 a).2 = (actA (actA t a).2 b).2 := by
  obtain ⟨A1, B1⟩ := apart_agree h hb hp
  obtain ⟨A2, B2⟩ := apart_agree h ha hp.symm
  obtain ⟨x1, R1⟩ := agree_act h A1 B1
  obtain ⟨x2, R2⟩ := agree_act h A2 B2
  have Ka := keeps_actA (r := a) h ha
  have Kb := keeps_actA (r := b) h hb
  have Ka' := keeps_actA (r := a) (h.actA_ hrb) ha
  have Kb' := keeps_actA (r := b) (h.actA_ hra) hb
  refine ⟨x1, x2, cells_ext ?_ (fun j => ?_) fun d k => ?_⟩
  · rw [Ka'.room, Kb.room, Kb'.room, Ka.room]
  · by_cases h1 : wIr a j
    · rw [Kb'.hd j (hp.ww j h1)]
      unfold hdP
      rw [R1.own j h1]
    · rw [Ka'.hd j h1]
      by_cases h2 : wIr b j
      · unfold hdP
        rw [R2.own j h2]
      · rw [Kb.hd j h2, Kb'.hd j h2, Ka.hd j h1]
  · by_cases h1 : wEr a d k
    · rw [Kb'.ent d k (hp.ee d k h1), R1.ent d k h1]
    · rw [Ka'.ent d k h1]
      by_cases h2 : wEr b d k
      · rw [R2.ent d k h2]
      · rw [Kb.ent d k h2, Kb'.ent d k h2, Ka.ent d k h1]
end
section
variable {r a b : R}
theorem parts_ino (hc : checkB r = true) {j : Int} (h : wIr r j) : ⟨2, j, ⟨#[]⟩, true⟩ ∈ partsL r := by
  obtain ⟨hact, hold⟩ := check_act hc
  unfold partsL
  rw [if_pos hc]
  by_cases he : kEntry r.act = true
  · rw [if_pos he]
    rcases h with e | ⟨e0, e⟩
    · subst e; simp
    · subst e
      have : (r.old != 0) = true := by simpa using e0
      simp [this]
  · rw [if_neg he]
    rcases h with e | ⟨e0, _⟩
    · subst e; simp
    · exfalso
      have := hold e0
      exact he (by unfold kEntry; simp; omega)
theorem parts_dir (hc : checkB r = true) {j : Int} (h : rIr r j) : ⟨2, j, ⟨#[]⟩, false⟩ ∈ partsL r := by
  obtain ⟨h1, h2⟩ := h
  have he : kEntry r.act = true := by unfold kEntry; simp; omega
  unfold partsL
  rw [if_pos hc, if_pos he]
  rcases h2 with e | ⟨e4, e⟩
  · subst e; simp
  · subst e
    have : (r.act == 4) = true := by simpa using e4
    simp [this]
theorem parts_ent (hc : checkB r = true) {d : Int} {k : List UInt8} (h : wEr r d k) : ∃ s : ByteArray, s.data.toList = k ∧ ⟨1, d, s, true⟩ ∈ partsL r := by
  obtain ⟨h1, h2⟩ := h
  have he : kEntry r.act = true := by unfold kEntry; simp; omega
  unfold partsL
  rw [if_pos hc, if_pos he]
  rcases h2 with ⟨e, e2⟩ | ⟨e4, e, e2⟩
  · subst e; exact ⟨_, e2.symm, by simp⟩
  · subst e
    have : (r.act == 4) = true := by simpa using e4
    exact ⟨_, e2.symm, by simp [this]⟩
theorem parts_mv (hc : checkB r = true) (h : mvB r) : ⟨3, 0, ⟨#[]⟩, true⟩ ∈ partsL r := by
  obtain ⟨h4, h2⟩ := h
  have he : kEntry r.act = true := by unfold kEntry; simp; omega
  have e1 : (r.act == 4 && r.kind == 2) = true := by simp [h4, h2]
  unfold partsL
  rw [if_pos hc, if_pos he, e1]
  simp
theorem meet_at {x y : Pt} (hx : x ∈ partsL a) (hy : y ∈ partsL b) (h : meetPt x y = true) : meetB a b = true :=
  List.any_eq_true.2 ⟨x, hx, List.any_eq_true.2 ⟨y, hy, h⟩⟩
theorem apart_of (ha : checkB a = true) (hb : checkB b = true) (hm : meetB a b = false) : ApartR a b := by
  have no : ∀ {x y : Pt}, x ∈ partsL a → y ∈ partsL b → meetPt x y = true → False := fun hx hy h => by rw [meet_at hx hy h] at hm; cases hm
  refine ⟨fun j h1 h2 => no (parts_ino ha h1) (parts_ino hb h2) (by simp [meetPt]), fun j h1 h2 => no (parts_ino ha h1) (parts_dir hb h2) (by simp [meetPt]), fun j h1 h2 => no (parts_dir ha h1) (parts_ino hb h2) (by simp [meetPt]), fun d k h1 h2 => ?_, fun h => no (parts_mv ha h.1) (parts_mv hb h.2) (by simp [meetPt])⟩
  obtain ⟨s1, e1, m1⟩ := parts_ent ha h1
  obtain ⟨s2, e2, m2⟩ := parts_ent hb h2
  have e : s1 = s2 := ByteArray.ext (Array.ext' (e1.trans e2.symm))
  subst e
  exact no m1 m2 (by simp [meetPt])
/-- Two records that do not meet, in either order. -/
theorem apart_play {t : PT} (h : WellP t) (hra : a.Ok) (hrb : b.Ok) (hm : meetB a b = false) :
    (playA (playA t b).2 a).1 = (playA t a).1 ∧ (playA (playA t a).2 b).1 = (playA t b).1 ∧ (playA (playA t b).2 a).2 = (playA (playA t a).2 b).2 := by
  cases ha : checkB a
  · unfold playA
    simp [ha]
  · cases hb : checkB b
    · unfold playA
      simp [hb]
    · have := apart_act h hra hrb ha hb (apart_of ha hb hm)
      unfold playA
      simp only [ha, hb, if_true]
      exact this
end
end Go.Proofs.YtogljgiefmfafaaGreat
