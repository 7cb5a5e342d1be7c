/- Whether two records meet, walked. -/
import Derived.Test.YtogljgiefmfafaaGreatPb15
import Derived.Test.YtogljgiefmfafaaGreatPb20
import Derived.Test.YtogljgiefmfafaaGreatPb24
import Derived.Test.YtogljgiefmfafaaGreatPb26
import Derived.Test.YtogljgiefmfafaaGreatPb27
import Derived.Test.YtogljgiefmfafaaGreatRows
import Derived.Carry
import Derived.ProofKit
import Derived.SizedLaws
import Derived.Deep.Slices
import Derived.Deep.Fields
import Derived.ChangeMaps5
import Derived.ChangeSlices
import Derived.Laws.BytesString
import Derived.OwnWalk
import Derived.Laws.Bits64b
import Derived.Laws.OwnMore
import Derived.Deep.DeepCutAuto
import Derived.Deep.CutBlock
import Derived.Test.YtogljgiefmfafaaGreatProg
import Derived.Shelf.Lays
import Derived.WalkKit
namespace Go.Proofs.YtogljgiefmfafaaGreat
section
open Go.RowKit Go.Maps
def meetPt (x y : Pt) : Bool := x.kind == y.kind && x.ino == y.ino && decide (x.name.toList = y.name.toList) && (x.write || y.write)
def meetB (a b : R) : Bool := (partsL a).any fun x => (partsL b).any fun y => meetPt x y
theorem part_cells {w w' : World} {base n c : Nat} {A : Option Addr} {l : List Pt} (h : w.ownsRow base 125 4 (.slice A n c) n (flatP l)) (_hn : l.length = n) (hb : Below w.heap.size w w') {k : Nat} (hk : k < n) :
  ∃ g, A = some ⟨g, 0, none⟩ ∧ ∀ (x : Pt), l[k]? = some x → w'.cell? ⟨g, k * 4, none⟩ = some (.int .u8 x.kind) ∧ w'.cell? ⟨g, k * 4 + 1, none⟩ = some (.int .u32 x.ino) ∧ w'.cell? ⟨g, k * 4 + 2, none⟩ = some (.string x.name) ∧ w'.cell? ⟨g, k * 4 + 3, none⟩ = some (.bool x.write) := by
 have hh := h
 rcases h.2 with ⟨h1, h2⟩ | ⟨g, cap, cur, h1, h2, h3, h4, h5, h6, h7⟩
 · omega
 · injection h1 with h1 h8
   subst h1
   refine ⟨g, rfl, fun x hx => ?_⟩
   have hlt := (Array.getElem?_eq_some_iff.1 h3).1
   have key : ∀ (j : Nat) (u : Value), (flatP l)[j]? = some u → w'.cell? ⟨g, j, none⟩ = some u := fun j u hu => by
    have hj : j < n * 4 := by
     have := (List.getElem?_eq_some_iff.1 hu).1
     rw [hh.1] at this
     exact this
    rw [World.cell?_of_block (a := ⟨g, j, none⟩) (hb.block g hlt)]
    rw [← h7, List.getElem?_take, if_pos hj] at hu
    simp only [World.cell?, h3]
    simpa using hu
   have fl : ∀ (l : List Pt) (k : Nat) (x : Pt) (i : Nat) (u : Value), l[k]? = some x → x.cells[i]? = some u → i < 4 → (flatP l)[k * 4 + i]? = some u := by
    intro l
    induction l with
    | nil => intro k x i u h; simp at h
    | cons y l ih =>
     intro k x i u h1 h2 h3
     show (y.cells ++ flatP l)[k * 4 + i]? = some u
     cases k with
     | zero =>
      simp only [List.getElem?_cons_zero, Option.some.injEq] at h1
      subst h1
      rw [List.getElem?_append_left (by show _ < 4; omega)]
      simpa using h2
     | succ k =>
      rw [List.getElem?_append_right (by show 4 ≤ _; omega)]
      have : (k + 1) * 4 + i - y.cells.length = k * 4 + i := by show (k + 1) * 4 + i - 4 = _; omega
      rw [this]
      exact ih k x i u (by simpa using h1) h2 h3
   exact ⟨key _ _ (fl l k x 0 _ hx rfl (by omega)), key _ _ (fl l k x 1 _ hx rfl (by omega)), key _ _ (fl l k x 2 _ hx rfl (by omega)), key _ _ (fl l k x 3 _ hx rfl (by omega))⟩
theorem rec_cell {w w' : World} {B : Nat} {r : R} (h : w.heap[B]? = some (.cells (cellsR r) 50 (0, 0))) (hb : Below w.heap.size w w') (i : Nat) (v : Value) (hv : (cellsR r)[i]? = some v) : w'.cell? ⟨B, i, none⟩ = some v := by
 simp only [World.cell?, (hb.block B (lt_heap h)).trans h]; exact hv
theorem pt_cell {w w' : World} {B : Nat} {x : Pt} (h : w.heap[B]? = some (.cells #[.int .u8 x.kind, .int .u32 x.ino, .string x.name, .bool x.write] 125 (0, 0))) (hb : Below w.heap.size w w') (i : Nat) (v : Value) (hv : (#[.int .u8 x.kind, .int .u32 x.ino, .string x.name, .bool x.write] : Array Value)[i]? = some v) : w'.cell? ⟨B, i, none⟩ = some v := by
 simp only [World.cell?, (hb.block B (lt_heap h)).trans h]; exact hv
theorem any_take_succ {α : Type} (p : α → Bool) (l : List α) (k : Nat) (x : α) (hx : l[k]? = some x) (h : (l.take k).any p = false) (hp : p x = false) : (l.take (k + 1)).any p = false := by
 obtain ⟨h1, rfl⟩ := List.getElem?_eq_some_iff.1 hx
 rw [List.take_succ_eq_append_getElem h1, List.any_append, h]
 simp [hp]
theorem any_at {α : Type} (p : α → Bool) (l : List α) (k : Nat) (x : α) (hx : l[k]? = some x) (hp : p x = true) : l.any p = true :=
 List.any_eq_true.2 ⟨x, List.mem_of_getElem? hx, hp⟩
set_option maxRecDepth 100000 in
set_option maxHeartbeats 8000000 in
theorem t_meet (a b : R) (ha : a.Ok) (a1 : a.name.size ≤ maxLen) (a2 : a.name2.size ≤ maxLen) (hb : b.Ok) (b1 : b.name.size ≤ maxLen) (b2 : b.name2.size ≤ maxLen) (w : World) :
  Calls Tryz.prog 30 #[a.val, b.val] w fun e w' => e = .returned (.bool (meetB a b)) ∧ Below w.heap.size w w' := by
 have hpa := fun w => t_parts a ha a1 a2 w
 have hpb := fun w => t_parts b hb b1 b2 w
 unfold R.val at hpa hpb ⊢
 obtain ⟨res, hres⟩ : ∃ r, meetB a b = r := ⟨_, rfl⟩
 rw [hres]
 unfold meetB at hres
 obtain ⟨la, hla⟩ : ∃ l, partsL a = l := ⟨_, rfl⟩
 obtain ⟨lb, hlb⟩ : ∃ l, partsL b = l := ⟨_, rfl⟩
 rw [hla, hlb] at hres
 rw [hla] at hpa
 rw [hlb] at hpb
 obtain ⟨n, hn⟩ : ∃ n, la.length = n := ⟨_, rfl⟩
 obtain ⟨m, hm⟩ : ∃ n, lb.length = n := ⟨_, rfl⟩
 rw [hn] at hpa
 rw [hm] at hpb
 have hn9 : n ≤ 9 := by
  rw [← hn, ← hla]; unfold partsL
  repeat (split <;> try simp)
 have hm9 : m ≤ 9 := by
  rw [← hm, ← hlb]; unfold partsL
  repeat (split <;> try simp)
 have HRES := zz hres
 have HN := zz hn
 have HM := zz hm
 clear hres hla hlb hn hm
 go_enter Tryz.func30, Tryz.ntmps30
 go_wp2_with (go_at_call 55; (with_reducible refine (hpa _).mono ?_); rintro e w1 ⟨v, rfl, ho, hbl⟩; obtain ⟨A, c, rfl⟩ := row_slice ho; have HO := zz ho; have HBL := zz hbl; clear ho hbl)
 have hrb : w1.heap[w.heap.size + 1]? = some (.cells (cellsR b) 50 (0, 0)) := by
  rw [HBL.out.block _ (by rw [World.alloc_size', World.alloc_size']; omega)]
  exact new_at _ _ _ (by simp)
 have HRB := zz hrb
 have hw1 : Below w.heap.size w w1 := (((Below.refl _ _).alloc (Nat.le_refl _) _).alloc (by rw [World.alloc_size']; omega) _).trans (HBL.out.mono (by rw [World.alloc_size', World.alloc_size']; omega))
 have HW1 := zz hw1
 clear hrb hw1 HBL hpa
 go_loopw [12] (fun x wr => ∃ k : Nat, x = .int .i64 (k : Int) ∧ k ≤ n ∧ Hid (Below w1.heap.size w1 wr) ∧ Hid ((la.take k).any (fun x => lb.any fun y => meetPt x y) = false)) (fun x _ => n - (intOf x).toNat)
 case atStart => exact ⟨0, rfl, Nat.zero_le _, Below.refl _ _, rfl⟩
 case round =>
  obtain ⟨k, rfl, hk, HB, HA⟩ := hrel
  by_cases he : k = n
  · have hf : Hid (false = res) := by
     show _ = _
     rw [← HRES.out]
     have := HA.out
     rw [List.take_of_length_le (by rw [HN.out]; omega)] at this
     exact this.symm
    go_wp2
    go_ret
    exact ⟨pret_bool hf.out, ptrans HW1.out HB.out⟩
  · have hk2 : k < n := by omega
    obtain ⟨g, hg, hc⟩ := part_cells HO.out HN.out HB.out hk2
    obtain ⟨x, hx⟩ : ∃ x, la[k]? = some x := ⟨la[k]'(by rw [HN.out]; omega), List.getElem?_eq_getElem _⟩
    subst hg
    obtain ⟨c0, c1, c2, c3⟩ := hc x hx
    have cb0 := rec_cell HRB.out (HB.out.alloc HB.out.size (.cells #[.int .u8 x.kind, .int .u32 x.ino, .string x.name, .bool x.write] 125)) 0 _ rfl
    have cb1 := rec_cell HRB.out (HB.out.alloc HB.out.size (.cells #[.int .u8 x.kind, .int .u32 x.ino, .string x.name, .bool x.write] 125)) 1 _ rfl
    have cb2 := rec_cell HRB.out (HB.out.alloc HB.out.size (.cells #[.int .u8 x.kind, .int .u32 x.ino, .string x.name, .bool x.write] 125)) 2 _ rfl
    have cb3 := rec_cell HRB.out (HB.out.alloc HB.out.size (.cells #[.int .u8 x.kind, .int .u32 x.ino, .string x.name, .bool x.write] 125)) 3 _ rfl
    have cb4 := rec_cell HRB.out (HB.out.alloc HB.out.size (.cells #[.int .u8 x.kind, .int .u32 x.ino, .string x.name, .bool x.write] 125)) 4 _ rfl
    have cb5 := rec_cell HRB.out (HB.out.alloc HB.out.size (.cells #[.int .u8 x.kind, .int .u32 x.ino, .string x.name, .bool x.write] 125)) 5 _ rfl
    have cb6 := rec_cell HRB.out (HB.out.alloc HB.out.size (.cells #[.int .u8 x.kind, .int .u32 x.ino, .string x.name, .bool x.write] 125)) 6 _ rfl
    have cb7 := rec_cell HRB.out (HB.out.alloc HB.out.size (.cells #[.int .u8 x.kind, .int .u32 x.ino, .string x.name, .bool x.write] 125)) 7 _ rfl
    have cb8 := rec_cell HRB.out (HB.out.alloc HB.out.size (.cells #[.int .u8 x.kind, .int .u32 x.ino, .string x.name, .bool x.write] 125)) 8 _ rfl
    have cb9 := rec_cell HRB.out (HB.out.alloc HB.out.size (.cells #[.int .u8 x.kind, .int .u32 x.ino, .string x.name, .bool x.write] 125)) 9 _ rfl
    have cb10 := rec_cell HRB.out (HB.out.alloc HB.out.size (.cells #[.int .u8 x.kind, .int .u32 x.ino, .string x.name, .bool x.write] 125)) 10 _ rfl
    have cb11 := rec_cell HRB.out (HB.out.alloc HB.out.size (.cells #[.int .u8 x.kind, .int .u32 x.ino, .string x.name, .bool x.write] 125)) 11 _ rfl
    go_wp2_with (go_at_call 55; (with_reducible refine (hpb _).mono ?_); rintro e w2 ⟨v2, rfl, ho2, hbl2⟩; obtain ⟨A2, d2, rfl⟩ := row_slice ho2; have HO2 := zz ho2; have HBL2 := zz hbl2; clear ho2 hbl2)
    have hxb : (wr.alloc (.cells #[.int .u8 x.kind, .int .u32 x.ino, .string x.name, .bool x.write] 125)).heap[wr.heap.size]? = some (.cells #[.int .u8 x.kind, .int .u32 x.ino, .string x.name, .bool x.write] 125 (0, 0)) := heap_alloc_new _ _
    have hx2 : w2.heap[wr.heap.size]? = some (.cells #[.int .u8 x.kind, .int .u32 x.ino, .string x.name, .bool x.write] 125 (0, 0)) := (HBL2.out.block _ (lt_heap hxb)).trans hxb
    have HX2 := zz hx2
    have hB2 : Below w1.heap.size w1 w2 := (HB.out.alloc HB.out.size (.cells #[.int .u8 x.kind, .int .u32 x.ino, .string x.name, .bool x.write] 125)).trans (HBL2.out.mono (by rw [World.alloc_size']; have := HB.out.size; omega))
    have HB2 := zz hB2
    have HXX := zz hx
    clear hxb hx2 hB2 HBL2 c0 c1 c2 c3 cb0 cb1 cb2 cb3 cb4 cb5 cb6 cb7 cb8 cb9 cb10 cb11 hc hx
    go_loopw [19] (fun z wz => ∃ j : Nat, z = .int .i64 (j : Int) ∧ j ≤ m ∧ Hid (Below w2.heap.size w2 wz) ∧ Hid ((lb.take j).any (fun y => meetPt x y) = false)) (fun z _ => m - (intOf z).toNat)
    case atStart => exact ⟨0, rfl, Nat.zero_le _, Below.refl _ _, rfl⟩
    case round =>
     obtain ⟨j, rfl, hj, HBj, HJ⟩ := hrel
     by_cases hje : j = m
     · have hno : Hid (lb.any (fun y => meetPt x y) = false) := by
        have := HJ.out
        rw [List.take_of_length_le (by rw [HM.out]; omega)] at this
        exact this
       go_wp2
       go_roundw
       case rel => exact ⟨k + 1, rfl, hk2, HB2.out.trans (HBj.out.mono HB2.out.size), any_take_succ _ _ _ _ HXX.out HA.out hno.out⟩
       case measure => simp only [intOf]; omega
     · have hj2 : j < m := by omega
       obtain ⟨g2, hg2, hc2⟩ := part_cells HO2.out HM.out HBj.out hj2
       obtain ⟨y, hy⟩ : ∃ y, lb[j]? = some y := ⟨lb[j]'(by rw [HM.out]; omega), List.getElem?_eq_getElem _⟩
       subst hg2
       obtain ⟨e0, e1, e2, e3⟩ := hc2 y hy
       have x0 := pt_cell HX2.out (HBj.out.alloc HBj.out.size (.cells #[.int .u8 y.kind, .int .u32 y.ino, .string y.name, .bool y.write] 125)) 0 _ rfl
       have x1 := pt_cell HX2.out (HBj.out.alloc HBj.out.size (.cells #[.int .u8 y.kind, .int .u32 y.ino, .string y.name, .bool y.write] 125)) 1 _ rfl
       have x2 := pt_cell HX2.out (HBj.out.alloc HBj.out.size (.cells #[.int .u8 y.kind, .int .u32 y.ino, .string y.name, .bool y.write] 125)) 2 _ rfl
       have x3 := pt_cell HX2.out (HBj.out.alloc HBj.out.size (.cells #[.int .u8 y.kind, .int .u32 y.ino, .string y.name, .bool y.write] 125)) 3 _ rfl
       have HY := zz hy
       clear hc2 hy
       cases h1 : (x.kind == y.kind)
       · go_wp2
         go_roundw
         case rel => exact ⟨j + 1, rfl, hj2, HBj.out.alloc HBj.out.size _, any_take_succ _ _ _ _ HY.out HJ.out (by unfold meetPt; simp [h1])⟩
         case measure => simp only [intOf]; omega
       · cases h2 : (x.ino == y.ino)
         · go_wp2
           go_roundw
           case rel => exact ⟨j + 1, rfl, hj2, HBj.out.alloc HBj.out.size _, any_take_succ _ _ _ _ HY.out HJ.out (by unfold meetPt; simp [h1, h2])⟩
           case measure => simp only [intOf]; omega
         · by_cases h3 : x.name.toList = y.name.toList
           · cases h4 : x.write
             · cases h5 : y.write
               · rw [h5] at x0 x1 x2 x3
                 go_wp2
                 go_roundw
                 case rel => exact ⟨j + 1, rfl, hj2, HBj.out.alloc HBj.out.size _, any_take_succ _ _ _ _ HY.out HJ.out (by unfold meetPt; simp [h1, h2, h3, h4, h5])⟩
                 case measure => simp only [intOf]; omega
               · rw [h5] at x0 x1 x2 x3
                 go_wp2
                 go_ret
                 have ht : true = res := by
                  rw [← HRES.out]
                  exact (any_at _ _ _ _ HXX.out (any_at _ _ _ _ HY.out (by unfold meetPt; simp [h1, h2, h3, h4, h5]))).symm
                 exact ⟨pret_bool ht, ptrans HW1.out (HB2.out.trans ((HBj.out.alloc HBj.out.size _).mono HB2.out.size))⟩
             · go_wp2
               go_ret
               have ht : true = res := by
                rw [← HRES.out]
                exact (any_at _ _ _ _ HXX.out (any_at _ _ _ _ HY.out (by unfold meetPt; simp [h1, h2, h3, h4]))).symm
               exact ⟨pret_bool ht, ptrans HW1.out (HB2.out.trans ((HBj.out.alloc HBj.out.size _).mono HB2.out.size))⟩
           · go_wp2
             go_roundw
             case rel => exact ⟨j + 1, rfl, hj2, HBj.out.alloc HBj.out.size _, any_take_succ _ _ _ _ HY.out HJ.out (by unfold meetPt; simp [h1, h2, h3])⟩
             case measure => simp only [intOf]; omega
end

section
open Go.RowKit Go.Maps
def RecOk (r : R) : Prop := r.Ok ∧ r.name.size ≤ maxLen ∧ r.name2.size ≤ maxLen ∧ r.data.size ≤ maxLen
structure RecsAt (w : World) (A : Option Addr) (l : List R) : Prop where
 at_ : l ≠ [] → ∃ b o, A = some ⟨b, o, none⟩ ∧ b < w.heap.size ∧ ∀ (k : Nat) (r : R), l[k]? = some r → ∀ (i : Nat) (v : Value), (cellsR r)[i]? = some v → w.cell? ⟨b, o + k * 12 + i, none⟩ = some v
 ok : ∀ r ∈ l, RecOk r
theorem RecsAt.below {w w' : World} {A : Option Addr} {l : List R} (h : RecsAt w A l) (hb : Below w.heap.size w w') : RecsAt w' A l :=
 ⟨fun hn => by
  obtain ⟨b, o, h1, h2, h3⟩ := h.at_ hn
  exact ⟨b, o, h1, Nat.lt_of_lt_of_le h2 hb.size, fun k r hk i v hv => (World.cell?_of_block (a := ⟨b, _, none⟩) (hb.block b h2)).trans (h3 k r hk i v hv)⟩, h.ok⟩
def rAt (l : List R) (k : Nat) : R := l.getD k ⟨0, 0, 0, ⟨#[]⟩, 0, 0, 0, ⟨#[]⟩, 0, 0, 0, ⟨#[]⟩⟩
end

section
open Go.RowKit Go.Maps
def Own (B : Nat) (w1 : World) (P N : Nat) (t : PT) (w : World) : Prop := ∃ y F, TreeM w F P N y t ∧ WellP t ∧ (∀ b, F b → B ≤ b) ∧ B ≤ w.heap.size ∧ Below B w1 w
theorem RecOk.texts {r : R} (h : RecOk r) : r.Texts := ⟨h.1, h.2.1, h.2.2.1, h.2.2.2⟩
def ManyQ (n : Nat) (w : World) (e : Ending) (w' : World) : Prop := ∃ b : Bool, e = .returned (.bool b) ∧ (b = false → n ≤ 80) ∧ Below w.heap.size w w'
theorem ManyQ.get {n : Nat} {w w' : World} {e : Ending} (h : ManyQ n w e w') : ∃ b : Bool, e = .returned (.bool b) ∧ (b = false → n ≤ 80) ∧ Below w.heap.size w w' := h
theorem ManyQ.of {n : Nat} {w w' : World} {b : Bool} (h : b = false → n ≤ 80) (hb : Below w.heap.size w w') : ManyQ n w (.returned (.bool b)) w' := ⟨b, rfl, h, hb⟩
set_option maxRecDepth 100000 in
theorem t_longR (r : R) (w : World) : Calls Tryz.prog 29 #[.agg #[.int .u64 r.stamp, .int .u8 r.act, .int .u32 r.dir, .string r.name, .int .u32 r.ino, .int .u8 r.kind, .int .u32 r.dir2, .string r.name2, .int .u32 r.old, .int .u32 r.size, .int .i64 r.page, .string r.data]] w fun e w' => (∃ b : Bool, e = .returned (.bool b)) ∧ Below w.heap.size w w' := by
 go_enter Tryz.func29, Tryz.ntmps29
 go_wp2
 go_ret
 exact ⟨⟨_, rfl⟩, below_a1' w _⟩
theorem rAt_at {l : List R} {k : Nat} (h : k < l.length) : l[k]? = some (rAt l k) := by
 unfold rAt
 rw [List.getD_eq_getElem?_getD, List.getElem?_eq_getElem h]
 rfl
set_option maxRecDepth 100000 in
set_option maxHeartbeats 4000000 in
theorem t_manyR (A : Option Addr) (n c : Nat) (l : List R) (w : World) (hl : RecsAt w A l) (hn : l.length = n) (hn2 : n ≤ maxLen) :
  Calls Tryz.prog 22 #[.slice A n c] w (ManyQ n w) := by
 have HL := zz hl
 have HN := zz hn
 unfold maxLen at hn2
 clear hl hn
 go_enter Tryz.func22, Tryz.ntmps22
 go_wp2
 go_loopw [3] (fun x wr => ∃ i : Nat, x = .int .i64 (i : Int) ∧ i ≤ n ∧ i ≤ 200 ∧ Hid (Below w.heap.size w wr)) (fun x _ => n - (intOf x).toNat)
 case atStart => exact ⟨0, rfl, Nat.zero_le _, Nat.zero_le _, Below.refl _ _⟩
 case round =>
  obtain ⟨k, rfl, hk, hk2, HW⟩ := hrel
  by_cases he : k < n ∧ k < 200
  · obtain ⟨he, he2⟩ := he
    have hx := rAt_at (l := l) (k := k) (by rw [HN.out]; exact he)
    obtain ⟨r, hr⟩ : ∃ r, r = rAt l k := ⟨_, rfl⟩
    rw [← hr] at hx
    obtain ⟨b, o, rfl, hb, hc⟩ := (HL.out.below HW.out).at_ (fun e => by rw [e] at hx; simp at hx)
    have f6 := hc k r hx
    have r0 := f6 0 _ rfl
    rw [Nat.add_zero] at r0
    have r1 := f6 1 _ rfl
    have r2 := f6 2 _ rfl
    have r3 := f6 3 _ rfl
    have r4 := f6 4 _ rfl
    have r5 := f6 5 _ rfl
    have r6 := f6 6 _ rfl
    have r7 := f6 7 _ rfl
    have r8 := f6 8 _ rfl
    have r9 := f6 9 _ rfl
    have r10 := f6 10 _ rfl
    have r11 := f6 11 _ rfl
    clear hc hx f6 hr
    go_wp2_with (go_at_call 29; (with_reducible refine (t_longR r _).mono ?_); rintro e w2 ⟨⟨bb, rfl⟩, hb⟩; have H2 := zz (ptrans HW.out hb); clear hb; cases bb)
    · go_roundw
      case rel => exact ⟨k + 1, rfl, he, he2, H2⟩
      case measure => simp only [intOf]; omega
    · go_ret
      exact ManyQ.of (fun h => by cases h) H2.out
  · by_cases hin : k < n
    · have h200 : ¬ k < 200 := fun e => he ⟨hin, e⟩
      have h80 : (80 : Int) < n := by omega
      go_wp2
      go_ret
      exact ManyQ.of (fun h => by first | cases h | (simp at h; omega)) HW.out
    · by_cases h80 : (80 : Int) < n
      · go_wp2
        go_ret
        exact ManyQ.of (fun h => by first | cases h | (simp at h; omega)) HW.out
      · go_wp2
        go_ret
        exact ManyQ.of (fun _ => by omega) HW.out
end

section
open Go.ChangeShapes Go.WideShapes Go.ChangeAt Go.RowKit
section
variable {H : Type} {enc : TypeId × Value → H} {P : Program}
theorem trodAll_below (hl : laidOutB P = true) {W W' : World} (hb : Below W.heap.size W W') :
  ∀ (ts : List TypeId) (vs : List Value) (ds : List (DataW H)) (ps : List MemPlace), (∀ t ∈ ts, P.readableRec t = true ∧ t < P.types.size) →
   DataW.TrodAll enc P W 0 (fun _ => true) true ts vs ds ps → (∀ x ∈ ps, x.block < W.heap.size) → DataW.TrodAll enc P W' 0 (fun b => decide (b < W.heap.size)) true ts vs ds ps
 | [], [], [], ps, _, h, _ => h
 | t :: ts, v :: vs, d :: ds, ps, hr, h, hlt => by
  obtain ⟨p, q, h1, h2, rfl⟩ := h
  refine ⟨p, q, ?_, ?_, rfl⟩
  · exact Below.trod hl (hr t (List.mem_cons_self ..)).1 (hr t (List.mem_cons_self ..)).2 h1 hb (fun x hx => hlt x (List.mem_append_left _ hx))
  · exact trodAll_below hl hb ts vs ds q (fun t ht => hr t (List.mem_cons_of_mem _ ht)) h2 (fun x hx => hlt x (List.mem_append_right _ hx))
 | [], [], _ :: _, _, _, h, _ => h.elim
 | [], _ :: _, _, _, _, h, _ => h.elim
 | _ :: _, [], _, _, _, h, _ => h.elim
 | _ :: _, _ :: _, [], _, _, h, _ => h.elim
theorem law_post {f : Func} {s : ChangeSpec} {tb : TypeId} {W W' : World} {args : Array Value} {ds gs : List (DataW H)} {before : List MemPlace}
  (hl : laidOutB P = true) (hr : f.params.toList.all (fun t => P.readableRec t && decide (t < P.types.size)) = true) (hv : s.vars = []) (hrt : f.resultTypes = #[tb]) (htb : P.underlying tb = some .bool)
  (hW : DataW.Whole enc P f.params.toList s.vars false W args.toList ds gs before)
  (hfn : s.fn H (ds ++ gs) = { results := [.lit (.bool true)], args := ds }) (hb : Below W.heap.size W W') :
  s.post enc P f false true false false W args (.bool true) W' := by
 have hW' := hW
 obtain ⟨p, q, hA, hV, rfl, _, _⟩ := hW
 rw [hv] at hV
 obtain ⟨rfl, rfl⟩ := trodVars_none hV
 have hlt : ∀ x ∈ p, x.block < W.heap.size := fun x hx => by simpa using hW'.lt x (List.mem_append_left _ hx)
 refine ⟨ds, [], p ++ [], [], p, [], hW', ?_, ?_, ?_, hb.frame _, fun h => by cases h⟩
 · rw [hfn, hrt]
   exact trodAll_mk1 (shut_bool htb true)
 · rw [hfn]
   exact trodAll_below hl hb _ _ _ _ (fun t ht => by have := List.all_eq_true.1 hr t ht; simpa using this) hA hlt
 · rw [hfn, hv]
   rfl
theorem structs_open {w : World} {base : Nat} {spare : Nat → Bool} {held : Bool} {t e : TypeId} {fs : Array Field} {fuel : Nat} {cs : List Value} {x : DataW H × List MemPlace}
  (ht : P.underlying t = some (.slice e)) (he : P.underlying e = some (.struct fs)) (hone : Go.Deep.oneCellFields P fs = true) (hC : P.cellsOf e = fs.size) (h : DataW.trod enc P w base spare held fuel t cs = some x) :
  cs = [.slice none 0 0] ∨ ∃ (a : Addr) (len cap : Nat), cs = [.slice (some a) len cap] ∧ len ≤ cap ∧ cap ≤ maxLen ∧
   ∀ i, i < len → ∀ (j : Nat) (f : Field), fs[j]? = some f → ∃ (v : Value) (y : DataW H × List MemPlace) (n : Nat), w.cell? (a.add (i * fs.size + j)) = some v ∧ DataW.trod enc P w base spare held n f.type [v] = some y := by
 rcases Go.Deep.open_slice ht h with h0 | ⟨a, len, cap, m, n, D, Pl, hcs, _, hl, hm, hmm, _, hi⟩
 · exact .inl h0.1
 · refine .inr ⟨a, len, cap, hcs, hl, hm, fun i hlt j f hj => ?_⟩
   obtain ⟨cs', hc, ht'⟩ := hi i (by rw [hmm]; split <;> omega)
   obtain ⟨xs, n', _, _, hlen, hxl, hf⟩ := DataW.trod_struct he ht'
   rw [hC] at hc hlen
   obtain ⟨_, _, hat⟩ := World.cells?_some hc
   obtain ⟨ho, hk⟩ := Go.Deep.hone_of hone j f hj
   have hjl : j < fs.size := (Array.getElem?_eq_some_iff.1 hj).1
   have h1 := hf j f hj
   rw [ho, hk, List.drop_eq_getElem_cons (by omega), List.take_succ_cons, List.take_zero] at h1
   refine ⟨cs'[j]'(by omega), xs[j]'(by omega), n', ?_, h1.trans (List.getElem?_eq_getElem (by omega))⟩
   have := hat j hjl
   rw [Go.Deep.add_add] at this
   rw [this]
   exact List.getElem?_eq_getElem (by omega)
end
theorem trodAll_two {H : Type} {enc : TypeId × Value → H} {P : Program} {w : World} {base : Nat} {spare : Nat → Bool} {held : Bool} {t0 t1 : TypeId} {args : Array Value} {ds : List (DataW H)} {ps : List MemPlace} (h : DataW.TrodAll enc P w base spare held [t0, t1] args.toList ds ps) :
  ∃ v0 v1 d0 d1 p0 p1, args = #[v0, v1] ∧ ds = [d0, d1] ∧ ps = p0 ++ p1 ∧ DataW.Trod enc P w base spare held t0 v0 d0 p0 ∧ DataW.Trod enc P w base spare held t1 v1 d1 p1 := by
 obtain ⟨v0, vs0, d0, ds0, p0, q0, hargs, rfl, rfl, h0, r0⟩ := trodAll_cons h
 obtain ⟨v1, vs1, d1, ds1, p1, q1, rfl, rfl, rfl, h1, r1⟩ := trodAll_cons r0
 obtain ⟨rfl, rfl, rfl⟩ := trodAll_nil r1
 exact ⟨v0, v1, d0, d1, p0, p1, by cases args; simp_all, rfl, by simp, h0, h1⟩
theorem own : ownKnob Tryz.prog.godebug = none := by kernel_rfl
theorem laidOut : laidOutB Tryz.prog = true := by kernel_rfl
theorem cellsR12 : Tryz.prog.cellsOf 50 = 12 := by kernel_rfl
theorem add_flat {b o : Nat} (i : Nat) : (⟨b, o, none⟩ : Addr).add i = ⟨b, o + i, none⟩ := by unfold Addr.add; split <;> simp_all
theorem recs_of {H : Type} {enc : TypeId × Value → H} {W : World} {sp : Nat → Bool} {held : Bool} {v : Value} {d : DataW H} {p : List MemPlace} (hv : ∃ a len cap, v = .slice a len cap) (h : DataW.Trod enc Tryz.prog W 0 sp held 22 v d p) :
  ∃ (A : Option Addr) (n c : Nat) (l : List R), v = .slice A n c ∧ n ≤ c ∧ n ≤ maxLen ∧ l.length = n ∧ RecsAt W A l := by
 obtain ⟨a0, len, cap, rfl⟩ := hv
 obtain ⟨fuel, hf⟩ := h
 rcases structs_open Tryz.underlying22 Tryz.underlying50 (by kernel_rfl) cellsR12 hf with h0 | ⟨a, len', cap', h0, hl, hm, hc⟩
 · simp [Value.cells] at h0
   obtain ⟨rfl, rfl, rfl⟩ := h0
   exact ⟨none, 0, 0, [], rfl, Nat.le_refl _, Nat.zero_le _, rfl, ⟨fun h => absurd rfl h, fun r hr => by simp at hr⟩⟩
 · simp [Value.cells] at h0
   obtain ⟨rfl, rfl, rfl⟩ := h0
   have hall : ∀ i, i < len → ∃ r : R, (∀ (j : Nat) (u : Value), (cellsR r)[j]? = some u → W.cell? (a.add (i * 12 + j)) = some u) ∧ RecOk r := by
    intro i hi
    obtain ⟨v0, y0, n0, c0, t0⟩ := hc i hi 0 _ rfl
    obtain ⟨v1, y1, n1, c1, t1⟩ := hc i hi 1 _ rfl
    obtain ⟨v2, y2, n2, c2, t2⟩ := hc i hi 2 _ rfl
    obtain ⟨v3, y3, n3, c3, t3⟩ := hc i hi 3 _ rfl
    obtain ⟨v4, y4, n4, c4, t4⟩ := hc i hi 4 _ rfl
    obtain ⟨v5, y5, n5, c5, t5⟩ := hc i hi 5 _ rfl
    obtain ⟨v6, y6, n6, c6, t6⟩ := hc i hi 6 _ rfl
    obtain ⟨v7, y7, n7, c7, t7⟩ := hc i hi 7 _ rfl
    obtain ⟨v8, y8, n8, c8, t8⟩ := hc i hi 8 _ rfl
    obtain ⟨v9, y9, n9, c9, t9⟩ := hc i hi 9 _ rfl
    obtain ⟨v10, y10, n10, c10, t10⟩ := hc i hi 10 _ rfl
    obtain ⟨v11, y11, n11, c11, t11⟩ := hc i hi 11 _ rfl
    obtain ⟨x0, e0, _, w0⟩ := DataW.trod_int Tryz.underlying48 t0
    obtain ⟨x1, e1, _, w1⟩ := DataW.trod_int Tryz.underlying5 t1
    obtain ⟨x2, e2, _, w2⟩ := DataW.trod_int Tryz.underlying37 t2
    obtain ⟨x3, e3, _, w3⟩ := DataW.trod_string Tryz.underlying9 t3
    obtain ⟨x4, e4, _, w4⟩ := DataW.trod_int Tryz.underlying37 t4
    obtain ⟨x5, e5, _, w5⟩ := DataW.trod_int Tryz.underlying5 t5
    obtain ⟨x6, e6, _, w6⟩ := DataW.trod_int Tryz.underlying37 t6
    obtain ⟨x7, e7, _, w7⟩ := DataW.trod_string Tryz.underlying9 t7
    obtain ⟨x8, e8, _, w8⟩ := DataW.trod_int Tryz.underlying37 t8
    obtain ⟨x9, e9, _, w9⟩ := DataW.trod_int Tryz.underlying37 t9
    obtain ⟨x10, e10, _, w10⟩ := DataW.trod_int Tryz.underlying3 t10
    obtain ⟨x11, e11, _, w11⟩ := DataW.trod_string Tryz.underlying9 t11
    simp only [List.cons.injEq, and_true] at e0 e1 e2 e3 e4 e5 e6 e7 e8 e9 e10 e11
    subst e0; subst e1; subst e2; subst e3; subst e4; subst e5; subst e6; subst e7; subst e8; subst e9; subst e10; subst e11
    have r0 : 0 ≤ x0 ∧ x0 ≤ 18446744073709551615 := by simpa [Lit.wf, IntKind.min, IntKind.max, IntKind.signed, IntKind.bits] using w0
    have r1 : 0 ≤ x1 ∧ x1 ≤ 255 := by simpa [Lit.wf, IntKind.min, IntKind.max, IntKind.signed, IntKind.bits] using w1
    have r2 : 0 ≤ x2 ∧ x2 ≤ 4294967295 := by simpa [Lit.wf, IntKind.min, IntKind.max, IntKind.signed, IntKind.bits] using w2
    have r4 : 0 ≤ x4 ∧ x4 ≤ 4294967295 := by simpa [Lit.wf, IntKind.min, IntKind.max, IntKind.signed, IntKind.bits] using w4
    have r5 : 0 ≤ x5 ∧ x5 ≤ 255 := by simpa [Lit.wf, IntKind.min, IntKind.max, IntKind.signed, IntKind.bits] using w5
    have r6 : 0 ≤ x6 ∧ x6 ≤ 4294967295 := by simpa [Lit.wf, IntKind.min, IntKind.max, IntKind.signed, IntKind.bits] using w6
    have r8 : 0 ≤ x8 ∧ x8 ≤ 4294967295 := by simpa [Lit.wf, IntKind.min, IntKind.max, IntKind.signed, IntKind.bits] using w8
    have r9 : 0 ≤ x9 ∧ x9 ≤ 4294967295 := by simpa [Lit.wf, IntKind.min, IntKind.max, IntKind.signed, IntKind.bits] using w9
    refine ⟨⟨x0, x1, x2, x3, x4, x5, x6, x7, x8, x9, x10, x11⟩, fun j u hu => ?_, ⟨⟨r0, r1, r2, r4, r5, r6, r8, r9⟩, w3, w7, w11⟩⟩
    have hj : j < 12 := (Array.getElem?_eq_some_iff.1 hu).1
    rcases j with _ | _ | _ | _ | _ | _ | _ | _ | _ | _ | _ | _ | j
    · obtain rfl := Option.some.inj hu; exact c0
    · obtain rfl := Option.some.inj hu; exact c1
    · obtain rfl := Option.some.inj hu; exact c2
    · obtain rfl := Option.some.inj hu; exact c3
    · obtain rfl := Option.some.inj hu; exact c4
    · obtain rfl := Option.some.inj hu; exact c5
    · obtain rfl := Option.some.inj hu; exact c6
    · obtain rfl := Option.some.inj hu; exact c7
    · obtain rfl := Option.some.inj hu; exact c8
    · obtain rfl := Option.some.inj hu; exact c9
    · obtain rfl := Option.some.inj hu; exact c10
    · obtain rfl := Option.some.inj hu; exact c11
    · omega
   let f : Nat → R := fun i => if h : i < len then Classical.choose (hall i h) else ⟨0, 0, 0, ⟨#[]⟩, 0, 0, 0, ⟨#[]⟩, 0, 0, 0, ⟨#[]⟩⟩
   have hspec : ∀ i, (h : i < len) → (∀ (j : Nat) (u : Value), (cellsR (f i))[j]? = some u → W.cell? (a.add (i * 12 + j)) = some u) ∧ RecOk (f i) := by
    intro i h
    have := Classical.choose_spec (hall i h)
    simp only [f, dif_pos h]
    exact this
   refine ⟨_, _, _, (List.range len).map f, rfl, hl, Nat.le_trans hl hm, by simp, ⟨fun hpos => ?_, fun r hr => ?_⟩⟩
   · have hlen : 0 < len := by
      rcases Nat.eq_zero_or_pos len with h | h
      · subst h
        exact absurd rfl hpos
      · exact h
     have h0 := (hspec 0 hlen).1 0 _ rfl
     obtain ⟨ab, ao, asp⟩ := a
     have hsn : asp = none := by
      cases asp with
      | none => rfl
      | some s =>
       exfalso
       simp [World.cell?, Addr.add] at h0
       split at h0 <;> cases h0
     subst hsn
     refine ⟨ab, ao, rfl, ?_, fun k r hk i u hu => ?_⟩
     · simp only [add_flat] at h0
       exact World.block_lt_of_cell? W _ h0
     · rw [List.getElem?_map] at hk
       have hkl : k < len := by
        by_cases h : k < len
        · exact h
        · rw [List.getElem?_eq_none (by simpa using h)] at hk; cases hk
       rw [List.getElem?_range hkl] at hk
       simp only [Option.map_some, Option.some.injEq] at hk
       subst hk
       have := (hspec k hkl).1 i u hu
       simp only [add_flat, ← Nat.add_assoc] at this
       exact this
   · obtain ⟨i, hi, rfl⟩ := List.mem_map.1 hr
     exact (hspec i (by simpa using hi)).2
end

section
open Go.RowKit Go.Maps
def octV (c : UInt8) : Value := .int .u8 (c.toNat : Int)
theorem octs_all (l : List UInt8) : ∀ s : ByteArray, (l.map fun c : UInt8 => (c.toNat : Int)).foldl (fun r n => r.push (UInt8.ofNat n.toNat)) s = ⟨(s.data.toList ++ l).toArray⟩ := by
 induction l with
 | nil => intro s; simp
 | cons c l ih =>
  intro s
  simp only [List.map_cons, List.foldl_cons, ih]
  congr 1
  simp [ByteArray.push]
abbrev bytesO (l : List UInt8) : Obj := .cells (l.map octV).toArray 5
def BytesAt (w : World) (B : Nat) (l : List UInt8) : Prop := w.heap[B]? = some (.cells (l.map octV).toArray 5 (0, 0))
section
variable {w : World} {B : Nat} {l : List UInt8}
theorem BytesAt.cell (h : BytesAt w B l) {k : Nat} (hk : k < l.length) : w.cell? ⟨B, k, none⟩ = some (octV l[k]) := by
 unfold BytesAt at h
 simp only [World.cell?, h]
 simp [hk]
theorem BytesAt.froz (h : BytesAt w B l) (k : Nat) : w.frozen? ⟨B, k, none⟩ = false := by
 unfold BytesAt at h
 simp [World.frozen?, h]
theorem BytesAt.set (h : BytesAt w B l) {k : Nat} (_hk : k < l.length) (c : UInt8) : BytesAt (w.setCell ⟨B, k, none⟩ (octV c)) B (l.set k c) := by
 unfold BytesAt at *
 rw [pheap_set w B k (octV c) _ _ h]
 congr 2
 simp [List.map_set]
set_option maxRecDepth 100000 in
theorem bytes_make (n : Nat) (hn : n ≤ 65536) (w : World) : (Instr.makeSlice 93 (.int .i64 (n : Int)) (.int .i64 (n : Int))).run Tryz.prog w = .ok (.slice (some ⟨w.heap.size, 0, none⟩) n n) (w.alloc (bytesO (List.replicate n 0))) := by
 obtain ⟨i, hi, hz, hs, hb⟩ : ∃ i, Tryz.prog.info? 5 = some i ∧ i.zero = some (.int .u8 0) ∧ i.size = 1 ∧ i.bytes = 1 := by
  have : (Tryz.prog.info? 5).map (fun i => (i.zero, i.size, i.bytes)) = some (some (.int .u8 0), 1, 1) := by kernel_rfl
  obtain ⟨i, hi, he⟩ := Option.map_eq_some_iff.1 this
  simp only [Prod.mk.injEq] at he
  exact ⟨i, hi, he.1, he.2.1, he.2.2⟩
 have hr := run_make (P := Tryz.prog) w 93 5 i _ Tryz.underlying93 hi hz .i64 .i64 (n : Int) (n : Int) (by omega) (by omega) (by rw [hb]; omega) (by omega)
 rw [hr, hs]
 have hl : madeCells (Value.int IntKind.u8 0).cells ((n : Int).toNat * 1) = ((List.replicate n (0 : UInt8)).map octV).toArray := by
  rw [← Array.toArray_toList (xs := madeCells _ _)]
  congr 1
  rw [List.map_replicate, Nat.mul_one]
  exact toList_madeCells_one (.int .u8 0) n
 rw [hl]
 rfl
theorem BytesAt.text (h : BytesAt w B l) (n c : Nat) (hn : l.length = n) :
  (convert 93 9 (.slice (some ⟨B, 0, none⟩) n c)).run Tryz.prog w = .ok (.string ⟨l.toArray⟩) w := by
 subst hn
 rw [run_convert_bytes_string w _ _ _ _ _ _ Tryz.underlying93 Tryz.underlying5 Tryz.underlying9]
 have hl : (loadCells ⟨B, 0, none⟩ l.length).run Tryz.prog w = .ok ((l.map fun c : UInt8 => (c.toNat : Int)).map (Value.int .u8)).toArray w := by
  have := run_loadCells_list (P := Tryz.prog) w ⟨B, 0, none⟩ (l.map octV) (fun j v hv => by
   rw [Addr.add_mid, Nat.zero_add]
   rw [List.getElem?_map] at hv
   obtain ⟨x, hx, rfl⟩ := Option.map_eq_some_iff.1 hv
   obtain ⟨h1, rfl⟩ := List.getElem?_eq_some_iff.1 hx
   exact h.cell h1)
  rw [List.length_map] at this
  rw [List.map_map]
  exact this
 rw [run_bytesToString w _ _ _ _ hl, octs_all]
 rfl
end
theorem leB_get : ∀ (n k v : Nat) (h : k < (leB v n).length), (leB v n)[k] = UInt8.ofNat (v / 256 ^ k)
 | 0, _, _, h => absurd h (by simp [leB])
 | n + 1, 0, v, _ => by simp [leB]
 | n + 1, k + 1, v, h => by
  show (leB (v / 256) n)[k]'(by simpa [leB] using h) = _
  rw [leB_get n k, Nat.pow_succ, Nat.div_div_eq_div_mul, Nat.mul_comm]
def numTo (v n k : Nat) : List UInt8 := (leB v n).take k ++ List.replicate (n - k) 0
theorem numTo_len (v n k : Nat) (hk : k ≤ n) : (numTo v n k).length = n := by
 unfold numTo
 rw [List.length_append, List.length_take, List.length_replicate, leB_len]
 omega
theorem numTo_zero (v n : Nat) : numTo v n 0 = List.replicate n 0 := by simp [numTo]
theorem numTo_all (v n : Nat) : numTo v n n = leB v n := by
 unfold numTo
 rw [Nat.sub_self, List.replicate_zero, List.append_nil, List.take_of_length_le (by rw [leB_len]; exact Nat.le_refl _)]
theorem numTo_set (v n k : Nat) (hk : k < n) : (numTo v n k).set k (UInt8.ofNat (v / 256 ^ k)) = numTo v n (k + 1) := by
 have hl : k < (leB v n).length := by rw [leB_len]; exact hk
 have hg := leB_get n k v hl
 unfold numTo
 obtain ⟨m, hm⟩ : ∃ m, n - k = m + 1 := ⟨n - k - 1, by omega⟩
 rw [hm, show n - (k + 1) = m by omega, List.replicate_succ, List.set_append_right _ _ (by rw [List.length_take]; omega), List.length_take, Nat.min_eq_left (by omega), Nat.sub_self, List.set_cons_zero, List.take_succ_eq_append_getElem hl, hg, List.append_assoc]
 rfl
theorem octV_shr (v k : Nat) : octV (UInt8.ofNat (v / 256 ^ k)) = .int .u8 ((v : Int) / 2 ^ (8 * k) % 256) := by
 have e : (256 : Nat) ^ k = 2 ^ (8 * k) := by rw [Nat.pow_mul]
 unfold octV
 rw [UInt8.toNat_ofNat', e]
 have e2 : (((v / 2 ^ (8 * k) % 2 ^ 8 : Nat)) : Int) = (v : Int) / ((2 ^ (8 * k) : Nat) : Int) % 256 := by
  rw [Int.natCast_emod, Int.natCast_ediv]; rfl
 rw [e2, Int.natCast_pow]
 rfl
set_option maxRecDepth 100000 in
set_option maxHeartbeats 2000000 in
theorem t_onum (v n : Nat) (_hv : v < 256 ^ n) (hn : n ≤ 8) (hs : (n < 8 → v / 2 ^ (8 * n) = 0)) (w : World) :
  Calls Tryz.prog 156 #[.int .u64 (v : Int), .int .i64 (n : Int)] w fun e w' => e = .returned (.tuple #[.string ⟨(leB v n).toArray⟩, .int .i64 0]) ∧ Below w.heap.size w w' := by
 have hmk := bytes_make n (by omega)
 go_enter Tryz.func156, Tryz.ntmps156
 have hx : n < 8 → ((v : Int) / 2 ^ (8 * n) != 0) = false := fun h => by
  have := hs h
  have e : ((v : Int) / 2 ^ (8 * n)) = ((v / 2 ^ (8 * n) : Nat) : Int) := by push_cast; rfl
  rw [e, this]; rfl
 have h88 : n = 8 ∨ n < 8 := by omega
 have hcase : (¬ (n : Int) < 8) ∨ ((n : Int) < 8 ∧ ((v : Int) / 2 ^ (8 * n) != 0) = false) := by
  rcases h88 with h | h
  · left; omega
  · right; exact ⟨by omega, hx h⟩
 clear hx hs h88
 rcases hcase with hc | ⟨hc, hx8⟩
 all_goals
  go_wp2
  have hb0 : BytesAt (w.alloc (bytesO (List.replicate n 0))) w.heap.size (numTo v n 0) := by rw [numTo_zero]; exact heap_alloc_new _ _
  have hB0 := (Below.refl w.heap.size w).alloc (Nat.le_refl _) (bytesO (List.replicate n 0))
  generalize w.alloc (bytesO (List.replicate n 0)) = w1 at hb0 hB0
  have HB := zz hb0
  have HB0 := zz hB0
  clear hb0 hB0
  go_loopw [28] (fun x wr => ∃ k : Nat, x = .int .i64 (k : Int) ∧ k ≤ n ∧ Hid (BytesAt wr w.heap.size (numTo v n k)) ∧ Hid (Below w.heap.size w wr)) (fun x _ => n - (intOf x).toNat)
  case atStart => exact ⟨0, rfl, Nat.zero_le _, HB, HB0⟩
  case round =>
   obtain ⟨k, rfl, hk, HR, HBL⟩ := hrel
   by_cases he : k = n
   · have htx := HR.out.text n n (numTo_len v n k hk)
     rw [he, numTo_all] at htx
     go_wp2
     go_ret2
     exact ⟨rfl, HBL.out⟩
   · have hk2 : k < n := by omega
     have hc1 := HR.out.cell (k := k) (by rw [numTo_len v n k hk]; exact hk2)
     have hf1 := HR.out.froz k
     go_wp2
     have hbs := HR.out.set (k := k) (by rw [numTo_len v n k hk]; exact hk2) (UInt8.ofNat (v / 256 ^ k))
     rw [numTo_set v n k hk2, octV_shr] at hbs
     refine ⟨⟨k + 1, rfl, hk2, zz hbs, zz (below_grown HBL.out (pgrown_set wr w.heap.size k _) (Nat.le_refl _))⟩, ?_⟩
     simp only [intOf]
     omega
set_option maxRecDepth 100000 in
theorem t_rnum (v n : Nat) (hv : v < 256 ^ n) (hn : n ≤ 8) (w : World) :
  Calls Tryz.prog 97 #[.int .u64 (v : Int), .int .i64 (n : Int)] w fun e w' => e = .returned (.string ⟨(leB v n).toArray⟩) ∧ Below w.heap.size w w' := by
 have hs : n < 8 → v / 2 ^ (8 * n) = 0 := fun _ => Nat.div_eq_of_lt (by rw [Nat.pow_mul]; exact hv)
 have HS := zz hs
 clear hs
 go_enter Tryz.func97, Tryz.ntmps97
 go_wp2_with (go_at_call 156; (with_reducible refine (t_onum v n hv hn HS.out _).mono ?_); rintro e w' ⟨rfl, hb⟩; have HB := zz hb; clear hb)
 go_ret
 exact ⟨rfl, HB.out⟩
theorem leB_one (v : Nat) : leB v 1 = [UInt8.ofNat v] := rfl
set_option maxRecDepth 100000 in
theorem t_otext (s : ByteArray) (hs : s.size ≤ 255) (w : World) :
  Calls Tryz.prog 157 #[.string s] w fun e w' => e = .returned (.tuple #[.string ⟨(leB s.size 1 ++ s.data.toList).toArray⟩, .int .i64 0]) ∧ Below w.heap.size w w' := by
 have h2 : ¬ (255 : Int) < s.size := by omega
 have htx : ∀ w : World, (convert 93 9 (.slice (some ⟨w.heap.size, 0, none⟩) 1 1)).run Tryz.prog (w.alloc (.cells #[.int .u8 (s.size : Int)] 5)) = .ok (.string ⟨(leB s.size 1).toArray⟩) (w.alloc (.cells #[.int .u8 (s.size : Int)] 5)) := fun w => by
  refine BytesAt.text (B := w.heap.size) (l := leB s.size 1) ?_ 1 1 rfl
  unfold BytesAt
  rw [heap_alloc_new, leB_one]
  have : octV (UInt8.ofNat s.size) = .int .u8 (s.size : Int) := by
   unfold octV
   rw [UInt8.toNat_ofNat', Nat.mod_eq_of_lt (by omega)]
  simp [this]
 have hq : ¬ 9223372036854775807 < (leB s.size 1).length + s.size := by rw [leB_len]; omega
 go_enter Tryz.func157, Tryz.ntmps157
 go_wp2
 go_ret2
 refine ⟨?_, (Below.refl _ _).alloc (Nat.le_refl _) _⟩
 have e : (⟨(leB s.size 1).toArray⟩ : ByteArray) ++ s = ⟨(leB s.size 1 ++ s.data.toList).toArray⟩ := by
  apply ByteArray.ext
  rw [ByteArray.data_append]
  apply Array.ext'
  simp
 rw [← e]
 rfl
set_option maxRecDepth 100000 in
theorem t_rtext (s : ByteArray) (hs : s.size ≤ 255) (w : World) :
  Calls Tryz.prog 98 #[.string s] w fun e w' => e = .returned (.string ⟨(leB s.size 1 ++ s.data.toList).toArray⟩) ∧ Below w.heap.size w w' := by
 go_enter Tryz.func98, Tryz.ntmps98
 go_wp2_with (go_at_call 157; (with_reducible refine (t_otext s hs _).mono ?_); rintro e w' ⟨rfl, hb⟩; have HB := zz hb; clear hb)
 go_ret
 exact ⟨rfl, HB.out⟩
theorem leN_snoc : ∀ (l : List UInt8) (b : UInt8), leN (l ++ [b]) = leN l + 256 ^ l.length * b.toNat
 | [], b => by simp [leN]
 | c :: l, b => by
  show c.toNat + 256 * leN (l ++ [b]) = c.toNat + 256 * leN l + 256 ^ (l.length + 1) * b.toNat
  rw [leN_snoc l b, Nat.pow_succ, Nat.mul_add, ← Nat.add_assoc]
  congr 1
  rw [← Nat.mul_assoc, Nat.mul_comm 256]
theorem get_or (s : ByteArray) (k : Nat) (hk : k < s.size) (h8 : k < 8) :
  bits BinOp.or IntKind.u64 (leN (s.data.toList.take k) : Int) (IntKind.u64.wrap (IntKind.u64.wrap (s[k].toNat : Int) * 2 ^ (8 * k))) = (leN (s.data.toList.take (k + 1)) : Int) := by
 have hl : k < s.data.toList.length := by rw [← Lib.size_eq]; exact hk
 have hb := s[k].toNat_lt
 have hg : s.data.toList[k] = s[k] := rfl
 have e1 : IntKind.u64.wrap (s[k].toNat : Int) = (s[k].toNat : Int) := by rw [IntKind.wrap_u64]; omega
 have hp : (2 : Nat) ^ (8 * k) * 256 ≤ 18446744073709551616 := by
  have : (2 : Nat) ^ (8 * k) * 256 = 2 ^ (8 * k + 8) := by rw [Nat.pow_add]
  rw [this]
  exact Nat.pow_le_pow_right (by omega) (by omega : 8 * k + 8 ≤ 64)
 have hlt : 2 ^ (8 * k) * s[k].toNat < 18446744073709551616 := Nat.lt_of_lt_of_le (Nat.mul_lt_mul_of_pos_left hb (Nat.pow_pos (by omega))) hp
 have e2 : IntKind.u64.wrap ((s[k].toNat : Int) * 2 ^ (8 * k)) = ((2 ^ (8 * k) * s[k].toNat : Nat) : Int) := by
  have : ((s[k].toNat : Int) * 2 ^ (8 * k)) = ((2 ^ (8 * k) * s[k].toNat : Nat) : Int) := by
   rw [Int.natCast_mul, Int.natCast_pow, Int.mul_comm]; rfl
  rw [this, IntKind.wrap_u64]
  omega
 have h1 := leN_lt (s.data.toList.take k)
 rw [List.length_take, Nat.min_eq_left (by omega)] at h1
 have e3 : (256 : Nat) ^ k = 2 ^ (8 * k) := by rw [Nat.pow_mul]
 rw [e3] at h1
 rw [e1, e2, bits_or_u64_nat _ _ (by omega) hlt, List.take_succ_eq_append_getElem hl, leN_snoc, List.length_take, Nat.min_eq_left (by omega), e3, hg]
 congr 1
 rw [Nat.or_comm, ← Nat.two_pow_add_eq_or_of_lt h1, Nat.add_comm]
set_option maxRecDepth 100000 in
set_option maxHeartbeats 2000000 in
theorem t_oget (s : ByteArray) (hs : s.size ≤ 8) (w : World) :
  Calls Tryz.prog 104 #[.string s] w fun e w' => e = .returned (.tuple #[.int .u64 (leN s.data.toList : Int), .int .i64 0]) ∧ Below w.heap.size w w' := by
 have h2 : ¬ (8 : Int) < s.size := by omega
 obtain ⟨n, hn⟩ : ∃ n, s.size = n := ⟨_, rfl⟩
 go_enter Tryz.func104, Tryz.ntmps104
 go_wp2
 have HN := zz hn
 clear hn
 go_loopw [2, 10] (fun v x wr => ∃ k : Nat, x = .int .i64 (k : Int) ∧ k ≤ n ∧ v = .int .u64 (leN (s.data.toList.take k) : Int) ∧ w = wr) (fun _ x _ => n - (intOf x).toNat)
 case atStart => exact ⟨0, rfl, Nat.zero_le _, by simp [leN], rfl⟩
 case round =>
  obtain ⟨k, rfl, hk, rfl, rfl⟩ := hrel
  by_cases he : k = n
  · have hf : leN (s.data.toList.take k) = leN s.data.toList := by rw [List.take_of_length_le]; rw [← Lib.size_eq, HN.out]; omega
    rw [hf]
    go_wp2
    go_ret2
    exact ⟨rfl, Below.refl _ _⟩
  · have hk2 : k < n := by omega
    have hk3 : k < s.size := by rw [HN.out]; exact hk2
    go_wp2
    refine ⟨⟨k + 1, rfl, hk2, ?_, trivial⟩, ?_⟩
    · rw [get_or s k hk3 (by omega)]
    · simp only [intOf]
      omega
theorem extract_take (s : ByteArray) (n : Nat) : s.extract 0 n = ⟨(s.data.toList.take n).toArray⟩ := by
 apply ByteArray.ext
 rw [ByteArray.data_extract]
 apply Array.ext'
 rw [Array.toList_extract]
 simp [List.extract]
theorem extract_drop (s : ByteArray) (n : Nat) : s.extract n s.size = ⟨(s.data.toList.drop n).toArray⟩ := by
 apply ByteArray.ext
 rw [ByteArray.data_extract]
 apply Array.ext'
 rw [Array.toList_extract]
 unfold List.extract
 exact List.take_of_length_le (by rw [List.length_drop, ← Lib.size_eq]; exact Nat.le_refl _)
set_option maxRecDepth 100000 in
theorem t_ocut (s : ByteArray) (n : Nat) (_hs : s.size ≤ maxLen) (_hn : n ≤ maxLen) (w : World) :
  Calls Tryz.prog 101 #[.string s, .int .i64 (n : Int)] w fun e w' => (e = if s.size < n then .returned (.tuple #[.string ⟨#[]⟩, .string ⟨#[]⟩, .int .i64 6]) else .returned (.tuple #[.string ⟨(s.data.toList.take n).toArray⟩, .string ⟨(s.data.toList.drop n).toArray⟩, .int .i64 0])) ∧ Below w.heap.size w w' := by
 have h0 : ¬ (n : Int) < 0 := by omega
 go_enter Tryz.func101, Tryz.ntmps101
 by_cases hc : s.size < n
 · have hc' : (s.size : Int) < n := by omega
   rw [if_pos hc]
   go_wp2
   go_ret3
   go_wp2
   go_ret3
   exact ⟨rfl, Below.refl _ _⟩
 · have hc' : ¬ (s.size : Int) < n := by omega
   rw [if_neg hc]
   go_wp2
   go_quiet (fail)
   have hB : Below w.heap.size w (w.drewN nq) := pbelow_drewN (Below.refl _ _) nq
   generalize w.drewN nq = w2 at hB
   have HB := zz hB
   clear hB
   go_wp2
   go_ret3
   refine ⟨?_, HB.out⟩
   rw [extract_take s n, extract_drop s n]
   rfl
end

section
open Go.Shelf Go.RowKit
def rep_ren : Go.Shelf.Ren := ⟨fun | 105 => 102 | 212 => 159 | 99 => 160 | 165 => 161 | 166 => 96 | 170 => 162 | 169 => 99 | 263 => 208 | 264 => 209 | 206 => 210 | 240 => 155 | 241 => 211 | 276 => 207 | 277 => 252 | n => n, fun | 9 => 9 | 3 => 3 | 4 => 4 | 20 => 20 | 0 => 0 | 46 => 197 | 109 => 212 | 5 => 5 | 72 => 162 | 76 => 166 | 51 => 37 | 146 => 249 | 53 => 48 | 148 => 251 | 70 => 160 | 37 => 93 | 75 => 165 | 127 => 210 | 164 => 247 | 80 => 171 | n => n, fun | n => n⟩
theorem rep : Lays.n105 Tryz.prog rep_ren := {
 mixed := by kernel_rfl
 f99 := Tryz.func160.trans (congrArg some (by kernel_rfl))
 f105 := Tryz.func102.trans (congrArg some (by kernel_rfl))
 f165 := Tryz.func161.trans (congrArg some (by kernel_rfl))
 f166 := Tryz.func96.trans (congrArg some (by kernel_rfl))
 f169 := Tryz.func99.trans (congrArg some (by kernel_rfl))
 f170 := Tryz.func162.trans (congrArg some (by kernel_rfl))
 f206 := Tryz.func210.trans (congrArg some (by kernel_rfl))
 f212 := Tryz.func159.trans (congrArg some (by kernel_rfl))
 f240 := Tryz.func155.trans (congrArg some (by kernel_rfl))
 f241 := Tryz.func211.trans (congrArg some (by kernel_rfl))
 f263 := Tryz.func208.trans (congrArg some (by kernel_rfl))
 f264 := Tryz.func209.trans (congrArg some (by kernel_rfl))
 f276 := Tryz.func207.trans (congrArg some (by kernel_rfl))
 f277 := Tryz.func252.trans (congrArg some (by kernel_rfl))
 t0 := Tryz.underlying0
 a0 := Tryz.isAgg0
 z0 := Tryz.sizeOf0
 v0 := Tryz.zeroValue0
 t3 := Tryz.underlying3
 a3 := Tryz.isAgg3
 z3 := Tryz.sizeOf3
 v3 := Tryz.zeroValue3
 t4 := Tryz.underlying4
 a4 := Tryz.isAgg4
 z4 := Tryz.sizeOf4
 v4 := Tryz.zeroValue4
 t5 := Tryz.underlying5
 a5 := Tryz.isAgg5
 z5 := Tryz.sizeOf5
 v5 := Tryz.zeroValue5
 t9 := Tryz.underlying9
 a9 := Tryz.isAgg9
 z9 := Tryz.sizeOf9
 v9 := Tryz.zeroValue9
 t20 := Tryz.underlying20
 a20 := Tryz.isAgg20
 z20 := Tryz.sizeOf20
 v20 := Tryz.zeroValue20
 t37 := Tryz.underlying93
 a37 := Tryz.isAgg93
 z37 := Tryz.sizeOf93
 v37 := Tryz.zeroValue93
 t46 := Tryz.underlying197
 a46 := Tryz.isAgg197
 z46 := Tryz.sizeOf197
 v46 := Tryz.zeroValue197
 t51 := Tryz.underlying37
 a51 := Tryz.isAgg37
 z51 := Tryz.sizeOf37
 v51 := Tryz.zeroValue37
 t53 := Tryz.underlying48
 a53 := Tryz.isAgg48
 z53 := Tryz.sizeOf48
 v53 := Tryz.zeroValue48
 t70 := Tryz.underlying160
 a70 := Tryz.isAgg160
 z70 := Tryz.sizeOf160
 v70 := Tryz.zeroValue160
 t72 := Tryz.underlying162
 a72 := Tryz.isAgg162
 z72 := Tryz.sizeOf162
 v72 := Tryz.zeroValue162
 t75 := Tryz.underlying165
 a75 := Tryz.isAgg165
 z75 := Tryz.sizeOf165
 v75 := Tryz.zeroValue165
 t76 := Tryz.underlying166
 a76 := Tryz.isAgg166
 z76 := Tryz.sizeOf166
 v76 := Tryz.zeroValue166
 t109 := Tryz.underlying212
 a109 := Tryz.isAgg212
 z109 := Tryz.sizeOf212
 v109 := Tryz.zeroValue212
 t127 := Tryz.underlying210
 a127 := Tryz.isAgg210
 z127 := Tryz.sizeOf210
 v127 := Tryz.zeroValue210
 t146 := Tryz.underlying249
 a146 := Tryz.isAgg249
 z146 := Tryz.sizeOf249
 v146 := Tryz.zeroValue249
 t148 := Tryz.underlying251
 a148 := Tryz.isAgg251
 z148 := Tryz.sizeOf251
 v148 := Tryz.zeroValue251
 t164 := Tryz.underlying247
 a164 := Tryz.isAgg247
 z164 := Tryz.sizeOf247
 v164 := Tryz.zeroValue247 }
end
end Go.Proofs.YtogljgiefmfafaaGreat
