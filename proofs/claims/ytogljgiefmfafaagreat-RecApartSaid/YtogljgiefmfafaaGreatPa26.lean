/- Two lists of entries that are the same. -/
import Derived.Test.YtogljgiefmfafaaGreatPa16
import Derived.Test.YtogljgiefmfafaaGreatPa19
import Derived.Test.YtogljgiefmfafaaGreatPa25
import Derived.Test.YtogljgiefmfafaaGreatRows
import Derived.Carry
import Derived.ProofKit
import Derived.SizedLaws
import Derived.Deep.Slices
import Derived.Deep.Fields
import Derived.ChangeMaps5
import Derived.ChangeSlices
namespace Go.Proofs.YtogljgiefmfafaaGreat
open Go.RowKit Go.Maps
section
variable {F : Nat → Prop} {P N : Nat} {y : Lay} {t : PT}
set_option maxRecDepth 100000 in
set_option maxHeartbeats 1000000 in
theorem r_same (A1 A2 : Option Addr) (c1 c2 : Nat) (L : List E) (w : World) (h1 : EntsAt w A1 L) (h2 : EntsAt w A2 L) (hn : L.length ≤ 60000) :
    Calls Tryz.prog 38 #[.slice A1 L.length c1, .slice A2 L.length c2] w fun e w' => e = .returned (.bool true) ∧ ∃ m, w' = w.drewN m := by
  obtain ⟨n, hL⟩ : ∃ n, L.length = n := ⟨_, rfl⟩
  rw [hL] at hn ⊢
  have HL := Lib.hid hL
  have H1 := Lib.hid h1
  have H2 := Lib.hid h2
  clear h1 h2 hL
  go_enter Tryz.func38, Tryz.ntmps38
  go_wp2
  go_loopw [5] (fun v wr => ∃ k : Nat, v = .int .i64 (k : Int) ∧ k ≤ n ∧ ∃ m, wr = w.drewN m) (fun v _ => n - (intOf v).toNat)
  case atStart => exact ⟨0, rfl, Nat.zero_le _, 0, rfl⟩
  case round =>
    obtain ⟨k, rfl, hk, m0, hm0⟩ := hrel
    have HB : Hid (Below w.heap.size w wr) := by rw [hm0]; exact pbelow_drewN (Below.refl _ _) m0
    have HM := Lib.hid hm0
    clear hm0
    by_cases he : k = n
    · go_wp2
      go_ret
      exact ⟨rfl, m0, HM.out⟩
    · have hk2 : k < n := by omega
      obtain ⟨b1, rfl, hl1, e1⟩ := H1.out.at_ (by rw [HL.out]; omega)
      obtain ⟨b2, rfl, hl2, e2⟩ := H2.out.at_ (by rw [HL.out]; omega)
      obtain ⟨⟨s, i⟩, hx⟩ : ∃ x, L[k]? = some x := ⟨L[k]'(by rw [HL.out]; exact hk2), List.getElem?_eq_getElem _⟩
      obtain ⟨a1, a2⟩ := e1 k _ hx
      obtain ⟨a3, a4⟩ := e2 k _ hx
      have d1 := (HB.out.cell (p := ⟨b1, _, none⟩) hl1).trans a1
      have d2 := (HB.out.cell (p := ⟨b1, _, none⟩) hl1).trans a2
      have d3 := (HB.out.cell (p := ⟨b2, _, none⟩) hl2).trans a3
      have d4 := (HB.out.cell (p := ⟨b2, _, none⟩) hl2).trans a4
      clear e1 e2 a1 a2 a3 a4 hx hl1 hl2 he
      go_wp2
      go_quiet (fail)
      generalize hw2 : wr.drewN _ = w2
      have HM2 : Hid (∃ m, w2 = w.drewN m) := ⟨_, by rw [← hw2, HM.out, World.drewN_drewN]⟩
      clear hw2
      go_wp2
      go_roundw
      case rel => exact ⟨k + 1, by go_num, by omega, HM2.out⟩
      case measure => simp [intOf]; omega
end
end Go.Proofs.YtogljgiefmfafaaGreat
namespace Go.Proofs.YtogljgiefmfafaaGreat
open Go.RowKit Go.Maps
theorem sorted_unique {α : Type} {r : α → α → Prop} (hi : ∀ a b, r a b → r b a → False) : ∀ {l m : List α}, l.Pairwise r → m.Pairwise r → (∀ x, x ∈ l ↔ x ∈ m) → l = m
  | [], [], _, _, _ => rfl
  | [], b :: m, _, _, h => absurd ((h b).2 (by simp)) (by simp)
  | a :: l, [], _, _, h => absurd ((h a).1 (by simp)) (by simp)
  | a :: l, b :: m, h1, h2, h => by
    rw [List.pairwise_cons] at h1 h2
    have e : a = b := by
      rcases List.mem_cons.1 ((h a).1 (by simp)) with e | ha
      · exact e
      · rcases List.mem_cons.1 ((h b).2 (by simp)) with e | hb
        · exact e.symm
        · exact (hi a b (h1.1 b hb) (h2.1 a ha)).elim
    subst e
    rw [sorted_unique hi h1.2 h2.2 (fun x => ?_)]
    constructor
    · intro hx
      rcases List.mem_cons.1 ((h x).1 (List.mem_cons_of_mem _ hx)) with e | h3
      · subst e
        exact (hi x x (h1.1 x hx) (h1.1 x hx)).elim
      · exact h3
    · intro hx
      rcases List.mem_cons.1 ((h x).2 (List.mem_cons_of_mem _ hx)) with e | h3
      · subst e
        exact (hi x x (h2.1 x hx) (h2.1 x hx)).elim
      · exact h3
theorem ents_unique {l : List UInt8 → Option Int} {L1 L2 : List E} (h1 : EntsOf l L1) (h2 : EntsOf l L2) : L1 = L2 := by
  have ext : ∀ a b : E, nameL a = nameL b → a.2 = b.2 → a = b := fun a b e1 e2 => by
    obtain ⟨⟨⟨a1⟩⟩, a2⟩ := a
    obtain ⟨⟨⟨b1⟩⟩, b2⟩ := b
    simp only [nameL] at e1 e2
    subst e2
    have : a1 = b1 := by simpa using e1
    subst this
    rfl
  refine sorted_unique (r := fun a b => nameL a < nameL b) (fun a b x y => List.lt_irrefl _ (List.lt_trans x y)) h1.sorted h2.sorted fun x => ?_
  constructor
  · intro hx
    obtain ⟨z, hz, e1, e2⟩ := (h2.mem (nameL x) x.2).2 ((h1.mem (nameL x) x.2).1 ⟨x, hx, rfl, rfl⟩)
    rw [← ext z x e1 e2]
    exact hz
  · intro hx
    obtain ⟨z, hz, e1, e2⟩ := (h1.mem (nameL x) x.2).2 ((h2.mem (nameL x) x.2).1 ⟨x, hx, rfl, rfl⟩)
    rw [← ext z x e1 e2]
    exact hz
theorem ints_unique {l m : List Int} (h1 : l.Pairwise (· < ·)) (h2 : m.Pairwise (· < ·)) (h : ∀ x, x ∈ l ↔ x ∈ m) : l = m :=
  sorted_unique (r := fun a b => a < b) (fun a b x y => by omega) h1 h2 h
theorem rising_len : ∀ {l : List Int} {a b : Int}, l.Pairwise (· < ·) → (∀ x ∈ l, a ≤ x ∧ x ≤ b) → (l.length : Int) ≤ max 0 (b - a + 1)
  | [], _, _, _, _ => by simp; omega
  | c :: l, a, b, h, hb => by
    rw [List.pairwise_cons] at h
    have h1 := hb c (by simp)
    have := rising_len (l := l) (a := c + 1) (b := b) h.2 (fun x hx => ⟨by have := h.1 x hx; omega, (hb x (List.mem_cons_of_mem _ hx)).2⟩)
    simp only [List.length_cons]
    omega
theorem all_len {t : PT} (h : WellP t) {l : List Int} (hs : l.Pairwise (· < ·)) (hm : ∀ i, i ∈ l ↔ (t.n i).isSome = true) : l.length ≤ 256 := by
  have := rising_len (a := 1) (b := 256) hs (fun x hx => by
    obtain ⟨z, hz⟩ := Option.isSome_iff_exists.1 ((hm x).1 hx)
    have := h.range x z hz
    have := h.room
    omega)
  omega
section
variable {F : Nat → Prop} {P N : Nat} {y : Lay} {t : PT}
theorem t_statS {i : Int} {x : PN} (w : World) (h : TreeM w F P N y t) (hx : t.n i = some x) :
    Calls Tryz.prog 19 #[.pointer (some ⟨P, 0, none⟩), .int .u32 i] w fun e w' => e = .returned (.tuple #[.agg #[.int .u32 i, .int .u8 x.kind, .int .i64 x.links, .int .u32 x.size], .int .i64 0]) ∧ Below w.heap.size w w' := by
  have hp := h.pos i x hx
  have := t_statP i w h ⟨by omega, by omega⟩
  unfold statR statP at this
  rw [hx] at this
  exact this
end
abbrev statC (i : Int) (x : PN) : Obj := .cells #[.int .u32 i, .int .u8 x.kind, .int .i64 x.links, .int .u32 x.size] 39
structure StatAt (w : World) (B : Nat) (i : Int) (x : PN) : Prop where
  c0 : w.cell? ⟨B, 0, none⟩ = some (.int .u32 i)
  c1 : w.cell? ⟨B, 1, none⟩ = some (.int .u8 x.kind)
  c2 : w.cell? ⟨B, 2, none⟩ = some (.int .i64 x.links)
  c3 : w.cell? ⟨B, 3, none⟩ = some (.int .u32 x.size)
  lt : B < w.heap.size
theorem StatAt.new (w : World) (i : Int) (x : PN) : StatAt (w.alloc (statC i x)) w.heap.size i x := by
  have e := heap_alloc_new w (statC i x)
  unfold statC at e ⊢
  refine ⟨?_, ?_, ?_, ?_, by simp⟩ <;> simp only [World.cell?, e] <;> rfl
theorem StatAt.below {w w' : World} {B : Nat} {i : Int} {x : PN} (h : StatAt w B i x) (hb : Below w.heap.size w w') : StatAt w' B i x :=
  have key : ∀ j, w'.cell? ⟨B, j, none⟩ = w.cell? ⟨B, j, none⟩ := fun j => hb.cell (p := ⟨B, j, none⟩) h.lt
  ⟨(key _).trans h.c0, (key _).trans h.c1, (key _).trans h.c2, (key _).trans h.c3, Nat.lt_of_lt_of_le h.lt hb.size⟩
section
variable {F1 F2 : Nat → Prop} {P1 P2 N : Nat} {y1 y2 : Lay} {t : PT}
set_option maxRecDepth 100000 in
set_option maxHeartbeats 8000000 in
theorem t_alike (w : World) (h1 : TreeM w F1 P1 N y1 t) (h2 : TreeM w F2 P2 N y2 t) (hW : WellP t) (hN : N ≤ 60000) :
    Calls Tryz.prog 12 #[.pointer (some ⟨P1, 0, none⟩), .pointer (some ⟨P2, 0, none⟩)] w fun e w' => e = .returned (.bool true) ∧ Below w.heap.size w w' := by
  have HT1 := Lib.hid h1
  have HT2 := Lib.hid h2
  have HW := Lib.hid hW
  have HN := Lib.hid hN
  have hne : ∃ i, (t.n i).isSome = true := by
    obtain ⟨x, hx, _⟩ := hW.root
    exact ⟨1, by rw [hx]; rfl⟩
  have HNE := Lib.hid hne
  clear h1 h2 hW hN hne
  go_enter Tryz.func12, Tryz.ntmps12
  go_wp2_with (go_at_call 36; first
    | (with_reducible refine (t_allP w HT1.out HN.out HNE.out).mono ?_
       rintro e w1 ⟨B1, c1, l1, rfl, hs1, hm1, hr1, hg1, hb1⟩
       have HS1 := Lib.hid hs1
       have HM1 := Lib.hid hm1
       have HR1 := Lib.hid hr1
       have HB1 := Lib.hid hb1
       clear hs1 hm1 hr1 hg1 hb1)
    | (with_reducible refine (t_allP w1 (HT2.out.below HB1.out) HN.out HNE.out).mono ?_
       rintro e w2 ⟨B2, c2, l2, rfl, hs2, hm2, hr2, hg2, hb2⟩
       obtain rfl := ints_unique HS1.out hs2 (fun x => (HM1.out x).trans (hm2 x).symm)
       have HR1' := Lib.hid (HR1.out.below hb2)
       have HR2 := Lib.hid hr2
       have HB2 := Lib.hid (ptrans HB1.out hb2)
       clear hs2 hm2 hr2 hg2 hb2))
  obtain ⟨n, hn⟩ : ∃ n, l1.length = n := ⟨_, rfl⟩
  have hn2 : n ≤ 256 := by rw [← hn]; exact all_len HW.out HS1.out HM1.out
  rw [hn]
  have HLN := Lib.hid hn
  have HT1' := Lib.hid (HT1.out.below HB2.out)
  have HT2' := Lib.hid (HT2.out.below HB2.out)
  clear hn HS1 HR1 HT1 HT2 HNE
  go_loopw [7] (fun v wr => ∃ k : Nat, v = .int .i64 (k : Int) ∧ k ≤ n ∧ Below w2.heap.size w2 wr) (fun v _ => n - (intOf v).toNat)
  case atStart => exact ⟨0, rfl, Nat.zero_le _, Below.refl _ _⟩
  case round =>
    obtain ⟨k, rfl, hk, hB⟩ := hrel
    have HB := Lib.hid hB
    clear hB
    by_cases he : k = n
    · go_wp2
      go_ret
      exact ⟨rfl, ptrans HB2.out HB.out⟩
    · have hk2 : k < n := by omega
      obtain ⟨i, hi⟩ : ∃ i, l1[k]? = some i := ⟨l1[k]'(by rw [HLN.out]; exact hk2), List.getElem?_eq_getElem _⟩
      obtain ⟨x, hx⟩ := Option.isSome_iff_exists.1 ((HM1.out i).1 (List.mem_of_getElem? hi))
      have HX := Lib.hid hx
      have hd : ∀ W, Below w2.heap.size w2 W → W.cell? ⟨B1, k, none⟩ = some (.int .u32 i) ∧ W.cell? ⟨B2, k, none⟩ = some (.int .u32 i) := fun W hW => ⟨(hW.cell (p := ⟨B1, _, none⟩) HR1'.out.lt).trans (HR1'.out.cell k i hi), (hW.cell (p := ⟨B2, _, none⟩) HR2.out.lt).trans (HR2.out.cell k i hi)⟩
      have HD := Lib.hid hd
      obtain ⟨d1, d2⟩ := hd wr HB.out
      have hpos := HT1'.out.pos i x hx
      have HU : Hid (U32 i) := ⟨by omega, by omega⟩
      clear hi hx he hd hpos
      go_wp2_with (first
        | (go_at_call 19; first
          | (with_reducible refine (t_statS wr (HT1'.out.below HB.out) HX.out).mono ?_
             rintro e w3 ⟨rfl, hb3⟩
             have hb3' : Below w2.heap.size w2 (w3.alloc (statC i x)) := ptrans (ptrans HB.out hb3) (u_alloc1 w3 _)
             have HB3 := Lib.hid hb3'
             have HS3 := Lib.hid (StatAt.new w3 i x)
             obtain ⟨d3, d4⟩ := HD.out _ hb3'
             unfold statC at d3 d4
             clear hb3 hb3' d1 d2)
          | (with_reducible refine (t_statS (w3.alloc (statC i x)) (HT2'.out.below HB3.out) HX.out).mono ?_
             rintro e w4 ⟨rfl, hb4⟩
             have hb4' : Below w2.heap.size w2 (w4.alloc (statC i x)) := ptrans (ptrans HB3.out hb4) (u_alloc1 w4 _)
             have HB4 := Lib.hid hb4'
             have HS4 := Lib.hid (StatAt.new w4 i x)
             have HS3' := Lib.hid (HS3.out.below (ptrans hb4 (u_alloc1 w4 (statC i x))))
             obtain ⟨d5, d6⟩ := HD.out _ hb4'
             unfold statC at d5 d6
             clear hb4 hb4' d3 d4))
        | (go_at_call 37; first
          | (with_reducible refine (t_listP i (w4.alloc (statC i x)) (HT1'.out.below HB4.out) HU.out HN.out).mono ?_
             rintro e w5 ⟨A1, k1, L1, rfl, hL1, hn1, hE1, hb5, _⟩
             have HL1 := Lib.hid hL1
             have HN1 := Lib.hid hn1
             have HE1 := Lib.hid hE1
             have hb5' := ptrans HB4.out hb5
             have HB5 := Lib.hid hb5'
             have HS5 := Lib.hid (HS3'.out.below hb5)
             have HS6 := Lib.hid (HS4.out.below hb5)
             obtain ⟨d7, d8⟩ := HD.out _ hb5'
             clear hL1 hn1 hE1 hb5 hb5' d5 d6)
          | (with_reducible refine (t_listP i w5 (HT2'.out.below HB5.out) HU.out HN.out).mono ?_
             rintro e w6 ⟨A2, k2, L2, rfl, hL2, hn2, hE2, hb6, _⟩
             obtain rfl := ents_unique HL1.out hL2
             have HE2 := Lib.hid hE2
             have HE1' := Lib.hid (HE1.out.below hb6)
             have hb6' := ptrans HB5.out hb6
             have HB6 := Lib.hid hb6'
             have HS7 := Lib.hid (HS5.out.below hb6)
             have HS8 := Lib.hid (HS6.out.below hb6)
             obtain ⟨d9, d10⟩ := HD.out _ hb6'
             clear hL2 hn2 hE2 hb6 hb6' d7 d8 HS3 HS4 HS3' HS5 HS6 HB3 HB4 HB5 HE1)))
      obtain ⟨e0, e1, e2, e3, _⟩ := HS7.out
      obtain ⟨f0, f1, f2, f3, _⟩ := HS8.out
      have HT6 := Lib.hid (HT1'.out.below HB6.out)
      have HT6' := Lib.hid (HT2'.out.below HB6.out)
      go_quiet (first
        | (go_at_call 38; refine Calls.quiet_of (r_same A1 A2 k1 k2 L1 _ (HE1'.out.below (pbelow_drewN (Below.refl _ _) _)) (HE2.out.below (pbelow_drewN (Below.refl _ _) _)) HN1.out))
        | (go_at_call 39; first
          | exact quiet_eq (t_heldP i _ (HT6.out.below (pbelow_drewN (Below.refl _ _) _)) HU.out)
          | exact quiet_eq (t_heldP i _ (HT6'.out.below (pbelow_drewN (Below.refl _ _) _)) HU.out)))
      generalize hw7 : w6.drewN nq = w7
      have hB7 : Below w2.heap.size w2 w7 := by rw [← hw7]; exact pbelow_drewN HB6.out _
      have hS7 : StatAt w7 w3.heap.size i x := by rw [← hw7]; exact HS7.out.below (pbelow_drewN (Below.refl _ _) _)
      have HB7 := Lib.hid hB7
      have HS9 := Lib.hid hS7
      have hok := HW.out.pages i x HX.out
      have hsx := hok.size
      have HOK := Lib.hid (fun z (hz : t.n i = some z) => HW.out.pages i z hz)
      clear hw7 hB7 hS7 HS7 HS8 e0 e1 e2 e3 f0 f1 f2 f3 HT6 HT6' HE1' HE2 HB6 HN1 HL1 d9 d10 hok
      go_wp2
      go_loopw [16] (fun v W => ∃ m : Nat, v = .int .i64 (m : Int) ∧ m ≤ 36 ∧ Below w7.heap.size w7 W) (fun v _ => 37 - (intOf v).toNat)
      case atStart => exact ⟨0, rfl, Nat.zero_le _, Below.refl _ _⟩
      case round =>
        obtain ⟨m, rfl, hm, hBm⟩ := hrel
        have HBM := Lib.hid (ptrans HB7.out hBm)
        have HBM7 := Lib.hid hBm
        obtain ⟨_, _, _, e3, _⟩ := HS9.out.below hBm
        clear hBm
        have hw32 : IntKind.u32.wrap ((m : Int) * 64) = (m : Int) * 64 := IntWalk.u32_in _ (by omega)
        by_cases hlt : (m : Int) * 64 < x.size
        · obtain ⟨d1, d2⟩ := HD.out _ HBM.out
          have hw64 : IntKind.i64.wrap ((m : Int) * 64) = (m : Int) * 64 := IntWalk.i64_in _ (by omega)
          have hm36 : m < 36 := by omega
          go_wp2_with (go_at_call 20; first
            | (with_reducible refine (t_readP i (m : Int) wr (HT1'.out.below HBM.out) HU.out HOK.out).mono ?_
               rintro e w8 ⟨rfl, hb8⟩
               have hb8' := ptrans HBM.out hb8
               have HB8 := Lib.hid hb8'
               have HB8' := Lib.hid hb8
               obtain ⟨d3, d4⟩ := HD.out _ hb8'
               clear hb8 hb8' d1 d2)
            | (with_reducible refine (t_readP i (m : Int) w8 (HT2'.out.below HB8.out) HU.out HOK.out).mono ?_
               rintro e w9 ⟨rfl, hb9⟩
               have HB9 := Lib.hid (ptrans HB8'.out hb9)
               clear hb9 d3 d4))
          go_roundw
          case rel => exact ⟨m + 1, by go_num, by omega, ptrans HBM7.out HB9.out⟩
          case measure => simp [intOf]; omega
        · go_wp2
          go_roundw
          case rel => exact ⟨k + 1, by go_num, by omega, HBM.out⟩
          case measure => simp [intOf]; omega
end
end Go.Proofs.YtogljgiefmfafaaGreat

namespace Go.Proofs.YtogljgiefmfafaaGreat
open Go.RowKit Go.Maps
def RecOk (r : R) : Prop := r.Ok ∧ r.name.size ≤ maxLen ∧ r.name2.size ≤ maxLen ∧ r.data.size ≤ maxLen
/-- A row of records. -/
structure RecsAt (w : World) (A : Option Addr) (l : List R) : Prop where
  at_ : l ≠ [] → ∃ b o, A = some ⟨b, o, none⟩ ∧ b < w.heap.size ∧ ∀ (k : Nat) (r : R), l[k]? = some r → ∀ (i : Nat) (v : Value), (cellsR r)[i]? = some v → w.cell? ⟨b, o + k * 12 + i, none⟩ = some v
  ok : ∀ r ∈ l, RecOk r
theorem RecsAt.below {w w' : World} {A : Option Addr} {l : List R} (h : RecsAt w A l) (hb : Below w.heap.size w w') : RecsAt w' A l :=
  ⟨fun hn => by
    obtain ⟨b, o, h1, h2, h3⟩ := h.at_ hn
    exact ⟨b, o, h1, Nat.lt_of_lt_of_le h2 hb.size, fun k r hk i v hv => (World.cell?_of_block (a := ⟨b, _, none⟩) (hb.block b h2)).trans (h3 k r hk i v hv)⟩, h.ok⟩
/-- The places of a row that are met by another one. -/
def rAt (l : List R) (k : Nat) : R := l.getD k ⟨0, 0, 0, ⟨#[]⟩, 0, 0, 0, ⟨#[]⟩, 0, 0, 0, ⟨#[]⟩⟩
end Go.Proofs.YtogljgiefmfafaaGreat

namespace Go.Proofs.YtogljgiefmfafaaGreat
open Go.RowKit Go.Maps
theorem below_own {B : Nat} {w w' : World} (hb : Below w.heap.size w w') (hs : B ≤ w.heap.size) : Below B w w' := ⟨hb.os, hb.tape, hb.output, hb.size, fun b h => hb.block b (Nat.lt_of_lt_of_le h hs)⟩
/-- A tree of the call's own. -/
def Own (B : Nat) (w1 : World) (P N : Nat) (t : PT) (w : World) : Prop := ∃ y F, TreeM w F P N y t ∧ WellP t ∧ (∀ b, F b → B ≤ b) ∧ B ≤ w.heap.size ∧ Below B w1 w
/-- Two of them, apart. -/
def Pair (B : Nat) (w1 : World) (P P2 N : Nat) (t t2 : PT) (w : World) : Prop := ∃ y F y2 F2, TreeM w F P N y t ∧ TreeM w F2 P2 N y2 t2 ∧ WellP t ∧ WellP t2 ∧ (∀ b, F b → B ≤ b) ∧ (∀ b, F2 b → B ≤ b) ∧ (∀ b, F b → ¬ F2 b) ∧ B ≤ w.heap.size ∧ Below B w1 w
section
variable {B P P2 N : Nat} {K : Int} {w1 w w' : World} {t t2 : PT}
theorem heldK_newT (n : Int) : HeldK 0 (newT n) := by
  intro i x hx
  unfold newT PT.set at hx
  simp only at hx
  split at hx
  · cases hx; exact Int.le_refl _
  · cases hx
theorem own_new (n : Int) (w : World) (h1 : 2 ≤ n) (h2 : n ≤ 256) : Calls Tryz.prog 16 #[.int .i64 n] w fun e w' => ∃ P, e = .returned (.tuple #[.pointer (some ⟨P, 0, none⟩), .int .i64 0]) ∧ Own w.heap.size w P 1 (newT n) w' :=
  (t_new n w h1 h2).mono fun _e _w' ⟨P, y, F, he, hT, hb, hF⟩ => ⟨P, he, y, F, hT, WellP.new n h1 h2, hF, hb.size, hb⟩
theorem Own.below (h : Own B w1 P N t w) (hb : Below w.heap.size w w') : Own B w1 P N t w' := by
  obtain ⟨y, F, hT, hW, hF, hs, hB⟩ := h
  exact ⟨y, F, hT.below hb, hW, hF, Nat.le_trans hs hb.size, hB.trans (below_own hb hs)⟩
theorem Own.mem (h : Own B w1 P N t w) : Below B w1 w := by
  obtain ⟨y, F, _, _, _, _, hB⟩ := h
  exact hB
theorem Own.well (h : Own B w1 P N t w) : WellP t := by
  obtain ⟨y, F, _, hW, _⟩ := h
  exact hW
theorem own_rec (r : R) (hr : r.Texts) (a : Int) (t' : PT) (he : playA t r = (a, t')) (h : Own B w1 P N t w) (hK : HeldK 999999999 t) (hN : N < 800000) :
    Calls Tryz.prog 27 #[.pointer (some ⟨P, 0, none⟩), r.val] w fun e w' => e = .returned (.int .i64 a) ∧ Own B w1 P (N + 2) t' w' := by
  obtain ⟨y, F, hT, hW, hF, hs, hB⟩ := h
  refine (t_playA r hr a t' he w hT hW hK hN).mono fun e w' ⟨he2, y', F', hT', hU⟩ => ⟨he2, y', F', hT', ?_, fun b hb => ?_, Nat.le_trans hs hU.size, hB.trans (hU.below hF hs)⟩
  · have := hW.playA_ hr.ok
    rw [he] at this
    exact this
  · rcases hU.foot b hb with h1 | h1
    · exact hF b h1
    · exact Nat.le_trans hs h1
theorem own_copy (h : Own B w1 P N t w) (hN : N ≤ 60000) : Calls Tryz.prog 31 #[.pointer (some ⟨P, 0, none⟩)] w fun e w' => ∃ P2, e = .returned (.pointer (some ⟨P2, 0, none⟩)) ∧ Pair B w1 P P2 N t t w' := by
  obtain ⟨y, F, hT, hW, hF, hs, hB⟩ := h
  refine (t_copyP w hT hN).mono fun _ _ ⟨P2, y2, F2, he, hT2, hF2, hb⟩ => ?_
  refine ⟨P2, he, y, F, y2, F2, hT.below hb, hT2, hW, hW, hF, fun b h2 => Nat.le_trans hs (hF2 b h2), fun b h1 h2 => ?_, Nat.le_trans hs hb.size, hB.trans (below_own hb hs)⟩
  have := hT.lt b h1
  have := hF2 b h2
  omega
theorem Pair.below (h : Pair B w1 P P2 N t t2 w) (hb : Below w.heap.size w w') : Pair B w1 P P2 N t t2 w' := by
  obtain ⟨y, F, y2, F2, hT, hT2, hW, hW2, hF, hF2, hd, hs, hB⟩ := h
  exact ⟨y, F, y2, F2, hT.below hb, hT2.below hb, hW, hW2, hF, hF2, hd, Nat.le_trans hs hb.size, hB.trans (below_own hb hs)⟩
theorem Pair.swap (h : Pair B w1 P P2 N t t2 w) : Pair B w1 P2 P N t2 t w := by
  obtain ⟨y, F, y2, F2, hT, hT2, hW, hW2, hF, hF2, hd, hs, hB⟩ := h
  exact ⟨y2, F2, y, F, hT2, hT, hW2, hW, hF2, hF, fun b h2 h1 => hd b h1 h2, hs, hB⟩
theorem Pair.mem (h : Pair B w1 P P2 N t t2 w) : Below B w1 w := by
  obtain ⟨y, F, y2, F2, _, _, _, _, _, _, _, _, hB⟩ := h
  exact hB
theorem pair_rec (r : R) (hr : r.Texts) (a : Int) (t' : PT) (he : playA t r = (a, t')) (h : Pair B w1 P P2 N t t2 w) (hK : HeldK 999999999 t) (hN : N < 800000) :
    Calls Tryz.prog 27 #[.pointer (some ⟨P, 0, none⟩), r.val] w fun e w' => e = .returned (.int .i64 a) ∧ Pair B w1 P P2 (N + 2) t' t2 w' := by
  obtain ⟨y, F, y2, F2, hT, hT2, hW, hW2, hF, hF2, hd, hs, hB⟩ := h
  refine (t_playA r hr a t' he w hT hW hK hN).mono fun e w' ⟨he2, y', F', hT', hU⟩ => ⟨he2, ?_⟩
  have hW' : WellP t' := by
    have := hW.playA_ hr.ok
    rw [he] at this
    exact this
  refine ⟨y', F', y2, F2, hT', (hT2.same (fun b hb2 => hU.block b (hT2.lt b hb2) (fun h1 => hd b h1 hb2)) hU.size).mono (by omega), hW', hW2, fun b hb2 => ?_, hF2, fun b h1 hb2 => ?_, Nat.le_trans hs hU.size, hB.trans (hU.below hF hs)⟩
  · rcases hU.foot b hb2 with h1 | h1
    · exact hF b h1
    · exact Nat.le_trans hs h1
  · rcases hU.foot b h1 with h3 | h3
    · exact hd b h3 hb2
    · have := hT2.lt b hb2
      omega
theorem pair_alike (h : Pair B w1 P P2 N t t w) (hN : N ≤ 60000) :
    Calls Tryz.prog 12 #[.pointer (some ⟨P, 0, none⟩), .pointer (some ⟨P2, 0, none⟩)] w fun e w' => e = .returned (.bool true) ∧ Pair B w1 P P2 N t t w' := by
  have h' := h
  obtain ⟨y, F, y2, F2, hT, hT2, hW, _⟩ := h
  exact (t_alike w hT hT2 hW hN).mono fun e w' ⟨he, hb⟩ => ⟨he, h'.below hb⟩
end
theorem RecOk.texts {r : R} (h : RecOk r) : r.Texts := ⟨h.1, h.2.1, h.2.2.1, h.2.2.2⟩
def ManyQ (n : Nat) (w : World) (e : Ending) (w' : World) : Prop := ∃ b : Bool, e = .returned (.bool b) ∧ (b = false → n ≤ 80) ∧ Below w.heap.size w w'
theorem ManyQ.get {n : Nat} {w w' : World} {e : Ending} (h : ManyQ n w e w') : ∃ b : Bool, e = .returned (.bool b) ∧ (b = false → n ≤ 80) ∧ Below w.heap.size w w' := h
theorem ManyQ.of {n : Nat} {w w' : World} {b : Bool} (h : b = false → n ≤ 80) (hb : Below w.heap.size w w') : ManyQ n w (.returned (.bool b)) w' := ⟨b, rfl, h, hb⟩
set_option maxRecDepth 100000 in
theorem t_longR (r : R) (w : World) : Calls Tryz.prog 29 #[.agg #[.int .u64 r.stamp, .int .u8 r.act, .int .u32 r.dir, .string r.name, .int .u32 r.ino, .int .u8 r.kind, .int .u32 r.dir2, .string r.name2, .int .u32 r.old, .int .u32 r.size, .int .i64 r.page, .string r.data]] w fun e w' => (∃ b : Bool, e = .returned (.bool b)) ∧ Below w.heap.size w w' := by
  go_enter Tryz.func29, Tryz.ntmps29
  go_wp2
  go_ret
  exact ⟨⟨_, rfl⟩, below_a1' w _⟩
theorem rAt_at {l : List R} {k : Nat} (h : k < l.length) : l[k]? = some (rAt l k) := by
  unfold rAt
  rw [List.getD_eq_getElem?_getD, List.getElem?_eq_getElem h]
  rfl
set_option maxRecDepth 100000 in
set_option maxHeartbeats 4000000 in
theorem t_manyR (A : Option Addr) (n c : Nat) (l : List R) (w : World) (hl : RecsAt w A l) (hn : l.length = n) (hn2 : n ≤ maxLen) :
    Calls Tryz.prog 22 #[.slice A n c] w (ManyQ n w) := by
  have HL := Lib.hid hl
  have HN := Lib.hid hn
  unfold maxLen at hn2
  clear hl hn
  go_enter Tryz.func22, Tryz.ntmps22
  go_wp2
  go_loopw [3] (fun x wr => ∃ i : Nat, x = .int .i64 (i : Int) ∧ i ≤ n ∧ i ≤ 200 ∧ Hid (Below w.heap.size w wr)) (fun x _ => n - (intOf x).toNat)
  case atStart => exact ⟨0, rfl, Nat.zero_le _, Nat.zero_le _, Below.refl _ _⟩
  case round =>
    obtain ⟨k, rfl, hk, hk2, HW⟩ := hrel
    by_cases he : k < n ∧ k < 200
    · obtain ⟨he, he2⟩ := he
      have hx := rAt_at (l := l) (k := k) (by rw [HN.out]; exact he)
      obtain ⟨r, hr⟩ : ∃ r, r = rAt l k := ⟨_, rfl⟩
      rw [← hr] at hx
      obtain ⟨b, o, rfl, hb, hc⟩ := (HL.out.below HW.out).at_ (fun e => by rw [e] at hx; simp at hx)
      have f6 := hc k r hx
      have r0 := f6 0 _ rfl
      rw [Nat.add_zero] at r0
      have r1 := f6 1 _ rfl
      have r2 := f6 2 _ rfl
      have r3 := f6 3 _ rfl
      have r4 := f6 4 _ rfl
      have r5 := f6 5 _ rfl
      have r6 := f6 6 _ rfl
      have r7 := f6 7 _ rfl
      have r8 := f6 8 _ rfl
      have r9 := f6 9 _ rfl
      have r10 := f6 10 _ rfl
      have r11 := f6 11 _ rfl
      clear hc hx f6 hr
      go_wp2_with (go_at_call 29; (with_reducible refine (t_longR r _).mono ?_); rintro e w2 ⟨⟨bb, rfl⟩, hb⟩; have H2 := Lib.hid (ptrans HW.out hb); clear hb; cases bb)
      · go_roundw
        case rel => exact ⟨k + 1, rfl, he, he2, H2⟩
        case measure => simp only [intOf]; omega
      · go_ret
        exact ManyQ.of (fun h => by cases h) H2.out
    · by_cases hin : k < n
      · have h200 : ¬ k < 200 := fun e => he ⟨hin, e⟩
        have h80 : (80 : Int) < n := by omega
        go_wp2
        go_ret
        exact ManyQ.of (fun h => by first | cases h | (simp at h; omega)) HW.out
      · by_cases h80 : (80 : Int) < n
        · go_wp2
          go_ret
          exact ManyQ.of (fun h => by first | cases h | (simp at h; omega)) HW.out
        · go_wp2
          go_ret
          exact ManyQ.of (fun _ => by omega) HW.out
end Go.Proofs.YtogljgiefmfafaaGreat

namespace Go.Proofs.YtogljgiefmfafaaGreat
open Go.ChangeShapes Go.WideShapes Go.ChangeAt Go.RowKit
section
variable {H : Type} {enc : TypeId × Value → H} {P : Program}
/-- All arguments read as they did. -/
theorem trodAll_below (hl : laidOutB P = true) {W W' : World} (hb : Below W.heap.size W W') :
    ∀ (ts : List TypeId) (vs : List Value) (ds : List (DataW H)) (ps : List MemPlace), (∀ t ∈ ts, P.readableRec t = true ∧ t < P.types.size) →
      DataW.TrodAll enc P W 0 (fun _ => true) true ts vs ds ps → (∀ x ∈ ps, x.block < W.heap.size) → DataW.TrodAll enc P W' 0 (fun b => decide (b < W.heap.size)) true ts vs ds ps
  | [], [], [], ps, _, h, _ => h
  | t :: ts, v :: vs, d :: ds, ps, hr, h, hlt => by
    obtain ⟨p, q, h1, h2, rfl⟩ := h
    refine ⟨p, q, ?_, ?_, rfl⟩
    · exact Below.trod hl (hr t (List.mem_cons_self ..)).1 (hr t (List.mem_cons_self ..)).2 h1 hb (fun x hx => hlt x (List.mem_append_left _ hx))
    · exact trodAll_below hl hb ts vs ds q (fun t ht => hr t (List.mem_cons_of_mem _ ht)) h2 (fun x hx => hlt x (List.mem_append_right _ hx))
  | [], [], _ :: _, _, _, h, _ => h.elim
  | [], _ :: _, _, _, _, h, _ => h.elim
  | _ :: _, [], _, _, _, h, _ => h.elim
  | _ :: _, _ :: _, [], _, _, h, _ => h.elim
theorem law_post {f : Func} {s : ChangeSpec} {tb : TypeId} {W W' : World} {args : Array Value} {ds gs : List (DataW H)} {before : List MemPlace}
    (hl : laidOutB P = true) (hr : f.params.toList.all (fun t => P.readableRec t && decide (t < P.types.size)) = true) (hv : s.vars = []) (hrt : f.resultTypes = #[tb]) (htb : P.underlying tb = some .bool)
    (hW : DataW.Whole enc P f.params.toList s.vars false W args.toList ds gs before)
    (hfn : s.fn H (ds ++ gs) = { results := [.lit (.bool true)], args := ds }) (hb : Below W.heap.size W W') :
    s.post enc P f false true false false W args (.bool true) W' := by
  have hW' := hW
  obtain ⟨p, q, hA, hV, rfl, _, _⟩ := hW
  rw [hv] at hV
  obtain ⟨rfl, rfl⟩ := trodVars_none hV
  have hlt : ∀ x ∈ p, x.block < W.heap.size := fun x hx => by simpa using hW'.lt x (List.mem_append_left _ hx)
  refine ⟨ds, [], p ++ [], [], p, [], hW', ?_, ?_, ?_, hb.frame _, fun h => by cases h⟩
  · rw [hfn, hrt]
    exact trodAll_mk1 (shut_bool htb true)
  · rw [hfn]
    exact trodAll_below hl hb _ _ _ _ (fun t ht => by have := List.all_eq_true.1 hr t ht; simpa using this) hA hlt
  · rw [hfn, hv]
    rfl
/-- A slice of structs whose fields are a cell each: every field's cell, and that it reads as the field's type. -/
theorem structs_open {w : World} {base : Nat} {spare : Nat → Bool} {held : Bool} {t e : TypeId} {fs : Array Field} {fuel : Nat} {cs : List Value} {x : DataW H × List MemPlace}
    (ht : P.underlying t = some (.slice e)) (he : P.underlying e = some (.struct fs)) (hone : Go.Deep.oneCellFields P fs = true) (hC : P.cellsOf e = fs.size) (h : DataW.trod enc P w base spare held fuel t cs = some x) :
    cs = [.slice none 0 0] ∨ ∃ (a : Addr) (len cap : Nat), cs = [.slice (some a) len cap] ∧ len ≤ cap ∧ cap ≤ maxLen ∧
      ∀ i, i < len → ∀ (j : Nat) (f : Field), fs[j]? = some f → ∃ (v : Value) (y : DataW H × List MemPlace) (n : Nat), w.cell? (a.add (i * fs.size + j)) = some v ∧ DataW.trod enc P w base spare held n f.type [v] = some y := by
  rcases Go.Deep.open_slice ht h with h0 | ⟨a, len, cap, m, n, D, Pl, hcs, _, hl, hm, hmm, _, hi⟩
  · exact .inl h0.1
  · refine .inr ⟨a, len, cap, hcs, hl, hm, fun i hlt j f hj => ?_⟩
    obtain ⟨cs', hc, ht'⟩ := hi i (by rw [hmm]; split <;> omega)
    obtain ⟨xs, n', _, _, hlen, hxl, hf⟩ := DataW.trod_struct he ht'
    rw [hC] at hc hlen
    obtain ⟨_, _, hat⟩ := World.cells?_some hc
    obtain ⟨ho, hk⟩ := Go.Deep.hone_of hone j f hj
    have hjl : j < fs.size := (Array.getElem?_eq_some_iff.1 hj).1
    have h1 := hf j f hj
    rw [ho, hk, List.drop_eq_getElem_cons (by omega), List.take_succ_cons, List.take_zero] at h1
    refine ⟨cs'[j]'(by omega), xs[j]'(by omega), n', ?_, h1.trans (List.getElem?_eq_getElem (by omega))⟩
    have := hat j hjl
    rw [Go.Deep.add_add] at this
    rw [this]
    exact List.getElem?_eq_getElem (by omega)
end
theorem own : ownKnob Tryz.prog.godebug = none := by kernel_rfl
theorem laidOut : laidOutB Tryz.prog = true := by kernel_rfl
theorem cellsR12 : Tryz.prog.cellsOf 50 = 12 := by kernel_rfl
theorem cells_u32 : Tryz.prog.cellsOf 37 = 1 := by kernel_rfl
theorem cells_int : Tryz.prog.cellsOf 3 = 1 := by kernel_rfl
theorem add_flat {b o : Nat} (i : Nat) : (⟨b, o, none⟩ : Addr).add i = ⟨b, o + i, none⟩ := by unfold Addr.add; split <;> simp_all
theorem recs_of {H : Type} {enc : TypeId × Value → H} {W : World} {sp : Nat → Bool} {held : Bool} {v : Value} {d : DataW H} {p : List MemPlace} (hv : ∃ a len cap, v = .slice a len cap) (h : DataW.Trod enc Tryz.prog W 0 sp held 22 v d p) :
    ∃ (A : Option Addr) (n c : Nat) (l : List R), v = .slice A n c ∧ n ≤ c ∧ n ≤ maxLen ∧ l.length = n ∧ RecsAt W A l := by
  obtain ⟨a0, len, cap, rfl⟩ := hv
  obtain ⟨fuel, hf⟩ := h
  rcases structs_open Tryz.underlying22 Tryz.underlying50 (by kernel_rfl) cellsR12 hf with h0 | ⟨a, len', cap', h0, hl, hm, hc⟩
  · simp [Value.cells] at h0
    obtain ⟨rfl, rfl, rfl⟩ := h0
    exact ⟨none, 0, 0, [], rfl, Nat.le_refl _, Nat.zero_le _, rfl, ⟨fun h => absurd rfl h, fun r hr => by simp at hr⟩⟩
  · simp [Value.cells] at h0
    obtain ⟨rfl, rfl, rfl⟩ := h0
    have hall : ∀ i, i < len → ∃ r : R, (∀ (j : Nat) (u : Value), (cellsR r)[j]? = some u → W.cell? (a.add (i * 12 + j)) = some u) ∧ RecOk r := by
      intro i hi
      obtain ⟨v0, y0, n0, c0, t0⟩ := hc i hi 0 _ rfl
      obtain ⟨v1, y1, n1, c1, t1⟩ := hc i hi 1 _ rfl
      obtain ⟨v2, y2, n2, c2, t2⟩ := hc i hi 2 _ rfl
      obtain ⟨v3, y3, n3, c3, t3⟩ := hc i hi 3 _ rfl
      obtain ⟨v4, y4, n4, c4, t4⟩ := hc i hi 4 _ rfl
      obtain ⟨v5, y5, n5, c5, t5⟩ := hc i hi 5 _ rfl
      obtain ⟨v6, y6, n6, c6, t6⟩ := hc i hi 6 _ rfl
      obtain ⟨v7, y7, n7, c7, t7⟩ := hc i hi 7 _ rfl
      obtain ⟨v8, y8, n8, c8, t8⟩ := hc i hi 8 _ rfl
      obtain ⟨v9, y9, n9, c9, t9⟩ := hc i hi 9 _ rfl
      obtain ⟨v10, y10, n10, c10, t10⟩ := hc i hi 10 _ rfl
      obtain ⟨v11, y11, n11, c11, t11⟩ := hc i hi 11 _ rfl
      obtain ⟨x0, e0, _, w0⟩ := DataW.trod_int Tryz.underlying48 t0
      obtain ⟨x1, e1, _, w1⟩ := DataW.trod_int Tryz.underlying5 t1
      obtain ⟨x2, e2, _, w2⟩ := DataW.trod_int Tryz.underlying37 t2
      obtain ⟨x3, e3, _, w3⟩ := DataW.trod_string Tryz.underlying9 t3
      obtain ⟨x4, e4, _, w4⟩ := DataW.trod_int Tryz.underlying37 t4
      obtain ⟨x5, e5, _, w5⟩ := DataW.trod_int Tryz.underlying5 t5
      obtain ⟨x6, e6, _, w6⟩ := DataW.trod_int Tryz.underlying37 t6
      obtain ⟨x7, e7, _, w7⟩ := DataW.trod_string Tryz.underlying9 t7
      obtain ⟨x8, e8, _, w8⟩ := DataW.trod_int Tryz.underlying37 t8
      obtain ⟨x9, e9, _, w9⟩ := DataW.trod_int Tryz.underlying37 t9
      obtain ⟨x10, e10, _, w10⟩ := DataW.trod_int Tryz.underlying3 t10
      obtain ⟨x11, e11, _, w11⟩ := DataW.trod_string Tryz.underlying9 t11
      simp only [List.cons.injEq, and_true] at e0 e1 e2 e3 e4 e5 e6 e7 e8 e9 e10 e11
      subst e0; subst e1; subst e2; subst e3; subst e4; subst e5; subst e6; subst e7; subst e8; subst e9; subst e10; subst e11
      have r0 : 0 ≤ x0 ∧ x0 ≤ 18446744073709551615 := by simpa [Lit.wf, IntKind.min, IntKind.max, IntKind.signed, IntKind.bits] using w0
      have r1 : 0 ≤ x1 ∧ x1 ≤ 255 := by simpa [Lit.wf, IntKind.min, IntKind.max, IntKind.signed, IntKind.bits] using w1
      have r2 : 0 ≤ x2 ∧ x2 ≤ 4294967295 := by simpa [Lit.wf, IntKind.min, IntKind.max, IntKind.signed, IntKind.bits] using w2
      have r4 : 0 ≤ x4 ∧ x4 ≤ 4294967295 := by simpa [Lit.wf, IntKind.min, IntKind.max, IntKind.signed, IntKind.bits] using w4
      have r5 : 0 ≤ x5 ∧ x5 ≤ 255 := by simpa [Lit.wf, IntKind.min, IntKind.max, IntKind.signed, IntKind.bits] using w5
      have r6 : 0 ≤ x6 ∧ x6 ≤ 4294967295 := by simpa [Lit.wf, IntKind.min, IntKind.max, IntKind.signed, IntKind.bits] using w6
      have r8 : 0 ≤ x8 ∧ x8 ≤ 4294967295 := by simpa [Lit.wf, IntKind.min, IntKind.max, IntKind.signed, IntKind.bits] using w8
      have r9 : 0 ≤ x9 ∧ x9 ≤ 4294967295 := by simpa [Lit.wf, IntKind.min, IntKind.max, IntKind.signed, IntKind.bits] using w9
      refine ⟨⟨x0, x1, x2, x3, x4, x5, x6, x7, x8, x9, x10, x11⟩, fun j u hu => ?_, ⟨⟨r0, r1, r2, r4, r5, r6, r8, r9⟩, w3, w7, w11⟩⟩
      have hj : j < 12 := (Array.getElem?_eq_some_iff.1 hu).1
      rcases j with _ | _ | _ | _ | _ | _ | _ | _ | _ | _ | _ | _ | j
      · obtain rfl := Option.some.inj hu; exact c0
      · obtain rfl := Option.some.inj hu; exact c1
      · obtain rfl := Option.some.inj hu; exact c2
      · obtain rfl := Option.some.inj hu; exact c3
      · obtain rfl := Option.some.inj hu; exact c4
      · obtain rfl := Option.some.inj hu; exact c5
      · obtain rfl := Option.some.inj hu; exact c6
      · obtain rfl := Option.some.inj hu; exact c7
      · obtain rfl := Option.some.inj hu; exact c8
      · obtain rfl := Option.some.inj hu; exact c9
      · obtain rfl := Option.some.inj hu; exact c10
      · obtain rfl := Option.some.inj hu; exact c11
      · omega
    let f : Nat → R := fun i => if h : i < len then Classical.choose (hall i h) else ⟨0, 0, 0, ⟨#[]⟩, 0, 0, 0, ⟨#[]⟩, 0, 0, 0, ⟨#[]⟩⟩
    have hspec : ∀ i, (h : i < len) → (∀ (j : Nat) (u : Value), (cellsR (f i))[j]? = some u → W.cell? (a.add (i * 12 + j)) = some u) ∧ RecOk (f i) := by
      intro i h
      have := Classical.choose_spec (hall i h)
      simp only [f, dif_pos h]
      exact this
    refine ⟨_, _, _, (List.range len).map f, rfl, hl, Nat.le_trans hl hm, by simp, ⟨fun hpos => ?_, fun r hr => ?_⟩⟩
    · have hlen : 0 < len := by
        rcases Nat.eq_zero_or_pos len with h | h
        · subst h
          exact absurd rfl hpos
        · exact h
      have h0 := (hspec 0 hlen).1 0 _ rfl
      obtain ⟨ab, ao, asp⟩ := a
      have hsn : asp = none := by
        cases asp with
        | none => rfl
        | some s =>
          exfalso
          simp [World.cell?, Addr.add] at h0
          split at h0 <;> cases h0
      subst hsn
      refine ⟨ab, ao, rfl, ?_, fun k r hk i u hu => ?_⟩
      · simp only [add_flat] at h0
        exact World.block_lt_of_cell? W _ h0
      · rw [List.getElem?_map] at hk
        have hkl : k < len := by
          by_cases h : k < len
          · exact h
          · rw [List.getElem?_eq_none (by simpa using h)] at hk; cases hk
        rw [List.getElem?_range hkl] at hk
        simp only [Option.map_some, Option.some.injEq] at hk
        subst hk
        have := (hspec k hkl).1 i u hu
        simp only [add_flat, ← Nat.add_assoc] at this
        exact this
    · obtain ⟨i, hi, rfl⟩ := List.mem_map.1 hr
      exact (hspec i (by simpa using hi)).2
theorem twelve {α : Type} {cs : Array α} (h : cs.size = 12) : ∃ c0 c1 c2 c3 c4 c5 c6 c7 c8 c9 cA cB, cs = #[c0, c1, c2, c3, c4, c5, c6, c7, c8, c9, cA, cB] := by
  obtain ⟨l⟩ := cs
  have h : l.length = 12 := h
  obtain ⟨c0, l0, rfl⟩ : ∃ x t, l = x :: t := List.exists_cons_of_length_eq_add_one (n := 11) h
  have h0 : l0.length = 11 := by simpa using h
  obtain ⟨c1, l1, rfl⟩ : ∃ x t, l0 = x :: t := List.exists_cons_of_length_eq_add_one (n := 10) h0
  have h1 : l1.length = 10 := by simpa using h0
  obtain ⟨c2, l2, rfl⟩ : ∃ x t, l1 = x :: t := List.exists_cons_of_length_eq_add_one (n := 9) h1
  have h2 : l2.length = 9 := by simpa using h1
  obtain ⟨c3, l3, rfl⟩ : ∃ x t, l2 = x :: t := List.exists_cons_of_length_eq_add_one (n := 8) h2
  have h3 : l3.length = 8 := by simpa using h2
  obtain ⟨c4, l4, rfl⟩ : ∃ x t, l3 = x :: t := List.exists_cons_of_length_eq_add_one (n := 7) h3
  have h4 : l4.length = 7 := by simpa using h3
  obtain ⟨c5, l5, rfl⟩ : ∃ x t, l4 = x :: t := List.exists_cons_of_length_eq_add_one (n := 6) h4
  have h5 : l5.length = 6 := by simpa using h4
  obtain ⟨c6, l6, rfl⟩ : ∃ x t, l5 = x :: t := List.exists_cons_of_length_eq_add_one (n := 5) h5
  have h6 : l6.length = 5 := by simpa using h5
  obtain ⟨c7, l7, rfl⟩ : ∃ x t, l6 = x :: t := List.exists_cons_of_length_eq_add_one (n := 4) h6
  have h7 : l7.length = 4 := by simpa using h6
  obtain ⟨c8, l8, rfl⟩ : ∃ x t, l7 = x :: t := List.exists_cons_of_length_eq_add_one (n := 3) h7
  have h8 : l8.length = 3 := by simpa using h7
  obtain ⟨c9, l9, rfl⟩ : ∃ x t, l8 = x :: t := List.exists_cons_of_length_eq_add_one (n := 2) h8
  have h9 : l9.length = 2 := by simpa using h8
  obtain ⟨cA, l10, rfl⟩ : ∃ x t, l9 = x :: t := List.exists_cons_of_length_eq_add_one (n := 1) h9
  have h10 : l10.length = 1 := by simpa using h9
  obtain ⟨cB, l11, rfl⟩ : ∃ x t, l10 = x :: t := List.exists_cons_of_length_eq_add_one (n := 0) h10
  have h11 : l11.length = 0 := by simpa using h10
  have e : l11 = [] := List.eq_nil_of_length_eq_zero h11
  subst e
  exact ⟨c0, c1, c2, c3, c4, c5, c6, c7, c8, c9, cA, cB, rfl⟩
theorem cells_u64 : Tryz.prog.cellsOf 48 = 1 := by kernel_rfl
theorem cells_u8 : Tryz.prog.cellsOf 5 = 1 := by kernel_rfl
theorem cells_s : Tryz.prog.cellsOf 9 = 1 := by kernel_rfl
theorem at_cell {H : Type} {enc : TypeId × Value → H} {w : World} {base n q : Nat} {spare : Nat → Bool} {held : Bool} {T : TypeId} {xs : List (DataW H × List MemPlace)} {cs : List Value} (hc : Tryz.prog.cellsOf T = 1)
    (h : DataW.trod enc Tryz.prog w base spare held n T ((cs.drop q).take (Tryz.prog.cellsOf T)) = xs[q]?) (c : Value) (hq : cs[q]? = some c) (hx : q < xs.length) : ∃ y, DataW.trod enc Tryz.prog w base spare held n T [c] = some y := by
  obtain ⟨h1, rfl⟩ := List.getElem?_eq_some_iff.1 hq
  rw [hc, List.drop_eq_getElem_cons h1, List.take_succ_cons, List.take_zero, List.getElem?_eq_getElem hx] at h
  exact ⟨_, h⟩
set_option maxRecDepth 100000 in
theorem rec_open {H : Type} {enc : TypeId × Value → H} {w W : World} {base b0 : Nat} {spare : Nat → Bool} {held : Bool} {rr : Reach} {v : Value} {d : DataW H} {p : List MemPlace} (hv : Value.okWide Tryz.prog W rr b0 50 v) (h : DataW.Trod enc Tryz.prog w base spare held 50 v d p) :
    ∃ r : R, v = r.val ∧ r.Ok ∧ r.name.size ≤ maxLen ∧ r.name2.size ≤ maxLen ∧ r.data.size ≤ maxLen := by
  obtain ⟨cs, rfl, hsz⟩ := okWide_struct Tryz.underlying50 hv
  obtain ⟨c0, c1, c2, c3, c4, c5, c6, c7, c8, c9, cA, cB, rfl⟩ := twelve (hsz.trans cellsR12)
  obtain ⟨fuel, hf⟩ := h
  obtain ⟨xs, n, _, _, hl, hlen, hk⟩ := DataW.trod_struct Tryz.underlying50 hf
  obtain ⟨y0, t0⟩ := at_cell (cs := [c0, c1, c2, c3, c4, c5, c6, c7, c8, c9, cA, cB]) cells_u64 (hk 0 _ rfl) c0 rfl (by rw [hlen]; decide)
  obtain ⟨y1, t1⟩ := at_cell (cs := [c0, c1, c2, c3, c4, c5, c6, c7, c8, c9, cA, cB]) cells_u8 (hk 1 _ rfl) c1 rfl (by rw [hlen]; decide)
  obtain ⟨y2, t2⟩ := at_cell (cs := [c0, c1, c2, c3, c4, c5, c6, c7, c8, c9, cA, cB]) cells_u32 (hk 2 _ rfl) c2 rfl (by rw [hlen]; decide)
  obtain ⟨y3, t3⟩ := at_cell (cs := [c0, c1, c2, c3, c4, c5, c6, c7, c8, c9, cA, cB]) cells_s (hk 3 _ rfl) c3 rfl (by rw [hlen]; decide)
  obtain ⟨y4, t4⟩ := at_cell (cs := [c0, c1, c2, c3, c4, c5, c6, c7, c8, c9, cA, cB]) cells_u32 (hk 4 _ rfl) c4 rfl (by rw [hlen]; decide)
  obtain ⟨y5, t5⟩ := at_cell (cs := [c0, c1, c2, c3, c4, c5, c6, c7, c8, c9, cA, cB]) cells_u8 (hk 5 _ rfl) c5 rfl (by rw [hlen]; decide)
  obtain ⟨y6, t6⟩ := at_cell (cs := [c0, c1, c2, c3, c4, c5, c6, c7, c8, c9, cA, cB]) cells_u32 (hk 6 _ rfl) c6 rfl (by rw [hlen]; decide)
  obtain ⟨y7, t7⟩ := at_cell (cs := [c0, c1, c2, c3, c4, c5, c6, c7, c8, c9, cA, cB]) cells_s (hk 7 _ rfl) c7 rfl (by rw [hlen]; decide)
  obtain ⟨y8, t8⟩ := at_cell (cs := [c0, c1, c2, c3, c4, c5, c6, c7, c8, c9, cA, cB]) cells_u32 (hk 8 _ rfl) c8 rfl (by rw [hlen]; decide)
  obtain ⟨y9, t9⟩ := at_cell (cs := [c0, c1, c2, c3, c4, c5, c6, c7, c8, c9, cA, cB]) cells_u32 (hk 9 _ rfl) c9 rfl (by rw [hlen]; decide)
  obtain ⟨yA, tA⟩ := at_cell (cs := [c0, c1, c2, c3, c4, c5, c6, c7, c8, c9, cA, cB]) cells_int (hk 10 _ rfl) cA rfl (by rw [hlen]; decide)
  obtain ⟨yB, tB⟩ := at_cell (cs := [c0, c1, c2, c3, c4, c5, c6, c7, c8, c9, cA, cB]) cells_s (hk 11 _ rfl) cB rfl (by rw [hlen]; decide)
  obtain ⟨x0, e0, _, w0⟩ := DataW.trod_int Tryz.underlying48 t0
  obtain ⟨x1, e1, _, w1⟩ := DataW.trod_int Tryz.underlying5 t1
  obtain ⟨x2, e2, _, w2⟩ := DataW.trod_int Tryz.underlying37 t2
  obtain ⟨x3, e3, _, w3⟩ := DataW.trod_string Tryz.underlying9 t3
  obtain ⟨x4, e4, _, w4⟩ := DataW.trod_int Tryz.underlying37 t4
  obtain ⟨x5, e5, _, w5⟩ := DataW.trod_int Tryz.underlying5 t5
  obtain ⟨x6, e6, _, w6⟩ := DataW.trod_int Tryz.underlying37 t6
  obtain ⟨x7, e7, _, w7⟩ := DataW.trod_string Tryz.underlying9 t7
  obtain ⟨x8, e8, _, w8⟩ := DataW.trod_int Tryz.underlying37 t8
  obtain ⟨x9, e9, _, w9⟩ := DataW.trod_int Tryz.underlying37 t9
  obtain ⟨xA, eA, _, wA⟩ := DataW.trod_int Tryz.underlying3 tA
  obtain ⟨xB, eB, _, wB⟩ := DataW.trod_string Tryz.underlying9 tB
  simp only [List.cons.injEq, and_true] at e0 e1 e2 e3 e4 e5 e6 e7 e8 e9 eA eB
  subst e0
  subst e1
  subst e2
  subst e3
  subst e4
  subst e5
  subst e6
  subst e7
  subst e8
  subst e9
  subst eA
  subst eB
  have r0 : 0 ≤ x0 ∧ x0 ≤ 18446744073709551615 := by simpa [Lit.wf, IntKind.min, IntKind.max, IntKind.signed, IntKind.bits] using w0
  have r1 : 0 ≤ x1 ∧ x1 ≤ 255 := by simpa [Lit.wf, IntKind.min, IntKind.max, IntKind.signed, IntKind.bits] using w1
  have r2 : 0 ≤ x2 ∧ x2 ≤ 4294967295 := by simpa [Lit.wf, IntKind.min, IntKind.max, IntKind.signed, IntKind.bits] using w2
  have r4 : 0 ≤ x4 ∧ x4 ≤ 4294967295 := by simpa [Lit.wf, IntKind.min, IntKind.max, IntKind.signed, IntKind.bits] using w4
  have r5 : 0 ≤ x5 ∧ x5 ≤ 255 := by simpa [Lit.wf, IntKind.min, IntKind.max, IntKind.signed, IntKind.bits] using w5
  have r6 : 0 ≤ x6 ∧ x6 ≤ 4294967295 := by simpa [Lit.wf, IntKind.min, IntKind.max, IntKind.signed, IntKind.bits] using w6
  have r8 : 0 ≤ x8 ∧ x8 ≤ 4294967295 := by simpa [Lit.wf, IntKind.min, IntKind.max, IntKind.signed, IntKind.bits] using w8
  have r9 : 0 ≤ x9 ∧ x9 ≤ 4294967295 := by simpa [Lit.wf, IntKind.min, IntKind.max, IntKind.signed, IntKind.bits] using w9
  exact ⟨⟨x0, x1, x2, x3, x4, x5, x6, x7, x8, x9, xA, xB⟩, rfl, ⟨r0, r1, r2, r4, r5, r6, r8, r9⟩, w3, w7, wB⟩
theorem trodAll_four {H : Type} {enc : TypeId × Value → H} {P : Program} {w : World} {base : Nat} {spare : Nat → Bool} {held : Bool} {t0 t1 t2 t3 : TypeId} {args : Array Value} {ds : List (DataW H)} {ps : List MemPlace} (h : DataW.TrodAll enc P w base spare held [t0, t1, t2, t3] args.toList ds ps) :
    ∃ v0 v1 v2 v3 d0 d1 d2 d3 p0 p1 p2 p3, args = #[v0, v1, v2, v3] ∧ ds = [d0, d1, d2, d3] ∧ ps = p0 ++ (p1 ++ (p2 ++ p3)) ∧ DataW.Trod enc P w base spare held t0 v0 d0 p0 ∧ DataW.Trod enc P w base spare held t1 v1 d1 p1 ∧ DataW.Trod enc P w base spare held t2 v2 d2 p2 ∧ DataW.Trod enc P w base spare held t3 v3 d3 p3 := by
  obtain ⟨v0, vs0, d0, ds0, p0, q0, hargs, rfl, rfl, h0, r0⟩ := trodAll_cons h
  obtain ⟨v1, vs1, d1, ds1, p1, q1, rfl, rfl, rfl, h1, r1⟩ := trodAll_cons r0
  obtain ⟨v2, vs2, d2, ds2, p2, q2, rfl, rfl, rfl, h2, r2⟩ := trodAll_cons r1
  obtain ⟨v3, vs3, d3, ds3, p3, q3, rfl, rfl, rfl, h3, r3⟩ := trodAll_cons r2
  obtain ⟨rfl, rfl, rfl⟩ := trodAll_nil r3
  exact ⟨v0, v1, v2, v3, d0, d1, d2, d3, p0, p1, p2, p3, by cases args; simp_all, rfl, by simp, h0, h1, h2, h3⟩
end Go.Proofs.YtogljgiefmfafaaGreat
