/- Two lists of entries that are the same. -/
import Derived.Test.YtpcnolkdnmolgaaGreatDoorPf13
import Derived.Test.YtpcnolkdnmolgaaGreatDoorPf15
import Derived.Carry
import Derived.ProofKit
import Derived.SizedLaws
import Derived.Deep.Slices
import Derived.Deep.Fields
import Derived.ChangeMaps5
namespace Go.Proofs.YtpcnolkdnmolgaaGreatDoor
section
open Go.RowKit Go.Maps
section
variable {F : Nat → Prop} {P N : Nat} {y : Lay} {t : PT}
set_option maxRecDepth 100000 in
set_option maxHeartbeats 1000000 in
theorem r_same (A1 A2 : Option Addr) (c1 c2 : Nat) (L : List E) (w : World) (h1 : EntsAt w A1 L) (h2 : EntsAt w A2 L) (hn : L.length ≤ 60000) :
  Calls Tryz.prog 52 #[.slice A1 L.length c1, .slice A2 L.length c2] w fun e w' => e = .returned (.bool true) ∧ ∃ m, w' = w.drewN m := by
 obtain ⟨n, hL⟩ : ∃ n, L.length = n := ⟨_, rfl⟩
 rw [hL] at hn ⊢
 have HL := zz hL
 have H1 := zz h1
 have H2 := zz h2
 clear h1 h2 hL
 go_enter Tryz.func52, Tryz.ntmps52
 go_wp2
 go_loopw [5] (fun v wr => ∃ k : Nat, v = .int .i64 (k : Int) ∧ k ≤ n ∧ ∃ m, wr = w.drewN m) (fun v _ => n - (intOf v).toNat)
 case atStart => exact ⟨0, rfl, Nat.zero_le _, 0, rfl⟩
 case round =>
  obtain ⟨k, rfl, hk, m0, hm0⟩ := hrel
  have HB : Hid (Below w.heap.size w wr) := by rw [hm0]; exact pbelow_drewN (Below.refl _ _) m0
  have HM := zz hm0
  clear hm0
  by_cases he : k = n
  · go_wp2
    go_ret
    exact ⟨rfl, m0, HM.out⟩
  · have hk2 : k < n := by omega
    obtain ⟨b1, rfl, hl1, e1⟩ := H1.out.at_ (by rw [HL.out]; omega)
    obtain ⟨b2, rfl, hl2, e2⟩ := H2.out.at_ (by rw [HL.out]; omega)
    obtain ⟨⟨s, i⟩, hx⟩ : ∃ x, L[k]? = some x := ⟨L[k]'(by rw [HL.out]; exact hk2), List.getElem?_eq_getElem _⟩
    obtain ⟨a1, a2⟩ := e1 k _ hx
    obtain ⟨a3, a4⟩ := e2 k _ hx
    have d1 := (HB.out.cell (p := ⟨b1, _, none⟩) hl1).trans a1
    have d2 := (HB.out.cell (p := ⟨b1, _, none⟩) hl1).trans a2
    have d3 := (HB.out.cell (p := ⟨b2, _, none⟩) hl2).trans a3
    have d4 := (HB.out.cell (p := ⟨b2, _, none⟩) hl2).trans a4
    clear e1 e2 a1 a2 a3 a4 hx hl1 hl2 he
    go_wp2
    go_quiet (fail)
    generalize hw2 : wr.drewN _ = w2
    have HM2 : Hid (∃ m, w2 = w.drewN m) := ⟨_, by rw [← hw2, HM.out, World.drewN_drewN]⟩
    clear hw2
    go_wp2
    go_roundw
    case rel => exact ⟨k + 1, by go_num, by omega, HM2.out⟩
    case measure => simp [intOf]; omega
end
end
section
open Go.RowKit Go.Maps
theorem sorted_unique {α : Type} {r : α → α → Prop} (hi : ∀ a b, r a b → r b a → False) : ∀ {l m : List α}, l.Pairwise r → m.Pairwise r → (∀ x, x ∈ l ↔ x ∈ m) → l = m
 | [], [], _, _, _ => rfl
 | [], b :: m, _, _, h => absurd ((h b).2 (by simp)) (by simp)
 | a :: l, [], _, _, h => absurd ((h a).1 (by simp)) (by simp)
 | a :: l, b :: m, h1, h2, h => by
  rw [List.pairwise_cons] at h1 h2
  have e : a = b := by
   rcases List.mem_cons.1 ((h a).1 (by simp)) with e | ha
   · exact e
   · rcases List.mem_cons.1 ((h b).2 (by simp)) with e | hb
     · exact e.symm
     · exact (hi a b (h1.1 b hb) (h2.1 a ha)).elim
  subst e
  rw [sorted_unique hi h1.2 h2.2 (fun x => ?_)]
  constructor
  · intro hx
    rcases List.mem_cons.1 ((h x).1 (List.mem_cons_of_mem _ hx)) with e | h3
    · subst e
      exact (hi x x (h1.1 x hx) (h1.1 x hx)).elim
    · exact h3
  · intro hx
    rcases List.mem_cons.1 ((h x).2 (List.mem_cons_of_mem _ hx)) with e | h3
    · subst e
      exact (hi x x (h2.1 x hx) (h2.1 x hx)).elim
    · exact h3
theorem ents_unique {l : List UInt8 → Option Int} {L1 L2 : List E} (h1 : EntsOf l L1) (h2 : EntsOf l L2) : L1 = L2 := by
 have ext : ∀ a b : E, nameL a = nameL b → a.2 = b.2 → a = b := fun a b e1 e2 => by
  obtain ⟨⟨⟨a1⟩⟩, a2⟩ := a
  obtain ⟨⟨⟨b1⟩⟩, b2⟩ := b
  simp only [nameL] at e1 e2
  subst e2
  have : a1 = b1 := by simpa using e1
  subst this
  rfl
 refine sorted_unique (r := fun a b => nameL a < nameL b) (fun a b x y => List.lt_irrefl _ (List.lt_trans x y)) h1.sorted h2.sorted fun x => ?_
 constructor
 · intro hx
   obtain ⟨z, hz, e1, e2⟩ := (h2.mem (nameL x) x.2).2 ((h1.mem (nameL x) x.2).1 ⟨x, hx, rfl, rfl⟩)
   rw [← ext z x e1 e2]
   exact hz
 · intro hx
   obtain ⟨z, hz, e1, e2⟩ := (h1.mem (nameL x) x.2).2 ((h2.mem (nameL x) x.2).1 ⟨x, hx, rfl, rfl⟩)
   rw [← ext z x e1 e2]
   exact hz
theorem ints_unique {l m : List Int} (h1 : l.Pairwise (· < ·)) (h2 : m.Pairwise (· < ·)) (h : ∀ x, x ∈ l ↔ x ∈ m) : l = m :=
 sorted_unique (r := fun a b => a < b) (fun a b x y => by omega) h1 h2 h
theorem rising_len : ∀ {l : List Int} {a b : Int}, l.Pairwise (· < ·) → (∀ x ∈ l, a ≤ x ∧ x ≤ b) → (l.length : Int) ≤ max 0 (b - a + 1)
 | [], _, _, _, _ => by simp; omega
 | c :: l, a, b, h, hb => by
  rw [List.pairwise_cons] at h
  have h1 := hb c (by simp)
  have := rising_len (l := l) (a := c + 1) (b := b) h.2 (fun x hx => ⟨by have := h.1 x hx; omega, (hb x (List.mem_cons_of_mem _ hx)).2⟩)
  simp only [List.length_cons]
  omega
theorem all_len {t : PT} (h : WellP t) {l : List Int} (hs : l.Pairwise (· < ·)) (hm : ∀ i, i ∈ l ↔ (t.n i).isSome = true) : l.length ≤ 256 := by
 have := rising_len (a := 1) (b := 256) hs (fun x hx => by
  obtain ⟨z, hz⟩ := Option.isSome_iff_exists.1 ((hm x).1 hx)
  have := h.range x z hz
  have := h.room
  omega)
 omega
section
variable {F : Nat → Prop} {P N : Nat} {y : Lay} {t : PT}
theorem t_statS {i : Int} {x : PN} (w : World) (h : TreeM w F P N y t) (hx : t.n i = some x) :
  Calls Tryz.prog 48 #[.pointer (some ⟨P, 0, none⟩), .int .u32 i] w fun e w' => e = .returned (.tuple #[.agg #[.int .u32 i, .int .u8 x.kind, .int .i64 x.links, .int .u32 x.size], .int .i64 0]) ∧ Below w.heap.size w w' := by
 have hp := h.pos i x hx
 have := t_statP i w h ⟨by omega, by omega⟩
 unfold statR statP at this
 rw [hx] at this
 exact this
end
abbrev statC (i : Int) (x : PN) : Obj := .cells #[.int .u32 i, .int .u8 x.kind, .int .i64 x.links, .int .u32 x.size] 36
structure StatAt (w : World) (B : Nat) (i : Int) (x : PN) : Prop where
 c0 : w.cell? ⟨B, 0, none⟩ = some (.int .u32 i)
 c1 : w.cell? ⟨B, 1, none⟩ = some (.int .u8 x.kind)
 c2 : w.cell? ⟨B, 2, none⟩ = some (.int .i64 x.links)
 c3 : w.cell? ⟨B, 3, none⟩ = some (.int .u32 x.size)
 lt : B < w.heap.size
theorem StatAt.new (w : World) (i : Int) (x : PN) : StatAt (w.alloc (statC i x)) w.heap.size i x := by
 have e := heap_alloc_new w (statC i x)
 unfold statC at e ⊢
 refine ⟨?_, ?_, ?_, ?_, by simp⟩ <;> simp only [World.cell?, e] <;> rfl
theorem StatAt.below {w w' : World} {B : Nat} {i : Int} {x : PN} (h : StatAt w B i x) (hb : Below w.heap.size w w') : StatAt w' B i x :=
 have key : ∀ j, w'.cell? ⟨B, j, none⟩ = w.cell? ⟨B, j, none⟩ := fun j => hb.cell (p := ⟨B, j, none⟩) h.lt
 ⟨(key _).trans h.c0, (key _).trans h.c1, (key _).trans h.c2, (key _).trans h.c3, Nat.lt_of_lt_of_le h.lt hb.size⟩
section
variable {F1 F2 : Nat → Prop} {P1 P2 N : Nat} {y1 y2 : Lay} {t : PT}
set_option maxRecDepth 100000 in
set_option maxHeartbeats 8000000 in
theorem t_alike (w : World) (h1 : TreeM w F1 P1 N y1 t) (h2 : TreeM w F2 P2 N y2 t) (hW : WellP t) (hN : N ≤ 60000) :
  Calls Tryz.prog 18 #[.pointer (some ⟨P1, 0, none⟩), .pointer (some ⟨P2, 0, none⟩)] w fun e w' => e = .returned (.bool true) ∧ Below w.heap.size w w' := by
 have HT1 := zz h1
 have HT2 := zz h2
 have HW := zz hW
 have HN := zz hN
 have hne : ∃ i, (t.n i).isSome = true := by
  obtain ⟨x, hx, _⟩ := hW.root
  exact ⟨1, by rw [hx]; rfl⟩
 have HNE := zz hne
 clear h1 h2 hW hN hne
 go_enter Tryz.func18, Tryz.ntmps18
 go_wp2_with (go_at_call 16; first
  | (with_reducible refine (t_allP w HT1.out HN.out HNE.out).mono ?_
     rintro e w1 ⟨B1, c1, l1, rfl, hs1, hm1, hr1, hg1, hb1⟩
     have HS1 := zz hs1
     have HM1 := zz hm1
     have HR1 := zz hr1
     have HB1 := zz hb1
     clear hs1 hm1 hr1 hg1 hb1)
  | (with_reducible refine (t_allP w1 (HT2.out.below HB1.out) HN.out HNE.out).mono ?_
     rintro e w2 ⟨B2, c2, l2, rfl, hs2, hm2, hr2, hg2, hb2⟩
     obtain rfl := ints_unique HS1.out hs2 (fun x => (HM1.out x).trans (hm2 x).symm)
     have HR1' := zz (HR1.out.below hb2)
     have HR2 := zz hr2
     have HB2 := zz (ptrans HB1.out hb2)
     clear hs2 hm2 hr2 hg2 hb2))
 obtain ⟨n, hn⟩ : ∃ n, l1.length = n := ⟨_, rfl⟩
 have hn2 : n ≤ 256 := by rw [← hn]; exact all_len HW.out HS1.out HM1.out
 rw [hn]
 have HLN := zz hn
 have HT1' := zz (HT1.out.below HB2.out)
 have HT2' := zz (HT2.out.below HB2.out)
 clear hn HS1 HR1 HT1 HT2 HNE
 go_loopw [7] (fun v wr => ∃ k : Nat, v = .int .i64 (k : Int) ∧ k ≤ n ∧ Below w2.heap.size w2 wr) (fun v _ => n - (intOf v).toNat)
 case atStart => exact ⟨0, rfl, Nat.zero_le _, Below.refl _ _⟩
 case round =>
  obtain ⟨k, rfl, hk, hB⟩ := hrel
  have HB := zz hB
  clear hB
  by_cases he : k = n
  · go_wp2
    go_ret
    exact ⟨rfl, ptrans HB2.out HB.out⟩
  · have hk2 : k < n := by omega
    obtain ⟨i, hi⟩ : ∃ i, l1[k]? = some i := ⟨l1[k]'(by rw [HLN.out]; exact hk2), List.getElem?_eq_getElem _⟩
    obtain ⟨x, hx⟩ := Option.isSome_iff_exists.1 ((HM1.out i).1 (List.mem_of_getElem? hi))
    have HX := zz hx
    have hd : ∀ W, Below w2.heap.size w2 W → W.cell? ⟨B1, k, none⟩ = some (.int .u32 i) ∧ W.cell? ⟨B2, k, none⟩ = some (.int .u32 i) := fun W hW => ⟨(hW.cell (p := ⟨B1, _, none⟩) HR1'.out.lt).trans (HR1'.out.cell k i hi), (hW.cell (p := ⟨B2, _, none⟩) HR2.out.lt).trans (HR2.out.cell k i hi)⟩
    have HD := zz hd
    obtain ⟨d1, d2⟩ := hd wr HB.out
    have hpos := HT1'.out.pos i x hx
    have HU : Hid (U32 i) := ⟨by omega, by omega⟩
    clear hi hx he hd hpos
    go_wp2_with (first
     | (go_at_call 48; first
      | (with_reducible refine (t_statS wr (HT1'.out.below HB.out) HX.out).mono ?_
         rintro e w3 ⟨rfl, hb3⟩
         have hb3' : Below w2.heap.size w2 (w3.alloc (statC i x)) := ptrans (ptrans HB.out hb3) (u_alloc1 w3 _)
         have HB3 := zz hb3'
         have HS3 := zz (StatAt.new w3 i x)
         obtain ⟨d3, d4⟩ := HD.out _ hb3'
         unfold statC at d3 d4
         clear hb3 hb3' d1 d2)
      | (with_reducible refine (t_statS (w3.alloc (statC i x)) (HT2'.out.below HB3.out) HX.out).mono ?_
         rintro e w4 ⟨rfl, hb4⟩
         have hb4' : Below w2.heap.size w2 (w4.alloc (statC i x)) := ptrans (ptrans HB3.out hb4) (u_alloc1 w4 _)
         have HB4 := zz hb4'
         have HS4 := zz (StatAt.new w4 i x)
         have HS3' := zz (HS3.out.below (ptrans hb4 (u_alloc1 w4 (statC i x))))
         obtain ⟨d5, d6⟩ := HD.out _ hb4'
         unfold statC at d5 d6
         clear hb4 hb4' d3 d4))
     | (go_at_call 47; first
      | (with_reducible refine (t_listP i (w4.alloc (statC i x)) (HT1'.out.below HB4.out) HU.out HN.out).mono ?_
         rintro e w5 ⟨A1, k1, L1, rfl, hL1, hn1, hE1, hb5, _⟩
         have HL1 := zz hL1
         have HN1 := zz hn1
         have HE1 := zz hE1
         have hb5' := ptrans HB4.out hb5
         have HB5 := zz hb5'
         have HS5 := zz (HS3'.out.below hb5)
         have HS6 := zz (HS4.out.below hb5)
         obtain ⟨d7, d8⟩ := HD.out _ hb5'
         clear hL1 hn1 hE1 hb5 hb5' d5 d6)
      | (with_reducible refine (t_listP i w5 (HT2'.out.below HB5.out) HU.out HN.out).mono ?_
         rintro e w6 ⟨A2, k2, L2, rfl, hL2, hn2, hE2, hb6, _⟩
         obtain rfl := ents_unique HL1.out hL2
         have HE2 := zz hE2
         have HE1' := zz (HE1.out.below hb6)
         have hb6' := ptrans HB5.out hb6
         have HB6 := zz hb6'
         have HS7 := zz (HS5.out.below hb6)
         have HS8 := zz (HS6.out.below hb6)
         obtain ⟨d9, d10⟩ := HD.out _ hb6'
         clear hL2 hn2 hE2 hb6 hb6' d7 d8 HS3 HS4 HS3' HS5 HS6 HB3 HB4 HB5 HE1)))
    obtain ⟨e0, e1, e2, e3, _⟩ := HS7.out
    obtain ⟨f0, f1, f2, f3, _⟩ := HS8.out
    have HT6 := zz (HT1'.out.below HB6.out)
    have HT6' := zz (HT2'.out.below HB6.out)
    go_quiet (first
     | (go_at_call 52; refine Calls.quiet_of (r_same A1 A2 k1 k2 L1 _ (HE1'.out.below (pbelow_drewN (Below.refl _ _) _)) (HE2.out.below (pbelow_drewN (Below.refl _ _) _)) HN1.out))
     | (go_at_call 17; first
      | exact quiet_eq (t_heldP i _ (HT6.out.below (pbelow_drewN (Below.refl _ _) _)) HU.out)
      | exact quiet_eq (t_heldP i _ (HT6'.out.below (pbelow_drewN (Below.refl _ _) _)) HU.out)))
    generalize hw7 : w6.drewN nq = w7
    have hB7 : Below w2.heap.size w2 w7 := by rw [← hw7]; exact pbelow_drewN HB6.out _
    have hS7 : StatAt w7 w3.heap.size i x := by rw [← hw7]; exact HS7.out.below (pbelow_drewN (Below.refl _ _) _)
    have HB7 := zz hB7
    have HS9 := zz hS7
    have hok := HW.out.pages i x HX.out
    have hsx := hok.size
    have HOK := zz (fun z (hz : t.n i = some z) => HW.out.pages i z hz)
    clear hw7 hB7 hS7 HS7 HS8 e0 e1 e2 e3 f0 f1 f2 f3 HT6 HT6' HE1' HE2 HB6 HN1 HL1 d9 d10 hok
    go_wp2
    go_loopw [16] (fun v W => ∃ m : Nat, v = .int .i64 (m : Int) ∧ m ≤ 36 ∧ Below w7.heap.size w7 W) (fun v _ => 37 - (intOf v).toNat)
    case atStart => exact ⟨0, rfl, Nat.zero_le _, Below.refl _ _⟩
    case round =>
     obtain ⟨m, rfl, hm, hBm⟩ := hrel
     have HBM := zz (ptrans HB7.out hBm)
     have HBM7 := zz hBm
     obtain ⟨_, _, _, e3, _⟩ := HS9.out.below hBm
     clear hBm
     have hw32 : IntKind.u32.wrap ((m : Int) * 64) = (m : Int) * 64 := IntWalk.u32_in _ (by omega)
     by_cases hlt : (m : Int) * 64 < x.size
     · obtain ⟨d1, d2⟩ := HD.out _ HBM.out
       have hw64 : IntKind.i64.wrap ((m : Int) * 64) = (m : Int) * 64 := IntWalk.i64_in _ (by omega)
       have hm36 : m < 36 := by omega
       go_wp2_with (go_at_call 53; first
        | (with_reducible refine (t_readP i (m : Int) wr (HT1'.out.below HBM.out) HU.out HOK.out).mono ?_
           rintro e w8 ⟨rfl, hb8⟩
           have hb8' := ptrans HBM.out hb8
           have HB8 := zz hb8'
           have HB8' := zz hb8
           obtain ⟨d3, d4⟩ := HD.out _ hb8'
           clear hb8 hb8' d1 d2)
        | (with_reducible refine (t_readP i (m : Int) w8 (HT2'.out.below HB8.out) HU.out HOK.out).mono ?_
           rintro e w9 ⟨rfl, hb9⟩
           have HB9 := zz (ptrans HB8'.out hb9)
           clear hb9 d3 d4))
       go_roundw
       case rel => exact ⟨m + 1, by go_num, by omega, ptrans HBM7.out HB9.out⟩
       case measure => simp [intOf]; omega
     · go_wp2
       go_roundw
       case rel => exact ⟨k + 1, by go_num, by omega, HBM.out⟩
       case measure => simp [intOf]; omega
end
end

section
open Go.RowKit Go.Maps
variable {t : PT} {a b i : Int} {s s2 : ByteArray} {xa xb y : PN}
theorem there_of {is : List Int} (h : ∀ i ∈ is, (t.n i).isSome = true) : thereE t is = 0 := by
 unfold thereE
 rw [if_neg]
 rw [List.any_eq_true]
 rintro ⟨i, hi, h2⟩
 have := h i hi
 cases hx : t.n i with
 | none => rw [hx] at this; cases this
 | some x => rw [hx] at h2; cases h2
theorem dirs_of {is : List Int} (h : ∀ i ∈ is, ∃ x, t.n i = some x ∧ x.kind = 2) : dirsE t is = 0 := by
 unfold dirsE
 rw [if_neg]
 rw [List.any_eq_true]
 rintro ⟨i, hi, h2⟩
 obtain ⟨x, hx, hk⟩ := h i hi
 unfold isFile at h2
 rw [hx] at h2
 simp [hk] at h2
end
section
open Go.RowKit Go.Maps
def Two (B : Nat) (w1 : World) (P P2 N : Nat) (t t2 : PT) (w : World) : Prop := ∃ y F y2 F2, TreeM w F P N y t ∧ TreeM w F2 P2 N y2 t2 ∧ WellP t ∧ WellP t2 ∧ (∀ b, F b → B ≤ b) ∧ (∀ b, F2 b → ¬ F b) ∧ B ≤ w.heap.size ∧ Below B w1 w
end

section
open Go.ChangeShapes Go.WideShapes Go.ChangeAt Go.RowKit
section
variable {H : Type} {enc : TypeId × Value → H} {P : Program}
theorem trodAll_below (hl : laidOutB P = true) {W W' : World} (hb : Below W.heap.size W W') :
  ∀ (ts : List TypeId) (vs : List Value) (ds : List (DataW H)) (ps : List MemPlace), (∀ t ∈ ts, P.readableRec t = true ∧ t < P.types.size) →
   DataW.TrodAll enc P W 0 (fun _ => true) true ts vs ds ps → (∀ x ∈ ps, x.block < W.heap.size) → DataW.TrodAll enc P W' 0 (fun b => decide (b < W.heap.size)) true ts vs ds ps
 | [], [], [], ps, _, h, _ => h
 | t :: ts, v :: vs, d :: ds, ps, hr, h, hlt => by
  obtain ⟨p, q, h1, h2, rfl⟩ := h
  refine ⟨p, q, ?_, ?_, rfl⟩
  · exact Below.trod hl (hr t (List.mem_cons_self ..)).1 (hr t (List.mem_cons_self ..)).2 h1 hb (fun x hx => hlt x (List.mem_append_left _ hx))
  · exact trodAll_below hl hb ts vs ds q (fun t ht => hr t (List.mem_cons_of_mem _ ht)) h2 (fun x hx => hlt x (List.mem_append_right _ hx))
 | [], [], _ :: _, _, _, h, _ => h.elim
 | [], _ :: _, _, _, _, h, _ => h.elim
 | _ :: _, [], _, _, _, h, _ => h.elim
 | _ :: _, _ :: _, [], _, _, h, _ => h.elim
theorem law_post {f : Func} {s : ChangeSpec} {tb : TypeId} {W W' : World} {args : Array Value} {ds gs : List (DataW H)} {before : List MemPlace}
  (hl : laidOutB P = true) (hr : f.params.toList.all (fun t => P.readableRec t && decide (t < P.types.size)) = true) (hv : s.vars = []) (hrt : f.resultTypes = #[tb]) (htb : P.underlying tb = some .bool)
  (hW : DataW.Whole enc P f.params.toList s.vars false W args.toList ds gs before)
  (hfn : s.fn H (ds ++ gs) = { results := [.lit (.bool true)], args := ds }) (hb : Below W.heap.size W W') :
  s.post enc P f false true false false W args (.bool true) W' := by
 have hW' := hW
 obtain ⟨p, q, hA, hV, rfl, _, _⟩ := hW
 rw [hv] at hV
 obtain ⟨rfl, rfl⟩ := trodVars_none hV
 have hlt : ∀ x ∈ p, x.block < W.heap.size := fun x hx => by simpa using hW'.lt x (List.mem_append_left _ hx)
 refine ⟨ds, [], p ++ [], [], p, [], hW', ?_, ?_, ?_, hb.frame _, fun h => by cases h⟩
 · rw [hfn, hrt]
   exact trodAll_mk1 (shut_bool htb true)
 · rw [hfn]
   exact trodAll_below hl hb _ _ _ _ (fun t ht => by have := List.all_eq_true.1 hr t ht; simpa using this) hA hlt
 · rw [hfn, hv]
   rfl
end
theorem own : ownKnob Tryz.prog.godebug = none := by kernel_rfl
theorem laidOut : laidOutB Tryz.prog = true := by kernel_rfl
theorem add_flat {b o : Nat} (i : Nat) : (⟨b, o, none⟩ : Addr).add i = ⟨b, o + i, none⟩ := by unfold Addr.add; split <;> simp_all
end

section
open Go.RowKit Go.Maps
variable {t : PT}
open Classical in
noncomputable def entsOf (t : PT) (d : Int) : List E := if h : ∃ L, EntsOf (listL t d) L then Classical.choose h else []
theorem entsOf_spec {d : Int} {L : List E} (h : EntsOf (listL t d) L) : entsOf t d = L := by
 have hex : ∃ L, EntsOf (listL t d) L := ⟨L, h⟩
 unfold entsOf
 rw [dif_pos hex]
 exact ents_unique (Classical.choose_spec hex) h
theorem listL_ent (h : WellP t) (d : Int) (k : List UInt8) (v : Int) : listL t d k = some v ↔ Ent t d k v := by
 constructor
 · intro hl
   unfold listL at hl
   split at hl
   · cases hx : t.n d with
     | none => rw [hx] at hl; cases hl
     | some x => rw [hx] at hl; exact ⟨x, hx, hl⟩
   · cases hl
 · rintro ⟨x, hx, hl⟩
   have hk := (h.ent d x k v hx hl).1
   unfold listL
   have e : listE t d = 0 := by
    unfold listE
    have h1 := there_of (t := t) (is := [d]) (by simp [hx])
    have h2 := dirs_of (t := t) (is := [d]) (by simp; exact ⟨x, hx, hk⟩)
    rw [h1, h2]
    rfl
   rw [if_pos e, hx]
   exact hl
def pairsOf (es : Int → List E) (all : List Int) (v : Int) : List (Int × List UInt8) := all.flatMap fun d => ((es d).filter fun x => decide (x.2 = v)).map fun x => (d, nameL x)
def valsOf (es : Int → List E) (all : List Int) : List Int := all.flatMap fun d => (es d).map fun x => x.2
theorem filter_count (v : Int) : ∀ (L : List E), (L.filter fun x => decide (x.2 = v)).length = (L.map fun x => x.2).count v
 | [] => rfl
 | x :: L => by
  rw [List.map_cons, List.count_cons, ← filter_count v L]
  by_cases c : x.2 = v
  · simp [c]
  · simp [c]
theorem pairs_len (es : Int → List E) (v : Int) : ∀ (all : List Int), (pairsOf es all v).length = (valsOf es all).count v
 | [] => rfl
 | d :: all => by
  have := pairs_len es v all
  unfold pairsOf valsOf at *
  rw [List.flatMap_cons, List.flatMap_cons, List.length_append, List.count_append, this, List.length_map, filter_count]
theorem pairs_mem (h : WellP t) {all : List Int} (hm : ∀ i, i ∈ all ↔ (t.n i).isSome = true) (hE : ∀ d ∈ all, EntsOf (listL t d) (entsOf t d)) (v : Int) (p : Int × List UInt8) :
  p ∈ pairsOf (entsOf t) all v ↔ Ent t p.1 p.2 v := by
 unfold pairsOf
 rw [List.mem_flatMap]
 constructor
 · rintro ⟨d, hd, hp⟩
   obtain ⟨x, hx, rfl⟩ := List.mem_map.1 hp
   obtain ⟨hx1, hx2⟩ := List.mem_filter.1 hx
   have hv : x.2 = v := by simpa using hx2
   exact (listL_ent h _ _ _).1 (((hE d hd).mem (nameL x) v).1 ⟨x, hx1, rfl, hv⟩)
 · intro he
   have hd : p.1 ∈ all := by
    obtain ⟨x, hx, _⟩ := he
    rw [hm, hx]; rfl
   obtain ⟨x, hx, e1, e2⟩ := ((hE p.1 hd).mem p.2 v).2 ((listL_ent h _ _ _).2 he)
   exact ⟨p.1, hd, List.mem_map.2 ⟨x, List.mem_filter.2 ⟨hx, by simpa using e2⟩, by rw [e1]⟩⟩
theorem pairs_nodup {all : List Int} (v : Int) (es : Int → List E) (hs : all.Pairwise (· < ·)) (hE : ∀ d ∈ all, (es d).Pairwise fun a b => nameL a < nameL b) : (pairsOf es all v).Nodup := by
 induction all with
 | nil => exact List.nodup_nil
 | cons d all ih =>
  rw [List.pairwise_cons] at hs
  unfold pairsOf at ih ⊢
  rw [List.flatMap_cons, List.nodup_append]
  refine ⟨?_, ih hs.2 (fun i hi => hE i (List.mem_cons_of_mem _ hi)), ?_⟩
  · have h1 := (hE d (by simp)).filter (fun x => decide (x.2 = v))
    rw [List.nodup_iff_pairwise_ne, List.pairwise_map]
    refine h1.imp ?_
    intro a b hab e
    injection e with _ e
    rw [e] at hab
    exact List.lt_irrefl _ hab
  · intro a ha b hb e
    obtain ⟨x, _, rfl⟩ := List.mem_map.1 ha
    obtain ⟨d2, hd2, hb⟩ := List.mem_flatMap.1 hb
    obtain ⟨y, _, rfl⟩ := List.mem_map.1 hb
    injection e with e _
    have := hs.1 d2 hd2
    omega
theorem nodup_len {α : Type} [DecidableEq α] {L M : List α} (h1 : L.Nodup) (h2 : M.Nodup) (h : ∀ x, x ∈ L ↔ x ∈ M) : L.length = M.length :=
 ((List.perm_ext_iff_of_nodup h1 h2).2 h).length_eq
section
variable {all : List Int}
theorem count_file (h : WellP t) (hs : all.Pairwise (· < ·)) (hm : ∀ i, i ∈ all ↔ (t.n i).isSome = true) (hE : ∀ d ∈ all, EntsOf (listL t d) (entsOf t d)) {v : Int} {x : PN} (hx : t.n v = some x) (hk : x.kind = 1) :
  (((valsOf (entsOf t) all).count v : Nat) : Int) = x.links := by
 obtain ⟨L, n1, n2, n3⟩ := h.links v x hx hk
 rw [← pairs_len, ← n3]
 congr 1
 exact nodup_len (pairs_nodup v _ hs fun d hd => (hE d hd).sorted) n1 fun p => (pairs_mem h hm hE v p).trans (n2 p).symm
theorem count_dir (h : WellP t) (hs : all.Pairwise (· < ·)) (hm : ∀ i, i ∈ all ↔ (t.n i).isSome = true) (hE : ∀ d ∈ all, EntsOf (listL t d) (entsOf t d)) {v : Int} {x : PN} (hx : t.n v = some x) (hk : x.kind = 2) :
  (valsOf (entsOf t) all).count v ≤ 1 ∧ (v ≠ 1 → 1 ≤ (valsOf (entsOf t) all).count v) := by
 have hn := pairs_nodup v (entsOf t) hs fun d hd => (hE d hd).sorted
 have hmem := pairs_mem h hm hE v
 rw [← pairs_len]
 constructor
 · cases hl : pairsOf (entsOf t) all v with
   | nil => simp
   | cons p l =>
    cases l with
    | nil => simp
    | cons q l =>
     exfalso
     rw [hl] at hn
     have hp := (hmem p).1 (by rw [hl]; simp)
     have hq := (hmem q).1 (by rw [hl]; simp)
     have hpu : x.up = p.1 := by
      obtain ⟨z, hz, hzl⟩ := hp
      obtain ⟨_, _, _, y, hy, hyu⟩ := h.ent p.1 z _ v hz hzl
      rw [hx] at hy
      cases hy
      exact hyu hk
     have hqu : x.up = q.1 := by
      obtain ⟨z, hz, hzl⟩ := hq
      obtain ⟨_, _, _, y, hy, hyu⟩ := h.ent q.1 z _ v hz hzl
      rw [hx] at hy
      cases hy
      exact hyu hk
     have e1 : p.1 = q.1 := hpu.symm.trans hqu
     have e2 : p.2 = q.2 := h.one p.1 p.2 q.2 v x hp (by rw [e1]; exact hq) hx hk
     have : p = q := Prod.ext e1 e2
     simp [this] at hn
 · intro hv
   obtain ⟨k, hk2⟩ := h.up v x hx hk hv
   exact List.length_pos_of_mem ((hmem (x.up, k)).2 hk2)
end
end
section
open Go.RowKit Go.Maps
variable {t : PT}
def isDirB (t : PT) (v : Int) : Bool := match t.n v with | some x => x.kind == 2 | none => false
theorem isDirB_iff {v : Int} : isDirB t v = true ↔ ∃ x, t.n v = some x ∧ x.kind = 2 := by
 unfold isDirB
 cases hx : t.n v with
 | none => simp
 | some x => simp
def kidsOf (t : PT) (L : List E) : List Int := (L.map fun x => x.2).filter (isDirB t)
theorem kids_snoc (L : List E) (x : E) : kidsOf t (L ++ [x]) = kidsOf t L ++ (if isDirB t x.2 = true then [x.2] else []) := by
 unfold kidsOf
 rw [List.map_append, List.filter_append]
 congr 1
 by_cases h : isDirB t x.2 = true
 · simp [h]
 · simp [h]
structure Way (t : PT) (i : Nat) (way : List Int) : Prop where
 nodup : way.Nodup
 dir : ∀ v ∈ way, isDirB t v = true
 root : 1 ∈ way
 up : ∀ v ∈ way, v ≠ 1 → ∃ j x, j < i ∧ t.n v = some x ∧ way[j]? = some x.up
 down : ∀ j d, j < i → way[j]? = some d → ∀ v ∈ kidsOf t (entsOf t d), v ∈ way
theorem Way.start (h : WellP t) : Way t 0 [1] := by
 obtain ⟨x, hx, hk, _⟩ := h.root
 exact ⟨by simp, by simp; exact isDirB_iff.2 ⟨x, hx, hk⟩, by simp, fun v hv h1 => absurd (by simpa using hv) h1, fun j d hj => absurd hj (by omega)⟩
theorem kids_mem (h : WellP t) {d v : Int} (hE : EntsOf (listL t d) (entsOf t d)) (hv : v ∈ kidsOf t (entsOf t d)) : ∃ x k, t.n v = some x ∧ x.kind = 2 ∧ x.up = d ∧ v ≠ 1 ∧ Ent t d k v := by
 obtain ⟨h1, h2⟩ := List.mem_filter.1 hv
 obtain ⟨e, he, rfl⟩ := List.mem_map.1 h1
 obtain ⟨x, hx, hk⟩ := isDirB_iff.1 h2
 have hent := (listL_ent h _ _ _).1 ((hE.mem (nameL e) e.2).1 ⟨e, he, rfl, rfl⟩)
 obtain ⟨z, hz, hl⟩ := hent
 obtain ⟨_, n1, _, y, hy, hyu⟩ := h.ent d z _ _ hz hl
 rw [hx] at hy
 cases hy
 exact ⟨x, nameL e, hx, hk, hyu hk, n1, z, hz, hl⟩
theorem kids_nodup (h : WellP t) {d : Int} (hE : EntsOf (listL t d) (entsOf t d)) : (kidsOf t (entsOf t d)).Nodup := by
 unfold kidsOf
 rw [List.nodup_iff_pairwise_ne, List.filter_map, List.pairwise_map]
 have h1 : ((entsOf t d).filter (isDirB t ∘ fun x => x.2)).Pairwise fun a b => nameL a < nameL b := hE.sorted.filter _
 rw [List.pairwise_iff_getElem] at h1 ⊢
 intro i j hi hj hij e
 have hlt := h1 i j hi hj hij
 have mi := List.mem_filter.1 (List.getElem_mem hi)
 have mj := List.mem_filter.1 (List.getElem_mem hj)
 have ei := (listL_ent h _ _ _).1 ((hE.mem _ _).1 ⟨_, mi.1, rfl, rfl⟩)
 have ej := (listL_ent h _ _ _).1 ((hE.mem _ _).1 ⟨_, mj.1, rfl, rfl⟩)
 obtain ⟨x, hx, hk⟩ := isDirB_iff.1 mi.2
 rw [← e] at ej
 have := h.one d _ _ _ x ei ej hx hk
 rw [this] at hlt
 exact List.lt_irrefl _ hlt
theorem Way.step (h : WellP t) {i : Nat} {way : List Int} {d : Int} (hw : Way t i way) (hd : way[i]? = some d) (hE : EntsOf (listL t d) (entsOf t d)) : Way t (i + 1) (way ++ kidsOf t (entsOf t d)) := by
 have hil : i < way.length := (List.getElem?_eq_some_iff.1 hd).1
 have get : ∀ (j : Nat) (a : Int), way[j]? = some a → (way ++ kidsOf t (entsOf t d))[j]? = some a := fun j a ha => by
  rw [List.getElem?_append_left (List.getElem?_eq_some_iff.1 ha).1]; exact ha
 refine ⟨?_, fun v hv => ?_, List.mem_append_left _ hw.root, fun v hv h1 => ?_, fun j e hj he v hv => ?_⟩
 · rw [List.nodup_append]
   refine ⟨hw.nodup, kids_nodup h hE, fun a ha b hb e => ?_⟩
   subst e
   obtain ⟨x, k, hx, hk, hu, n1, _⟩ := kids_mem h hE hb
   obtain ⟨j, y, hj, hy, hyj⟩ := hw.up a ha n1
   rw [hx] at hy
   cases hy
   rw [hu] at hyj
   have hjl := (List.getElem?_eq_some_iff.1 hyj).1
   have e1 := (List.getElem?_eq_some_iff.1 hyj).2
   have e2 := (List.getElem?_eq_some_iff.1 hd).2
   have := (List.getElem_inj hw.nodup).1 (e1.trans e2.symm)
   omega
 · rcases List.mem_append.1 hv with hv | hv
   · exact hw.dir v hv
   · exact (List.mem_filter.1 hv).2
 · rcases List.mem_append.1 hv with hv | hv
   · obtain ⟨j, x, hj, hx, hjx⟩ := hw.up v hv h1
     exact ⟨j, x, by omega, hx, get j _ hjx⟩
   · obtain ⟨x, k, hx, hk, hu, n1, _⟩ := kids_mem h hE hv
     exact ⟨i, x, by omega, hx, by rw [hu]; exact get i _ hd⟩
 · by_cases c : j = i
   · subst c
     rw [get j d hd] at he
     cases he
     exact List.mem_append_right _ hv
   · have hjl : j < way.length := by omega
     rw [List.getElem?_append_left hjl] at he
     exact List.mem_append_left _ (hw.down j e (by omega) he v hv)
theorem nodup_sub : ∀ {l m : List Int}, l.Nodup → (∀ x ∈ l, x ∈ m) → l.length ≤ m.length
 | [], _, _, _ => Nat.zero_le _
 | a :: l, m, h, hm => by
  rw [List.nodup_cons] at h
  have ha := hm a (by simp)
  have := nodup_sub (l := l) (m := m.erase a) h.2 (fun x hx => (List.mem_erase_of_ne (fun e : x = a => h.1 (by rw [← e]; exact hx))).2 (hm x (List.mem_cons_of_mem _ hx)))
  have e := List.length_erase_of_mem ha
  have := List.length_pos_of_mem ha
  rw [List.length_cons]
  omega
theorem Way.most {i : Nat} {way all : List Int} (hw : Way t i way) (hm : ∀ i, i ∈ all ↔ (t.n i).isSome = true) : way.length ≤ all.length :=
 nodup_sub hw.nodup fun v hv => by
  obtain ⟨x, hx, _⟩ := isDirB_iff.1 (hw.dir v hv)
  rw [hm, hx]; rfl
theorem Way.done (h : WellP t) {way all : List Int} (hw : Way t way.length way) (hs : all.Pairwise (· < ·)) (hm : ∀ i, i ∈ all ↔ (t.n i).isSome = true) (hE : ∀ d ∈ way, EntsOf (listL t d) (entsOf t d)) :
  way.length = (all.filter (isDirB t)).length := by
 obtain ⟨r, hr⟩ := h.rank
 have key : ∀ (n : Nat) (v : Int) (x : PN), r v < n → t.n v = some x → x.kind = 2 → v ∈ way := by
  intro n
  induction n with
  | zero => intro v x hn; omega
  | succ n ih =>
   intro v x hn hx hk
   by_cases h1 : v = 1
   · rw [h1]; exact hw.root
   · obtain ⟨k, hent⟩ := h.up v x hx hk h1
     have hent' := hent
     obtain ⟨z, hz, hl⟩ := hent
     have hzk := (h.ent _ _ _ _ hz hl).1
     have hup : x.up ≠ 0 := fun e => by
      rw [e] at hz
      have := (h.range 0 z hz).1
      omega
     have hlt := hr v x hx hk hup
     have hin := ih x.up z (by omega) hz hzk
     obtain ⟨j, hj⟩ := List.getElem?_of_mem hin
     have hjl := (List.getElem?_eq_some_iff.1 hj).1
     refine hw.down j x.up hjl hj v (List.mem_filter.2 ⟨?_, isDirB_iff.2 ⟨x, hx, hk⟩⟩)
     obtain ⟨e, he, _, e2⟩ := ((hE x.up hin).mem k v).2 ((listL_ent h _ _ _).2 hent')
     exact List.mem_map.2 ⟨e, he, e2⟩
 refine nodup_len hw.nodup ((hs.imp (fun h => by omega)).filter _) fun v => ?_
 rw [List.mem_filter, hm]
 constructor
 · intro hv
   have hd := hw.dir v hv
   obtain ⟨x, hx, _⟩ := isDirB_iff.1 hd
   exact ⟨by rw [hx]; rfl, hd⟩
 · rintro ⟨_, hd⟩
   obtain ⟨x, hx, hk⟩ := isDirB_iff.1 hd
   exact key _ v x (Nat.lt_succ_self _) hx hk
end

section
open Go.RowKit Go.Maps
section
variable {F : Nat → Prop} {P N : Nat} {y : Lay} {t : PT}
def DownAt (t : PT) (B : Nat) (w wr : World) (i : Nat) (way : List Int) (v : Value) : Prop :=
 wr.ownsRow B 29 1 v way.length (way.map u32V) ∧ Way t i way ∧ i ≤ way.length ∧ Below B w wr ∧ (∀ j d, j < i → way[j]? = some d → EntsOf (listL t d) (entsOf t d))
theorem owns_later {w w' : World} {base : Nat} {e : TypeId} {size n : Nat} {v : Value} {xs : List Value} (h : w.ownsRow base e size v n xs) (hb : Below w.heap.size w w') : w'.ownsRow base e size v n xs :=
 h.kept (row := none) ⟨hb.os, hb.tape, hb.output, hb.size, fun b h _ => hb.block b h⟩ (by cases hv : v.ownBlock <;> simp)
theorem cell_one_two (w : World) (o : Obj) (i : Int) : ∀ j u, [Value.int .u32 i][j]? = some u → ((w.alloc o).alloc (.cells #[.int .u32 i] 29)).cell? ((⟨w.heap.size + 1, 0, none⟩ : Addr).add j) = some u := by
 have h := cell_one_new (w.alloc o) (.int .u32 i) 29
 rw [show (w.alloc o).heap.size = w.heap.size + 1 by simp] at h
 exact h
def InnAt (t : PT) (w W : World) (way : List Int) (L : List E) (A : Option Addr) (k : Nat) (v : Value) : Prop :=
 W.ownsRow w.heap.size 29 1 v (way ++ kidsOf t (L.take k)).length ((way ++ kidsOf t (L.take k)).map u32V) ∧ k ≤ L.length ∧ EntsAt W A L ∧ Below w.heap.size w W ∧ ∀ b, A = some ⟨b, 0, none⟩ → v.ownBlock ≠ some b
section
variable {w W W' : World} {way : List Int} {L : List E} {A : Option Addr} {k : Nat} {v v' : Value} {x : E}
theorem InnAt.later (h : InnAt t w W way L A k v) (hb : Below W.heap.size W W') : InnAt t w W' way L A k v := by
 obtain ⟨h1, h2, h3, h4, h5⟩ := h
 exact ⟨owns_later h1 hb, h2, h3.below hb, ptrans h4 hb, h5⟩
theorem InnAt.skip (h : InnAt t w W way L A k v) (hx : L[k]? = some x) (hd : isDirB t x.2 = false) : InnAt t w W way L A (k + 1) v := by
 obtain ⟨h1, h2, h3, h4, h5⟩ := h
 have e : kidsOf t (L.take (k + 1)) = kidsOf t (L.take k) := by
  rw [List.take_add_one, hx]
  show kidsOf t (_ ++ [x]) = _
  rw [kids_snoc, hd]
  simp
 exact ⟨by rw [e]; exact h1, (List.getElem?_eq_some_iff.1 hx).1, h3, h4, h5⟩
theorem InnAt.took (h : InnAt t w W way L A k v) (hx : L[k]? = some x) (hd : isDirB t x.2 = true)
  (hown : W'.ownsRow w.heap.size 29 1 v' ((way ++ kidsOf t (L.take k)).length + 1) ((way ++ kidsOf t (L.take k)).map u32V ++ [.int .u32 x.2])) (hg : W.grownBy W' v.ownBlock) (hat : v'.ownBlock = v.ownBlock ∨ v'.ownBlock = some W.heap.size) : InnAt t w W' way L A (k + 1) v' := by
 obtain ⟨h1, h2, h3, h4, h5⟩ := h
 have hlt := (List.getElem?_eq_some_iff.1 hx).1
 have e : way ++ kidsOf t (L.take (k + 1)) = (way ++ kidsOf t (L.take k)) ++ [x.2] := by
  rw [List.take_add_one, hx]
  show way ++ kidsOf t (_ ++ [x]) = _
  rw [kids_snoc, hd]
  simp
 obtain ⟨b, rfl, hb, hc⟩ := h3.at_ (by omega)
 have hne : some b ≠ v.ownBlock := fun e => h5 b rfl e.symm
 refine ⟨?_, hlt, ⟨fun _ => ⟨b, rfl, Nat.lt_of_lt_of_le hb hg.size, fun j z hz => ?_⟩⟩, ?_, fun b' hb' => ?_⟩
 · rw [e, List.length_append, List.map_append]
   exact hown
 · obtain ⟨a1, a2⟩ := hc j z hz
   exact ⟨hg.cell a1 hne, hg.cell a2 hne⟩
 · refine ⟨hg.os.trans h4.os, hg.tape.trans h4.tape, hg.output.trans h4.output, Nat.le_trans h4.size hg.size, fun c hc2 => ?_⟩
   refine (hg.block c (Nat.lt_of_lt_of_le hc2 h4.size) fun e => ?_).trans (h4.block c hc2)
   have := (h1.lt c e.symm).1
   omega
 · injection hb' with hb'
   injection hb' with hb'
   subst hb'
   rcases hat with e | e
   · rw [e]; exact fun e => hne e.symm
   · rw [e]; intro e; injection e with e; omega
end
set_option maxRecDepth 100000 in
set_option maxHeartbeats 4000000 in
theorem t_down (w : World) (h : TreeM w F P N y t) (hW : WellP t) (hN : N ≤ 60000) (all : List Int) (hs : all.Pairwise (· < ·)) (hm : ∀ i, i ∈ all ↔ (t.n i).isSome = true) :
  Calls Tryz.prog 49 #[.pointer (some ⟨P, 0, none⟩), .int .i64 (all.length : Nat)] w fun e w' => e = .returned (.bool true) ∧ Below w.heap.size w w' := by
 have HT := zz h
 have HW := zz hW
 have HN := zz hN
 have HS := zz hs
 have HM := zz hm
 have hlen := all_len hW hs hm
 have HNE : Hid (∃ i, (t.n i).isSome = true) := by
  obtain ⟨x, hx, _⟩ := hW.root
  exact ⟨1, by rw [hx]; rfl⟩
 obtain ⟨n, hn⟩ : ∃ n, all.length = n := ⟨_, rfl⟩
 rw [hn] at hlen ⊢
 have HL := zz hn
 clear h hW hN hs hm hn
 go_enter Tryz.func49, Tryz.ntmps49
 go_wp2
 have hst : Hid (DownAt t w.heap.size w (w.alloc (.cells #[.int .u32 1] 29)) 0 [1] (.slice (some ⟨w.heap.size, 0, none⟩) 1 1)) := by
  refine ⟨⟨rfl, .inr ⟨w.heap.size, 1, _, rfl, Nat.le_refl _, heap_alloc_new w _, Nat.le_refl _, ?_, ?_, rfl⟩⟩, Way.start HW.out, Nat.zero_le _, u_alloc1 w _, fun j d hj => absurd hj (by omega)⟩
  · unfold maxLen; omega
  · rfl
 go_loopw [5, 6] (fun v iv wr => ∃ (i : Nat) (way : List Int), iv = .int .i64 (i : Int) ∧ DownAt t w.heap.size w wr i way v) (fun _ iv _ => (n + 1) - (intOf iv).toNat)
 case atStart => exact ⟨0, [1], rfl, hst.out⟩
 case round =>
  obtain ⟨i, way, rfl, how, hwy, hil, hB, hE⟩ := hrel
  have hmost := hwy.most HM.out
  rw [HL.out] at hmost
  have HWY := zz hwy
  have HB := zz hB
  have HE := zz hE
  clear hwy hB hE hst
  have hwl : way.length ≤ 256 := by omega
  have hlive : ∀ j d, way[j]? = some d → ∃ g cap, u5 = .slice (some ⟨g, 0, none⟩) way.length cap ∧ w.heap.size ≤ g ∧ g < wr.heap.size ∧ wr.cell? ⟨g, j, none⟩ = some (.int .u32 d) := by
   intro j d hj
   have hjl := (List.getElem?_eq_some_iff.1 hj).1
   rcases how.2 with ⟨_, h0⟩ | ⟨g, cap, cur, e, hg, hcur, _, _, _, htake⟩
   · omega
   · refine ⟨g, cap, e, hg, (Array.getElem?_eq_some_iff.1 hcur).1, ?_⟩
     have h1 : cur[j]? = some (u32V d) := by
      have e2 : (cur.toList.take (way.length * 1))[j]? = (way.map u32V)[j]? := by rw [htake]
      rw [List.getElem?_take, if_pos (by omega), List.getElem?_map, hj] at e2
      simpa using e2
     simp only [World.cell?, hcur, h1]
     rfl
  have HOW := zz how
  have HT' := zz (HT.out.below HB.out)
  have hpos : 1 ≤ way.length := List.length_pos_of_mem HWY.out.root
  obtain ⟨d0, hd0⟩ : ∃ d, way[0]? = some d := ⟨way[0], List.getElem?_eq_getElem (by omega)⟩
  obtain ⟨g, cap, hv, hg1, hg2, _⟩ := hlive 0 d0 hd0
  subst hv
  obtain ⟨m, hm⟩ : ∃ m, way.length = m := ⟨_, rfl⟩
  rw [hm] at hmost hil hwl hpos
  clear hd0
  by_cases hi : i = m
  · rw [hm]
    have hg3 : ¬ (n < m) := by omega
    go_wp2_with (go_at_call 16; (with_reducible refine (t_allP wr HT'.out HN.out HNE.out).mono ?_); rintro e w1 ⟨B1, c1, l1, rfl, hs1, hm1, hr1, hgg1, hb1⟩; have HS1 := zz hs1; have HM1 := zz hm1; have HR1 := zz hr1; have HB1 := zz hb1; clear hs1 hm1 hr1 hgg1 hb1)
    obtain rfl := ints_unique HS.out HS1.out (fun x => (HM.out x).trans (HM1.out x).symm)
    have HEq : Hid (m = (all.filter (isDirB t)).length) := by
     have hw := HWY.out
     rw [hi, ← hm] at hw
     have := hw.done HW.out HS.out HM.out (fun d hd => by
      obtain ⟨j, hj⟩ := List.getElem?_of_mem hd
      exact HE.out j d (by have := (List.getElem?_eq_some_iff.1 hj).1; omega) hj)
     show m = _
     rw [← hm]; exact this
    have HBA := zz (ptrans HB.out HB1.out)
    have HT1 := zz (HT'.out.below HB1.out)
    rw [HL.out]
    clear hlive
    go_loopw [13, 14] (fun cv kv W => ∃ k : Nat, kv = .int .i64 (k : Int) ∧ cv = .int .i64 (((all.take k).filter (isDirB t)).length : Nat) ∧ k ≤ n ∧ Below w1.heap.size w1 W) (fun _ kv _ => n - (intOf kv).toNat)
    case atStart => exact ⟨0, rfl, rfl, Nat.zero_le _, Below.refl _ _⟩
    case round =>
     obtain ⟨k, rfl, rfl, hk, hBk⟩ := hrel
     have HBK := zz hBk
     clear hBk
     by_cases he : k = n
     · have hc : ((all.take k).filter (isDirB t)).length = m := by rw [he, ← HL.out, List.take_length]; exact HEq.out.symm
       rw [hc]
       go_wp2
       go_ret
       exact ⟨rfl, ptrans HBA.out HBK.out⟩
     · have hk2 : k < n := by omega
       obtain ⟨i2, hi2⟩ : ∃ i2, all[k]? = some i2 := ⟨all[k]'(by rw [HL.out]; exact hk2), List.getElem?_eq_getElem _⟩
       obtain ⟨x, hx⟩ := Option.isSome_iff_exists.1 ((HM.out i2).1 (List.mem_of_getElem? hi2))
       have HX := zz hx
       have d1 := (HBK.out.cell (p := ⟨B1, _, none⟩) HR1.out.lt).trans (HR1.out.cell k i2 hi2)
       have htk : (all.take (k + 1)).filter (isDirB t) = (all.take k).filter (isDirB t) ++ (if isDirB t i2 = true then [i2] else []) := by
        rw [List.take_add_one, hi2, List.filter_append]
        congr 1
        by_cases c : isDirB t i2 = true
        · simp [c]
        · simp [c]
       have hc256 : ((all.take k).filter (isDirB t)).length ≤ 256 := by
        have h1 := List.length_filter_le (isDirB t) (all.take k)
        have h2 : (all.take k).length ≤ k := by rw [List.length_take]; omega
        omega
       obtain ⟨cc, hcc⟩ : ∃ cc, ((all.take k).filter (isDirB t)).length = cc := ⟨_, rfl⟩
       have HTK := zz htk
       rw [hcc] at hc256 ⊢
       have HCC := zz hcc
       clear htk hcc hi2 hx he
       by_cases hk2d : x.kind = 2
       · have hkb : (x.kind == 2) = true := by simpa using hk2d
         have HD : Hid (isDirB t i2 = true) := isDirB_iff.2 ⟨x, HX.out, hk2d⟩
         clear hk2d
         go_wp2_with (go_at_call 48; (with_reducible refine (t_statS wr (HT1.out.below HBK.out) HX.out).mono ?_); rintro e w3 ⟨rfl, hb3⟩; have HB3 := zz (ptrans (ptrans HBK.out hb3) (u_alloc1 w3 (statC i2 x))); clear hb3)
         refine ⟨⟨k + 1, by go_num, ?_, by omega, HB3.out⟩, by simp [intOf]; omega⟩
         rw [HTK.out, if_pos HD.out, List.length_append, HCC.out]
         simp
       · have hkb : (x.kind == 2) = false := by simpa using hk2d
         have HD : Hid (isDirB t i2 = false) := by
          show _ = _
          cases hd : isDirB t i2 with
          | false => rfl
          | true =>
           obtain ⟨z, hz, hzk⟩ := isDirB_iff.1 hd
           rw [HX.out] at hz
           cases hz
           exact absurd hzk hk2d
         clear hk2d
         go_wp2_with (go_at_call 48; (with_reducible refine (t_statS wr (HT1.out.below HBK.out) HX.out).mono ?_); rintro e w3 ⟨rfl, hb3⟩; have HB3 := zz (ptrans (ptrans HBK.out hb3) (u_alloc1 w3 (statC i2 x))); clear hb3)
         refine ⟨⟨k + 1, by go_num, ?_, by omega, HB3.out⟩, by simp [intOf]; omega⟩
         rw [HTK.out, HD.out, List.length_append, HCC.out]
         simp
  · have him : i < m := by omega
    obtain ⟨d, hd⟩ : ∃ d, way[i]? = some d := ⟨way[i]'(by omega), List.getElem?_eq_getElem _⟩
    obtain ⟨g', cap', hv, _, _, hcell⟩ := hlive i d hd
    injection hv with hv _ hcap
    injection hv with hv
    injection hv with hv
    subst hv
    subst hcap
    obtain ⟨x, hx, hxk⟩ := isDirB_iff.1 (HWY.out.dir d (List.mem_of_getElem? hd))
    have hpos := HT'.out.pos d x hx
    have HU : Hid (U32 d) := ⟨by omega, by omega⟩
    have HDI := zz hd
    have HGS : Hid (w.heap.size ≤ g ∧ g < wr.heap.size) := ⟨hg1, hg2⟩
    rw [hm]
    have HMM := zz hm
    clear hlive hd hx hxk hpos hm
    go_wp2_with (go_at_call 47; (with_reducible refine (t_listP d wr HT'.out HU.out HN.out).mono ?_); rintro e w1 ⟨A1, k1, L1, rfl, hL1, hn1, hE1, hb1, hA1⟩; have HL1 := zz hL1; have HN1 := zz hn1; have HE1 := zz hE1; have HB1 := zz hb1; have HA1 := zz hA1; clear hL1 hn1 hE1 hb1 hA1)
    obtain ⟨q, hq⟩ : ∃ q, L1.length = q := ⟨_, rfl⟩
    have hq6 : q ≤ 60000 := by rw [← hq]; exact HN1.out
    have HQ := zz hq
    have HEO : Hid (entsOf t d = L1) := entsOf_spec HL1.out
    have hst2 : Hid (InnAt t w w1 way L1 A1 0 (.slice (some ⟨g, 0, none⟩) m cap)) := by
     refine ⟨?_, Nat.zero_le _, HE1.out, ptrans HB.out HB1.out, fun b hb => ?_⟩
     · have h1 := owns_later HOW.out HB1.out
       simpa [kidsOf, HMM.out] using h1
     · have h1 := HA1.out b hb
       have h2 := HGS.out.2
       intro e
       injection e with e
       simp at e
       omega
    rw [hq]
    clear hq
    go_loopw [5, 9] (fun v kv W => ∃ k : Nat, kv = .int .i64 (k : Int) ∧ InnAt t w W way L1 A1 k v) (fun _ kv _ => q - (intOf kv).toNat)
    case atStart => exact ⟨0, rfl, hst2.out⟩
    case round =>
     obtain ⟨k, rfl, hin⟩ := hrel
     have hk : k ≤ q := by rw [← HQ.out]; exact hin.2.1
     have HIN := zz hin
     have HBW := zz hin.2.2.2.1
     clear hin
     by_cases he : k = q
     · subst he
       have HRES : Hid (DownAt t w.heap.size w wr (i + 1) (way ++ kidsOf t L1) u5) := by
        have hin := HIN.out
        have e : L1.take k = L1 := by rw [← HQ.out, List.take_length]
        obtain ⟨h1, _, _, h4, _⟩ := hin
        rw [e] at h1
        have hEd : EntsOf (listL t d) (entsOf t d) := by rw [HEO.out]; exact HL1.out
        have hstep := HWY.out.step HW.out HDI.out hEd
        rw [HEO.out] at hstep
        refine ⟨h1, hstep, by rw [List.length_append, HMM.out]; omega, h4, fun j d' hj hd' => ?_⟩
        by_cases hji : j = i
        · subst hji
          rw [List.getElem?_append_left (by rw [HMM.out]; omega), HDI.out] at hd'
          cases hd'
          exact hEd
        · rw [List.getElem?_append_left (by rw [HMM.out]; omega)] at hd'
          exact HE.out j d' (by omega) hd'
       go_wp2
       refine ⟨⟨i + 1, _, by go_num, HRES.out⟩, by simp [intOf]; omega⟩
     · have hk2 : k < q := by omega
       obtain ⟨⟨s, i2⟩, hx⟩ : ∃ x, L1[k]? = some x := ⟨L1[k]'(by rw [HQ.out]; exact hk2), List.getElem?_eq_getElem _⟩
       obtain ⟨b1, rfl, hl1, e1⟩ := HIN.out.2.2.1.at_ (by rw [HQ.out]; omega)
       obtain ⟨_, a2⟩ := e1 k _ hx
       have hent := (listL_ent HW.out _ _ _).1 ((HL1.out.mem (nameL (s, i2)) i2).1 ⟨(s, i2), List.mem_of_getElem? hx, rfl, rfl⟩)
       obtain ⟨x, hx2, hx3⟩ : ∃ x, t.n i2 = some x ∧ (x.kind = 2 ∨ x.kind = 1) := by
        obtain ⟨z, hz, hl⟩ := hent
        obtain ⟨_, _, _, y', hy, _⟩ := HW.out.ent d z _ _ hz hl
        exact ⟨y', hy, (HW.out.kind _ _ hy).symm⟩
       have HX := zz hx
       have HX2 := zz hx2
       have HAC := zz a2
       have HL1' := zz hl1
       have hln : (way ++ kidsOf t (L1.take k)).length ≤ 256 + 60000 := by
        rw [List.length_append, HMM.out]
        have h1 : (kidsOf t (L1.take k)).length ≤ (L1.take k).length := by
         unfold kidsOf
         exact Nat.le_trans (List.length_filter_le _ _) (by simp)
        have h2 : (L1.take k).length ≤ k := by rw [List.length_take]; omega
        have := HN1.out
        rw [HQ.out] at this
        omega
       have HLN := zz hln
       clear e1 hent hx hx2 he hl1 hln
       rcases hx3 with hkd | hkd
       · have hkb : (x.kind == 2) = true := by simpa using hkd
         have HD : Hid (isDirB t i2 = true) := isDirB_iff.2 ⟨x, HX2.out, hkd⟩
         clear hkd
         obtain ⟨i0, hi, hz0, hz1, hz2⟩ := info_parts infoU
         go_wp2_with (first
          | (go_at_call 48; (with_reducible refine (t_statS wr (HT.out.below HBW.out) HX2.out).mono ?_); rintro e w3 ⟨rfl, hb3⟩; have hin3 := HIN.out.later (ptrans hb3 (u_alloc1 w3 (statC i2 x))); have HIN3 := zz hin3; have c3 := (ptrans hb3 (u_alloc1 w3 (statC i2 x))).cell (p := ⟨b1, k * 2 + 1, none⟩) HL1'.out; rw [HAC.out] at c3; clear hin3 hb3 a2)
          | (at_builtin; refine wpList_append_own_at _ rfl _ _ 47 rfl w.heap.size 29 i0 (.int .u32 0) 1 4 Tryz.underlying47 hi hz0 hz1 hz2 rfl (by decide) _ _ _ rfl (HIN3.out.1.alloc _) ⟨w3.heap.size + 1, 0, none⟩ 1 1 [.int .u32 i2] rfl rfl (cell_one_two w3 (statC i2 x) i2) (by simp [Value.oneCell']) (by have := HLN.out; unfold maxLen; omega) (by have := HLN.out; omega) (by have := HIN3.out.2.2.2.1.size; simp at this ⊢; omega) ?_; intro v' w7 hown7 hgrow7 _ hat7))
         have HRES : Hid (InnAt t w w7 way L1 (some ⟨b1, 0, none⟩) (k + 1) v') := (HIN3.out.later (u_alloc1 _ _)).took HX.out HD.out hown7 hgrow7 hat7
         refine ⟨⟨k + 1, by go_num, HRES.out⟩, by simp [intOf]; omega⟩
       · have hkb : (x.kind == 2) = false := by rw [hkd]; rfl
         have HD : Hid (isDirB t i2 = false) := by
          show _ = _
          cases hd : isDirB t i2 with
          | false => rfl
          | true =>
           obtain ⟨z, hz, hzk⟩ := isDirB_iff.1 hd
           rw [HX2.out] at hz
           cases hz
           omega
         clear hkd
         go_wp2_with (go_at_call 48; (with_reducible refine (t_statS wr (HT.out.below HBW.out) HX2.out).mono ?_); rintro e w3 ⟨rfl, hb3⟩; have hin3 := HIN.out.later (ptrans hb3 (u_alloc1 w3 (statC i2 x))); have HIN3 := zz hin3; clear hin3 hb3 a2)
         refine ⟨⟨k + 1, by go_num, HIN3.out.skip HX.out HD.out⟩, by simp [intOf]; omega⟩
end
end
end Go.Proofs.YtpcnolkdnmolgaaGreatDoor
