/- Two lists of entries that are the same. -/
import Derived.Test.YtpcjbfhgmcioaaaGreatKQ
namespace Go.Proofs.YtpcjbfhgmcioaaaGreat
open Go.RowKit Go.Maps

section
variable {F : Nat → Prop} {P N : Nat} {y : Lay} {t : PT}
set_option maxRecDepth 100000 in
set_option maxHeartbeats 1000000 in
theorem r_same (A1 A2 : Option Addr) (c1 c2 : Nat) (L : List E) (w : World) (h1 : EntsAt w A1 L) (h2 : EntsAt w A2 L) (hn : L.length ≤ 60000) :
    Calls Tryz.prog 67 #[.slice A1 L.length c1, .slice A2 L.length c2] w fun e w' => e = .returned (.bool true) ∧ ∃ m, w' = w.drewN m := by
  obtain ⟨n, hL⟩ : ∃ n, L.length = n := ⟨_, rfl⟩
  rw [hL] at hn ⊢
  have HL := Lib.hid hL
  have H1 := Lib.hid h1
  have H2 := Lib.hid h2
  clear h1 h2 hL
  go_enter Tryz.func67, Tryz.ntmps67
  go_wp2
  go_loopw [5] (fun v wr => ∃ k : Nat, v = .int .i64 (k : Int) ∧ k ≤ n ∧ ∃ m, wr = w.drewN m) (fun v _ => n - (intOf v).toNat)
  case atStart => exact ⟨0, rfl, Nat.zero_le _, 0, rfl⟩
  case round =>
    obtain ⟨k, rfl, hk, m0, hm0⟩ := hrel
    have HB : Hid (Below w.heap.size w wr) := by rw [hm0]; exact pbelow_drewN (Below.refl _ _) m0
    have HM := Lib.hid hm0
    clear hm0
    by_cases he : k = n
    · go_wp2
      go_ret
      exact ⟨rfl, m0, HM.out⟩
    · have hk2 : k < n := by omega
      obtain ⟨b1, rfl, hl1, e1⟩ := H1.out.at_ (by rw [HL.out]; omega)
      obtain ⟨b2, rfl, hl2, e2⟩ := H2.out.at_ (by rw [HL.out]; omega)
      obtain ⟨⟨s, i⟩, hx⟩ : ∃ x, L[k]? = some x := ⟨L[k]'(by rw [HL.out]; exact hk2), List.getElem?_eq_getElem _⟩
      obtain ⟨a1, a2⟩ := e1 k _ hx
      obtain ⟨a3, a4⟩ := e2 k _ hx
      have d1 := (HB.out.cell (p := ⟨b1, _, none⟩) hl1).trans a1
      have d2 := (HB.out.cell (p := ⟨b1, _, none⟩) hl1).trans a2
      have d3 := (HB.out.cell (p := ⟨b2, _, none⟩) hl2).trans a3
      have d4 := (HB.out.cell (p := ⟨b2, _, none⟩) hl2).trans a4
      clear e1 e2 a1 a2 a3 a4 hx hl1 hl2 he
      go_wp2
      go_quiet (fail)
      generalize hw2 : wr.drewN _ = w2
      have HM2 : Hid (∃ m, w2 = w.drewN m) := ⟨_, by rw [← hw2, HM.out, World.drewN_drewN]⟩
      clear hw2
      go_wp2
      go_roundw
      case rel => exact ⟨k + 1, by go_num, by omega, HM2.out⟩
      case measure => simp [intOf]; omega
end
end Go.Proofs.YtpcjbfhgmcioaaaGreat

/- Alike: two trees that are the same are alike. -/
namespace Go.Proofs.YtpcjbfhgmcioaaaGreat
open Go.RowKit Go.Maps

theorem sorted_unique {α : Type} {r : α → α → Prop} (hi : ∀ a b, r a b → r b a → False) : ∀ {l m : List α}, l.Pairwise r → m.Pairwise r → (∀ x, x ∈ l ↔ x ∈ m) → l = m
  | [], [], _, _, _ => rfl
  | [], b :: m, _, _, h => absurd ((h b).2 (by simp)) (by simp)
  | a :: l, [], _, _, h => absurd ((h a).1 (by simp)) (by simp)
  | a :: l, b :: m, h1, h2, h => by
    rw [List.pairwise_cons] at h1 h2
    have e : a = b := by
      rcases List.mem_cons.1 ((h a).1 (by simp)) with e | ha
      · exact e
      · rcases List.mem_cons.1 ((h b).2 (by simp)) with e | hb
        · exact e.symm
        · exact (hi a b (h1.1 b hb) (h2.1 a ha)).elim
    subst e
    rw [sorted_unique hi h1.2 h2.2 (fun x => ?_)]
    constructor
    · intro hx
      rcases List.mem_cons.1 ((h x).1 (List.mem_cons_of_mem _ hx)) with e | h3
      · subst e
        exact (hi x x (h1.1 x hx) (h1.1 x hx)).elim
      · exact h3
    · intro hx
      rcases List.mem_cons.1 ((h x).2 (List.mem_cons_of_mem _ hx)) with e | h3
      · subst e
        exact (hi x x (h2.1 x hx) (h2.1 x hx)).elim
      · exact h3
theorem ents_unique {l : List UInt8 → Option Int} {L1 L2 : List E} (h1 : EntsOf l L1) (h2 : EntsOf l L2) : L1 = L2 := by
  have ext : ∀ a b : E, nameL a = nameL b → a.2 = b.2 → a = b := fun a b e1 e2 => by
    obtain ⟨⟨⟨a1⟩⟩, a2⟩ := a
    obtain ⟨⟨⟨b1⟩⟩, b2⟩ := b
    simp only [nameL] at e1 e2
    subst e2
    have : a1 = b1 := by simpa using e1
    subst this
    rfl
  refine sorted_unique (r := fun a b => nameL a < nameL b) (fun a b x y => List.lt_irrefl _ (List.lt_trans x y)) h1.sorted h2.sorted fun x => ?_
  constructor
  · intro hx
    obtain ⟨z, hz, e1, e2⟩ := (h2.mem (nameL x) x.2).2 ((h1.mem (nameL x) x.2).1 ⟨x, hx, rfl, rfl⟩)
    rw [← ext z x e1 e2]
    exact hz
  · intro hx
    obtain ⟨z, hz, e1, e2⟩ := (h1.mem (nameL x) x.2).2 ((h2.mem (nameL x) x.2).1 ⟨x, hx, rfl, rfl⟩)
    rw [← ext z x e1 e2]
    exact hz
theorem ints_unique {l m : List Int} (h1 : l.Pairwise (· < ·)) (h2 : m.Pairwise (· < ·)) (h : ∀ x, x ∈ l ↔ x ∈ m) : l = m :=
  sorted_unique (r := fun a b => a < b) (fun a b x y => by omega) h1 h2 h
theorem rising_len : ∀ {l : List Int} {a b : Int}, l.Pairwise (· < ·) → (∀ x ∈ l, a ≤ x ∧ x ≤ b) → (l.length : Int) ≤ max 0 (b - a + 1)
  | [], _, _, _, _ => by simp; omega
  | c :: l, a, b, h, hb => by
    rw [List.pairwise_cons] at h
    have h1 := hb c (by simp)
    have := rising_len (l := l) (a := c + 1) (b := b) h.2 (fun x hx => ⟨by have := h.1 x hx; omega, (hb x (List.mem_cons_of_mem _ hx)).2⟩)
    simp only [List.length_cons]
    omega
theorem all_len {t : PT} (h : WellP t) {l : List Int} (hs : l.Pairwise (· < ·)) (hm : ∀ i, i ∈ l ↔ (t.n i).isSome = true) : l.length ≤ 256 := by
  have := rising_len (a := 1) (b := 256) hs (fun x hx => by
    obtain ⟨z, hz⟩ := Option.isSome_iff_exists.1 ((hm x).1 hx)
    have := h.range x z hz
    have := h.room
    omega)
  omega
section
variable {F : Nat → Prop} {P N : Nat} {y : Lay} {t : PT}
theorem t_statS {i : Int} {x : PN} (w : World) (h : TreeM w F P N y t) (hx : t.n i = some x) :
    Calls Tryz.prog 26 #[.pointer (some ⟨P, 0, none⟩), .int .u32 i] w fun e w' => e = .returned (.tuple #[.agg #[.int .u32 i, .int .u8 x.kind, .int .i64 x.links, .int .u32 x.size], .int .i64 0]) ∧ Below w.heap.size w w' := by
  have hp := h.pos i x hx
  have := t_statP i w h ⟨by omega, by omega⟩
  unfold statR statP at this
  rw [hx] at this
  exact this
end
abbrev statC (i : Int) (x : PN) : Obj := .cells #[.int .u32 i, .int .u8 x.kind, .int .i64 x.links, .int .u32 x.size] 54
structure StatAt (w : World) (B : Nat) (i : Int) (x : PN) : Prop where
  c0 : w.cell? ⟨B, 0, none⟩ = some (.int .u32 i)
  c1 : w.cell? ⟨B, 1, none⟩ = some (.int .u8 x.kind)
  c2 : w.cell? ⟨B, 2, none⟩ = some (.int .i64 x.links)
  c3 : w.cell? ⟨B, 3, none⟩ = some (.int .u32 x.size)
  lt : B < w.heap.size
theorem StatAt.new (w : World) (i : Int) (x : PN) : StatAt (w.alloc (statC i x)) w.heap.size i x := by
  have e := heap_alloc_new w (statC i x)
  unfold statC at e ⊢
  refine ⟨?_, ?_, ?_, ?_, by simp⟩ <;> simp only [World.cell?, e] <;> rfl
theorem StatAt.below {w w' : World} {B : Nat} {i : Int} {x : PN} (h : StatAt w B i x) (hb : Below w.heap.size w w') : StatAt w' B i x :=
  have key : ∀ j, w'.cell? ⟨B, j, none⟩ = w.cell? ⟨B, j, none⟩ := fun j => hb.cell (p := ⟨B, j, none⟩) h.lt
  ⟨(key _).trans h.c0, (key _).trans h.c1, (key _).trans h.c2, (key _).trans h.c3, Nat.lt_of_lt_of_le h.lt hb.size⟩
section
variable {F1 F2 : Nat → Prop} {P1 P2 N : Nat} {y1 y2 : Lay} {t : PT}
set_option maxRecDepth 100000 in
set_option maxHeartbeats 8000000 in
theorem t_alike (w : World) (h1 : TreeM w F1 P1 N y1 t) (h2 : TreeM w F2 P2 N y2 t) (hW : WellP t) (hN : N ≤ 60000) :
    Calls Tryz.prog 22 #[.pointer (some ⟨P1, 0, none⟩), .pointer (some ⟨P2, 0, none⟩)] w fun e w' => e = .returned (.bool true) ∧ Below w.heap.size w w' := by
  have HT1 := Lib.hid h1
  have HT2 := Lib.hid h2
  have HW := Lib.hid hW
  have HN := Lib.hid hN
  have hne : ∃ i, (t.n i).isSome = true := by
    obtain ⟨x, hx, _⟩ := hW.root
    exact ⟨1, by rw [hx]; rfl⟩
  have HNE := Lib.hid hne
  clear h1 h2 hW hN hne
  go_enter Tryz.func22, Tryz.ntmps22
  go_wp2_with (go_at_call 21; first
    | (with_reducible refine (t_allP w HT1.out HN.out HNE.out).mono ?_
       rintro e w1 ⟨B1, c1, l1, rfl, hs1, hm1, hr1, hg1, hb1⟩
       have HS1 := Lib.hid hs1
       have HM1 := Lib.hid hm1
       have HR1 := Lib.hid hr1
       have HB1 := Lib.hid hb1
       clear hs1 hm1 hr1 hg1 hb1)
    | (with_reducible refine (t_allP w1 (HT2.out.below HB1.out) HN.out HNE.out).mono ?_
       rintro e w2 ⟨B2, c2, l2, rfl, hs2, hm2, hr2, hg2, hb2⟩
       obtain rfl := ints_unique HS1.out hs2 (fun x => (HM1.out x).trans (hm2 x).symm)
       have HR1' := Lib.hid (HR1.out.below hb2)
       have HR2 := Lib.hid hr2
       have HB2 := Lib.hid (ptrans HB1.out hb2)
       clear hs2 hm2 hr2 hg2 hb2))
  obtain ⟨n, hn⟩ : ∃ n, l1.length = n := ⟨_, rfl⟩
  have hn2 : n ≤ 256 := by rw [← hn]; exact all_len HW.out HS1.out HM1.out
  rw [hn]
  have HLN := Lib.hid hn
  have HT1' := Lib.hid (HT1.out.below HB2.out)
  have HT2' := Lib.hid (HT2.out.below HB2.out)
  clear hn HS1 HR1 HT1 HT2 HNE
  go_loopw [7] (fun v wr => ∃ k : Nat, v = .int .i64 (k : Int) ∧ k ≤ n ∧ Below w2.heap.size w2 wr) (fun v _ => n - (intOf v).toNat)
  case atStart => exact ⟨0, rfl, Nat.zero_le _, Below.refl _ _⟩
  case round =>
    obtain ⟨k, rfl, hk, hB⟩ := hrel
    have HB := Lib.hid hB
    clear hB
    by_cases he : k = n
    · go_wp2
      go_ret
      exact ⟨rfl, ptrans HB2.out HB.out⟩
    · have hk2 : k < n := by omega
      obtain ⟨i, hi⟩ : ∃ i, l1[k]? = some i := ⟨l1[k]'(by rw [HLN.out]; exact hk2), List.getElem?_eq_getElem _⟩
      obtain ⟨x, hx⟩ := Option.isSome_iff_exists.1 ((HM1.out i).1 (List.mem_of_getElem? hi))
      have HX := Lib.hid hx
      have hd : ∀ W, Below w2.heap.size w2 W → W.cell? ⟨B1, k, none⟩ = some (.int .u32 i) ∧ W.cell? ⟨B2, k, none⟩ = some (.int .u32 i) := fun W hW => ⟨(hW.cell (p := ⟨B1, _, none⟩) HR1'.out.lt).trans (HR1'.out.cell k i hi), (hW.cell (p := ⟨B2, _, none⟩) HR2.out.lt).trans (HR2.out.cell k i hi)⟩
      have HD := Lib.hid hd
      obtain ⟨d1, d2⟩ := hd wr HB.out
      have hpos := HT1'.out.pos i x hx
      have HU : Hid (U32 i) := ⟨by omega, by omega⟩
      clear hi hx he hd hpos
      go_wp2_with (first
        | (go_at_call 26; first
          | (with_reducible refine (t_statS wr (HT1'.out.below HB.out) HX.out).mono ?_
             rintro e w3 ⟨rfl, hb3⟩
             have hb3' : Below w2.heap.size w2 (w3.alloc (statC i x)) := ptrans (ptrans HB.out hb3) (u_alloc1 w3 _)
             have HB3 := Lib.hid hb3'
             have HS3 := Lib.hid (StatAt.new w3 i x)
             obtain ⟨d3, d4⟩ := HD.out _ hb3'
             unfold statC at d3 d4
             clear hb3 hb3' d1 d2)
          | (with_reducible refine (t_statS (w3.alloc (statC i x)) (HT2'.out.below HB3.out) HX.out).mono ?_
             rintro e w4 ⟨rfl, hb4⟩
             have hb4' : Below w2.heap.size w2 (w4.alloc (statC i x)) := ptrans (ptrans HB3.out hb4) (u_alloc1 w4 _)
             have HB4 := Lib.hid hb4'
             have HS4 := Lib.hid (StatAt.new w4 i x)
             have HS3' := Lib.hid (HS3.out.below (ptrans hb4 (u_alloc1 w4 (statC i x))))
             obtain ⟨d5, d6⟩ := HD.out _ hb4'
             unfold statC at d5 d6
             clear hb4 hb4' d3 d4))
        | (go_at_call 29; first
          | (with_reducible refine (t_listP i (w4.alloc (statC i x)) (HT1'.out.below HB4.out) HU.out HN.out).mono ?_
             rintro e w5 ⟨A1, k1, L1, rfl, hL1, hn1, hE1, hb5, _⟩
             have HL1 := Lib.hid hL1
             have HN1 := Lib.hid hn1
             have HE1 := Lib.hid hE1
             have hb5' := ptrans HB4.out hb5
             have HB5 := Lib.hid hb5'
             have HS5 := Lib.hid (HS3'.out.below hb5)
             have HS6 := Lib.hid (HS4.out.below hb5)
             obtain ⟨d7, d8⟩ := HD.out _ hb5'
             clear hL1 hn1 hE1 hb5 hb5' d5 d6)
          | (with_reducible refine (t_listP i w5 (HT2'.out.below HB5.out) HU.out HN.out).mono ?_
             rintro e w6 ⟨A2, k2, L2, rfl, hL2, hn2, hE2, hb6, _⟩
             obtain rfl := ents_unique HL1.out hL2
             have HE2 := Lib.hid hE2
             have HE1' := Lib.hid (HE1.out.below hb6)
             have hb6' := ptrans HB5.out hb6
             have HB6 := Lib.hid hb6'
             have HS7 := Lib.hid (HS5.out.below hb6)
             have HS8 := Lib.hid (HS6.out.below hb6)
             obtain ⟨d9, d10⟩ := HD.out _ hb6'
             clear hL2 hn2 hE2 hb6 hb6' d7 d8 HS3 HS4 HS3' HS5 HS6 HB3 HB4 HB5 HE1)))
      obtain ⟨e0, e1, e2, e3, _⟩ := HS7.out
      obtain ⟨f0, f1, f2, f3, _⟩ := HS8.out
      have HT6 := Lib.hid (HT1'.out.below HB6.out)
      have HT6' := Lib.hid (HT2'.out.below HB6.out)
      go_quiet (first
        | (go_at_call 67; refine Calls.quiet_of (r_same A1 A2 k1 k2 L1 _ (HE1'.out.below (pbelow_drewN (Below.refl _ _) _)) (HE2.out.below (pbelow_drewN (Below.refl _ _) _)) HN1.out))
        | (go_at_call 33; first
          | exact quiet_eq (t_heldP i _ (HT6.out.below (pbelow_drewN (Below.refl _ _) _)) HU.out)
          | exact quiet_eq (t_heldP i _ (HT6'.out.below (pbelow_drewN (Below.refl _ _) _)) HU.out)))
      generalize hw7 : w6.drewN nq = w7
      have hB7 : Below w2.heap.size w2 w7 := by rw [← hw7]; exact pbelow_drewN HB6.out _
      have hS7 : StatAt w7 w3.heap.size i x := by rw [← hw7]; exact HS7.out.below (pbelow_drewN (Below.refl _ _) _)
      have HB7 := Lib.hid hB7
      have HS9 := Lib.hid hS7
      have hok := HW.out.pages i x HX.out
      have hsx := hok.size
      have HOK := Lib.hid (fun z (hz : t.n i = some z) => HW.out.pages i z hz)
      clear hw7 hB7 hS7 HS7 HS8 e0 e1 e2 e3 f0 f1 f2 f3 HT6 HT6' HE1' HE2 HB6 HN1 HL1 d9 d10 hok
      go_wp2
      go_loopw [16] (fun v W => ∃ m : Nat, v = .int .i64 (m : Int) ∧ m ≤ 36 ∧ Below w7.heap.size w7 W) (fun v _ => 37 - (intOf v).toNat)
      case atStart => exact ⟨0, rfl, Nat.zero_le _, Below.refl _ _⟩
      case round =>
        obtain ⟨m, rfl, hm, hBm⟩ := hrel
        have HBM := Lib.hid (ptrans HB7.out hBm)
        have HBM7 := Lib.hid hBm
        obtain ⟨_, _, _, e3, _⟩ := HS9.out.below hBm
        clear hBm
        have hw32 : IntKind.u32.wrap ((m : Int) * 64) = (m : Int) * 64 := IntWalk.u32_in _ (by omega)
        by_cases hlt : (m : Int) * 64 < x.size
        · obtain ⟨d1, d2⟩ := HD.out _ HBM.out
          have hw64 : IntKind.i64.wrap ((m : Int) * 64) = (m : Int) * 64 := IntWalk.i64_in _ (by omega)
          have hm36 : m < 36 := by omega
          go_wp2_with (go_at_call 28; first
            | (with_reducible refine (t_readP i (m : Int) wr (HT1'.out.below HBM.out) HU.out HOK.out).mono ?_
               rintro e w8 ⟨rfl, hb8⟩
               have hb8' := ptrans HBM.out hb8
               have HB8 := Lib.hid hb8'
               have HB8' := Lib.hid hb8
               obtain ⟨d3, d4⟩ := HD.out _ hb8'
               clear hb8 hb8' d1 d2)
            | (with_reducible refine (t_readP i (m : Int) w8 (HT2'.out.below HB8.out) HU.out HOK.out).mono ?_
               rintro e w9 ⟨rfl, hb9⟩
               have HB9 := Lib.hid (ptrans HB8'.out hb9)
               clear hb9 d3 d4))
          go_roundw
          case rel => exact ⟨m + 1, by go_num, by omega, ptrans HBM7.out HB9.out⟩
          case measure => simp [intOf]; omega
        · go_wp2
          go_roundw
          case rel => exact ⟨k + 1, by go_num, by omega, HBM.out⟩
          case measure => simp [intOf]; omega
end
end Go.Proofs.YtpcjbfhgmcioaaaGreat
