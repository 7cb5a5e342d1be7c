/- Two lists of entries that are the same. -/
import Derived.Test.YtogljgiefmfafaaGreatPb02
import Derived.Test.YtogljgiefmfafaaGreatPb08
import Derived.Test.YtogljgiefmfafaaGreatPb12
import Derived.Test.YtogljgiefmfafaaGreatPb14
namespace Go.Proofs.YtogljgiefmfafaaGreat
section
open Go.RowKit Go.Maps
section
variable {F : Nat → Prop} {P N : Nat} {y : Lay} {t : PT}
set_option maxRecDepth 100000 in
set_option maxHeartbeats 1000000 in
theorem r_same (A1 A2 : Option Addr) (c1 c2 : Nat) (L : List E) (w : World) (h1 : EntsAt w A1 L) (h2 : EntsAt w A2 L) (hn : L.length ≤ 60000) :
  Calls Tryz.prog 38 #[.slice A1 L.length c1, .slice A2 L.length c2] w fun e w' => e = .returned (.bool true) ∧ ∃ m, w' = w.drewN m := by
 obtain ⟨n, hL⟩ : ∃ n, L.length = n := ⟨_, rfl⟩
 rw [hL] at hn ⊢
 have HL := zz hL
 have H1 := zz h1
 have H2 := zz h2
 clear h1 h2 hL
 go_enter Tryz.func38, Tryz.ntmps38
 go_wp2
 go_loopw [5] (fun v wr => ∃ k : Nat, v = .int .i64 (k : Int) ∧ k ≤ n ∧ ∃ m, wr = w.drewN m) (fun v _ => n - (intOf v).toNat)
 case atStart => exact ⟨0, rfl, Nat.zero_le _, 0, rfl⟩
 case round =>
  obtain ⟨k, rfl, hk, m0, hm0⟩ := hrel
  have HB : Hid (Below w.heap.size w wr) := by rw [hm0]; exact pbelow_drewN (Below.refl _ _) m0
  have HM := zz hm0
  clear hm0
  by_cases he : k = n
  · go_wp2
    go_ret
    exact ⟨rfl, m0, HM.out⟩
  · have hk2 : k < n := by omega
    obtain ⟨b1, rfl, hl1, e1⟩ := H1.out.at_ (by rw [HL.out]; omega)
    obtain ⟨b2, rfl, hl2, e2⟩ := H2.out.at_ (by rw [HL.out]; omega)
    obtain ⟨⟨s, i⟩, hx⟩ : ∃ x, L[k]? = some x := ⟨L[k]'(by rw [HL.out]; exact hk2), List.getElem?_eq_getElem _⟩
    obtain ⟨a1, a2⟩ := e1 k _ hx
    obtain ⟨a3, a4⟩ := e2 k _ hx
    have d1 := (HB.out.cell (p := ⟨b1, _, none⟩) hl1).trans a1
    have d2 := (HB.out.cell (p := ⟨b1, _, none⟩) hl1).trans a2
    have d3 := (HB.out.cell (p := ⟨b2, _, none⟩) hl2).trans a3
    have d4 := (HB.out.cell (p := ⟨b2, _, none⟩) hl2).trans a4
    clear e1 e2 a1 a2 a3 a4 hx hl1 hl2 he
    go_wp2
    go_quiet (fail)
    generalize hw2 : wr.drewN _ = w2
    have HM2 : Hid (∃ m, w2 = w.drewN m) := ⟨_, by rw [← hw2, HM.out, World.drewN_drewN]⟩
    clear hw2
    go_wp2
    go_roundw
    case rel => exact ⟨k + 1, by go_num, by omega, HM2.out⟩
    case measure => simp [intOf]; omega
end
end
section
open Go.RowKit Go.Maps
theorem sorted_unique {α : Type} {r : α → α → Prop} (hi : ∀ a b, r a b → r b a → False) : ∀ {l m : List α}, l.Pairwise r → m.Pairwise r → (∀ x, x ∈ l ↔ x ∈ m) → l = m
 | [], [], _, _, _ => rfl
 | [], b :: m, _, _, h => absurd ((h b).2 (by simp)) (by simp)
 | a :: l, [], _, _, h => absurd ((h a).1 (by simp)) (by simp)
 | a :: l, b :: m, h1, h2, h => by
  rw [List.pairwise_cons] at h1 h2
  have e : a = b := by
   rcases List.mem_cons.1 ((h a).1 (by simp)) with e | ha
   · exact e
   · rcases List.mem_cons.1 ((h b).2 (by simp)) with e | hb
     · exact e.symm
     · exact (hi a b (h1.1 b hb) (h2.1 a ha)).elim
  subst e
  rw [sorted_unique hi h1.2 h2.2 (fun x => ?_)]
  constructor
  · intro hx
    rcases List.mem_cons.1 ((h x).1 (List.mem_cons_of_mem _ hx)) with e | h3
    · subst e
      exact (hi x x (h1.1 x hx) (h1.1 x hx)).elim
    · exact h3
  · intro hx
    rcases List.mem_cons.1 ((h x).2 (List.mem_cons_of_mem _ hx)) with e | h3
    · subst e
      exact (hi x x (h2.1 x hx) (h2.1 x hx)).elim
    · exact h3
theorem ents_unique {l : List UInt8 → Option Int} {L1 L2 : List E} (h1 : EntsOf l L1) (h2 : EntsOf l L2) : L1 = L2 := by
 have ext : ∀ a b : E, nameL a = nameL b → a.2 = b.2 → a = b := fun a b e1 e2 => by
  obtain ⟨⟨⟨a1⟩⟩, a2⟩ := a
  obtain ⟨⟨⟨b1⟩⟩, b2⟩ := b
  simp only [nameL] at e1 e2
  subst e2
  have : a1 = b1 := by simpa using e1
  subst this
  rfl
 refine sorted_unique (r := fun a b => nameL a < nameL b) (fun a b x y => List.lt_irrefl _ (List.lt_trans x y)) h1.sorted h2.sorted fun x => ?_
 constructor
 · intro hx
   obtain ⟨z, hz, e1, e2⟩ := (h2.mem (nameL x) x.2).2 ((h1.mem (nameL x) x.2).1 ⟨x, hx, rfl, rfl⟩)
   rw [← ext z x e1 e2]
   exact hz
 · intro hx
   obtain ⟨z, hz, e1, e2⟩ := (h1.mem (nameL x) x.2).2 ((h2.mem (nameL x) x.2).1 ⟨x, hx, rfl, rfl⟩)
   rw [← ext z x e1 e2]
   exact hz
theorem ints_unique {l m : List Int} (h1 : l.Pairwise (· < ·)) (h2 : m.Pairwise (· < ·)) (h : ∀ x, x ∈ l ↔ x ∈ m) : l = m :=
 sorted_unique (r := fun a b => a < b) (fun a b x y => by omega) h1 h2 h
theorem rising_len : ∀ {l : List Int} {a b : Int}, l.Pairwise (· < ·) → (∀ x ∈ l, a ≤ x ∧ x ≤ b) → (l.length : Int) ≤ max 0 (b - a + 1)
 | [], _, _, _, _ => by simp; omega
 | c :: l, a, b, h, hb => by
  rw [List.pairwise_cons] at h
  have h1 := hb c (by simp)
  have := rising_len (l := l) (a := c + 1) (b := b) h.2 (fun x hx => ⟨by have := h.1 x hx; omega, (hb x (List.mem_cons_of_mem _ hx)).2⟩)
  simp only [List.length_cons]
  omega
theorem all_len {t : PT} (h : WellP t) {l : List Int} (hs : l.Pairwise (· < ·)) (hm : ∀ i, i ∈ l ↔ (t.n i).isSome = true) : l.length ≤ 256 := by
 have := rising_len (a := 1) (b := 256) hs (fun x hx => by
  obtain ⟨z, hz⟩ := Option.isSome_iff_exists.1 ((hm x).1 hx)
  have := h.range x z hz
  have := h.room
  omega)
 omega
end
end Go.Proofs.YtogljgiefmfafaaGreat
