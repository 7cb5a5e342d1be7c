/- The program's tree, plain: Rename, and that it leaves the tree well. -/
import Derived.Test.YtpcjbfhgmcioaaaGreatQ1
namespace Go.Proofs.YtpcjbfhgmcioaaaGreat
open Go.RowKit Go.Maps

variable {t : PT}
theorem PT.ext' {t u : PT} (h1 : t.room = u.room) (h2 : ∀ j, t.n j = u.n j) : t = u := by
  cases t; cases u
  simp only at h1 h2
  subst h1
  congr 1
  funext j
  exact h2 j
/-- Of one that ends below, so many steps tell. -/
theorem belowP_ends {top : Int} : ∀ (k n : Nat) (j : Int), Ends t k j → belowP t top n j = true → belowP t top k j = true
  | 0, n, j, h, hb => by
    have : j = 0 := h
    subst this
    rw [belowP_zero] at hb; cases hb
  | k + 1, 0, j, h, hb => by cases hb
  | k + 1, n + 1, j, h, hb => by
    unfold belowP at hb ⊢
    by_cases h0 : j = 0
    · rw [if_pos h0] at hb; cases hb
    · rw [if_neg h0] at hb ⊢
      by_cases h1 : j = top
      · rw [if_pos h1]
      · rw [if_neg h1] at hb ⊢
        have h2 : j = 0 ∨ ((t.n j).isSome = true ∧ Ends t k (upAt t j)) := h
        exact belowP_ends k n _ (h2.resolve_left h0).2 hb
theorem WellP.ends_at (h : WellP t) {b : Int} {xb : PN} (hb : t.n b = some xb) (hk : xb.kind = 2) : ∃ k, Ends t k b := by
  obtain ⟨r, hr⟩ := h.ends
  exact ⟨r b + 1, hr _ b (.inr ⟨xb, hb, hk, by omega⟩)⟩
theorem bel_ends {top : Int} {k : Nat} {j : Int} (h : Ends t k j) : belowP t top k j = true ↔ Bel t top j :=
  ⟨fun e => ⟨k, e⟩, fun ⟨n, e⟩ => belowP_ends k n j h e⟩
/-- Fewer ways up. -/
theorem bel_sub {u : PT} {top : Int} (hu : ∀ j z, u.n j = some z → ∃ z0, t.n j = some z0 ∧ z.up = z0.up) : ∀ (n : Nat) (j : Int), belowP u top n j = true → belowP t top n j = true
  | 0, j, h => by cases h
  | n + 1, j, h => by
    unfold belowP at h ⊢
    by_cases h0 : j = 0
    · rw [if_pos h0] at h; cases h
    · rw [if_neg h0] at h ⊢
      by_cases h1 : j = top
      · rw [if_pos h1]
      · rw [if_neg h1] at h ⊢
        cases hj : u.n j with
        | none =>
          have e : upAt u j = 0 := by unfold upAt; rw [hj]
          rw [e, belowP_zero] at h; cases h
        | some z =>
          obtain ⟨z0, hz0, hup⟩ := hu j z hj
          have e : upAt u j = upAt t j := by unfold upAt; rw [hj, hz0]; exact hup
          rw [e] at h
          exact bel_sub hu n _ h

section
variable {a b i : Int} {s s2 : ByteArray} {xa xb y : PN}
/-- A file's entry goes elsewhere. -/
theorem WellP.mvfile (h : WellP t) (ha : t.n a = some xa) (hl : xa.l s.data.toList = some i) (hi : t.n i = some y) (hk : y.kind = 1) (hb : t.n b = some xb) (hbk : xb.kind = 2) (hf : xb.l s2.data.toList = none) {xb3 : PN} (h3 : (leaveT t a xa s i y).n b = some xb3) :
    WellP (enterT (leaveT t a xa s i y) b xb3 s2 i (outN y)) := by
  obtain ⟨hak, hi1, hia, y', hy', _⟩ := h.ent a xa _ i ha hl
  rw [hi] at hy'
  cases hy'
  have hib : i ≠ b := fun e => by rw [← e, hi] at hb; cases hb; omega
  have hout : outN y = { y with links := y.links - 1 } := by unfold outN; rw [if_neg (by omega)]
  have hheld := h.held i y hi
  have hmost := h.most i y hi
  obtain ⟨y1, hy1⟩ : ∃ y1 : PN, y1 = { y with held := y.held + 1 } := ⟨_, rfl⟩
  have hk1 : y1.kind = 1 := by rw [hy1]; exact hk
  have hout1 : outN y1 = { y with held := y.held + 1, links := y.links - 1 } := by unfold outN; rw [if_neg (by omega), hy1]
  have w1 : WellP (t.set i y1) := by
    rw [hy1]
    exact h.put hi rfl rfl rfl rfl (by show 0 ≤ y.held + 1; omega) (fun c => by omega) (fun _ _ => by show 0 < y.held + 1; omega) ⟨(h.pages i y hi).len, (h.pages i y hi).size⟩
  have ha1 : (t.set i y1).n a = some xa := by rw [PT.set_n, if_neg (fun e => hia e.symm)]; exact ha
  have hi1' : (t.set i y1).n i = some y1 := by rw [PT.set_n, if_pos rfl]
  have w2 := w1.drop ha1 hl hi1' (fun c => by omega)
  have hg : goneB i (outN y1) = false := by
    unfold goneB
    have : ((outN y1).held == 0) = false := by rw [hout1]; simp; omega
    rw [this]
    simp
  have e2 : dropT (t.set i y1) a xa s i y1 = leaveT (t.set i y1) a xa s i y1 := by
    unfold dropT freeP
    rw [hg]
    rfl
  rw [e2] at w2
  have hb2 : (leaveT (t.set i y1) a xa s i y1).n b = some xb3 := by
    rw [leave_n hia] at h3 ⊢
    by_cases c : b = a
    · rw [if_pos c] at h3 ⊢; exact h3
    · rw [if_neg c, if_neg (fun e => hib e.symm)] at h3 ⊢
      rw [PT.set_n, if_neg (fun e => hib e.symm)]; exact h3
  have hxb3 : xb3.kind = 2 ∧ xb3.l s2.data.toList = none := by
    rw [leave_n hia] at h3
    by_cases c : b = a
    · rw [if_pos c] at h3
      cases h3
      rw [c, ha] at hb
      cases hb
      refine ⟨hbk, ?_⟩
      show (if s2.data.toList = s.data.toList then none else xa.l s2.data.toList) = none
      split
      · rfl
      · exact hf
    · rw [if_neg c, if_neg (fun e => hib e.symm), hb] at h3
      cases h3
      exact ⟨hbk, hf⟩
  have hi2 : (leaveT (t.set i y1) a xa s i y1).n i = some (outN y1) := by rw [leave_n hia, if_neg hia, if_pos rfl]
  have w3 := w2.link (s := s2) hb2 hxb3.1 hxb3.2 hi2 (by rw [hout1]; exact hk) (by rw [hout1]; show y.links - 1 < 1000000; omega)
  have hi3 : (enterT (leaveT (t.set i y1) a xa s i y1) b xb3 s2 i (outN y1)).n i = some (inN (outN y1) b) := by rw [enter_n, if_pos rfl]
  have hin1 : inN (outN y1) b = { y with held := y.held + 1, links := y.links - 1 + 1 } := by
    rw [hout1]; unfold inN; rw [if_neg (by show ¬ y.kind = 2; omega)]
  have hin : inN (outN y) b = { y with links := y.links - 1 + 1 } := by
    rw [hout]; unfold inN; rw [if_neg (by show ¬ y.kind = 2; omega)]
  rw [hin1] at hi3
  have w4 := w3.put (x' := { y with links := y.links - 1 + 1 }) hi3 rfl rfl rfl rfl hheld (fun c => by have c' : y.kind = 2 := c; omega)
    (fun _ c => by have c' : y.links - 1 + 1 = 0 := c; exact h.there i y hi hk (by omega)) ⟨(h.pages i y hi).len, (h.pages i y hi).size⟩
  have e : (enterT (leaveT (t.set i y1) a xa s i y1) b xb3 s2 i (outN y1)).set i { y with links := y.links - 1 + 1 } = enterT (leaveT t a xa s i y) b xb3 s2 i (outN y) := by
    refine PT.ext' rfl fun j => ?_
    rw [PT.set_n, enter_n, enter_n, leave_n hia, leave_n hia, PT.set_n, hin]
    by_cases c : j = i
    · rw [if_pos c, if_pos c]
    · rw [if_neg c, if_neg c, if_neg c, if_neg c, if_neg c, if_neg c]
  rw [← e]
  exact w4

def moveT (t : PT) (a : Int) (s : ByteArray) (b : Int) (s2 : ByteArray) (i : Int) : PT := match t.n a, t.n i with
  | some xa, some xi => match (leaveT t a xa s i xi).n b with
    | some xb => enterT (leaveT t a xa s i xi) b xb s2 i (outN xi)
    | none => t
  | _, _ => t
theorem WellP.move (h : WellP t) (ha : t.n a = some xa) (hl : xa.l s.data.toList = some i) (hi : t.n i = some y) (hb : t.n b = some xb) (hbk : xb.kind = 2) (hf : xb.l s2.data.toList = none) (hnb : y.kind = 2 → ¬ Bel t i b) :
    WellP (moveT t a s b s2 i) ∧ ∃ xb3, MoveOk t a s b s2 i (moveT t a s b s2 i) xa y xb3 (outN y) := by
  obtain ⟨hak, hi1, hia, y', hy', _⟩ := h.ent a xa _ i ha hl
  rw [hi] at hy'
  cases hy'
  have hi0 : i ≠ 0 := fun e => by have := (h.range i y hi).1; omega
  have hib : i ≠ b := fun e => by
    rw [← e, hi] at hb; cases hb
    exact hnb hbk (e ▸ bel_self hi0)
  have h3 : ∃ xb3, (leaveT t a xa s i y).n b = some xb3 := by
    rw [leave_n hia]
    by_cases c : b = a
    · exact ⟨_, if_pos c⟩
    · exact ⟨xb, by rw [if_neg c, if_neg (fun e => hib e.symm)]; exact hb⟩
  obtain ⟨xb3, h3⟩ := h3
  have e : moveT t a s b s2 i = enterT (leaveT t a xa s i y) b xb3 s2 i (outN y) := by
    unfold moveT
    rw [ha, hi]
    simp only
    rw [h3]
  have hmost := h.most i y hi
  have hm : 0 ≤ (outN y).links ∧ (outN y).links ≤ 1000000 := by
    unfold outN
    split
    · exact hmost
    · rename_i hk
      obtain ⟨L, n1, n2, n3⟩ := h.links i y hi ((h.kind i y hi).resolve_right hk)
      have l2 := List.length_pos_of_mem ((n2 (a, s.data.toList)).2 ⟨xa, ha, hl⟩)
      show 0 ≤ y.links - 1 ∧ y.links - 1 ≤ 1000000
      omega
  refine ⟨?_, xb3, ha, hl, hi, hia, hmost, h3, ?_, hib, hm, e⟩
  · rw [e]
    rcases h.kind i y hi with hk | hk
    · exact h.mvfile ha hl hi hk hb hbk hf h3
    · exact h.mvdir ha hl hi hk hb hbk hf (hnb hk) h3
  · rw [leave_n hia, if_neg hia, if_pos rfl]
end

open Classical in
noncomputable def renameP (t : PT) (a : Int) (s : ByteArray) (b : Int) (s2 : ByteArray) : Int × PT :=
  if firstE [namesE [s, s2], thereE t [a, b], dirsE t [a, b]] ≠ 0 then (firstE [namesE [s, s2], thereE t [a, b], dirsE t [a, b]], t)
  else if (lookP t a s).2 ≠ 0 then ((lookP t a s).2, t)
  else match t.n (lookP t a s).1, t.n b with
    | some xi, some xb =>
      if xi.kind = 2 ∧ Bel t (lookP t a s).1 b then (183, t)
      else match xb.l s2.data.toList with
        | none => (0, moveT t a s b s2 (lookP t a s).1)
        | some old =>
          if old = (lookP t a s).1 then (0, t)
          else match t.n old with
            | some xo => if givesE xi xo ≠ 0 then (givesE xi xo, t) else (0, moveT (dropT t b xb s2 old xo) a s b s2 (lookP t a s).1)
            | none => (0, t)
    | _, _ => (0, t)
theorem gives_zero {x old : PN} (h : givesE x old = 0) : (old.kind = 2 ↔ x.kind = 2) ∧ ∀ k, old.l k = none := by
  unfold givesE at h
  split at h
  · cases h
  · rename_i h1
    split at h
    · cases h
    · rename_i h2
      split at h
      · rename_i h3
        refine ⟨?_, emptyB_iff.1 h3⟩
        simp at h1 h2
        exact ⟨h1, fun c => Decidable.byContradiction fun d => h2 d c⟩
      · cases h
theorem rename_dirs {t : PT} {a b : Int} {s s2 : ByteArray} (h : firstE [namesE [s, s2], thereE t [a, b], dirsE t [a, b]] = 0) : ∃ xa xb, t.n a = some xa ∧ t.n b = some xb ∧ xa.kind = 2 ∧ xb.kind = 2 := by
  obtain ⟨_, h⟩ := firstE_cons h
  obtain ⟨z2, h⟩ := firstE_cons h
  obtain ⟨z3, _⟩ := firstE_cons h
  have hall := there_all z2
  obtain ⟨xa, hxa⟩ := Option.isSome_iff_exists.1 (hall a (by simp))
  obtain ⟨xb, hxb⟩ := Option.isSome_iff_exists.1 (hall b (by simp))
  exact ⟨xa, xb, hxa, hxb, dirs_zero z3 (by simp) hxa, dirs_zero z3 (by simp) hxb⟩
/-- What stands behind what another entry's going leaves. -/
structure Over (t : PT) (a : Int) (s : ByteArray) (b : Int) (s2 : ByteArray) (ino old : Int) (xb xo : PN) (xa1 xi1 xb1 : PN) : Prop where
  well : WellP (dropT t b xb s2 old xo)
  na : (dropT t b xb s2 old xo).n a = some xa1
  ent : xa1.l s.data.toList = some ino
  ni : (dropT t b xb s2 old xo).n ino = some xi1
  nb : (dropT t b xb s2 old xo).n b = some xb1
  kind : xb1.kind = 2
  free : xb1.l s2.data.toList = none
  loop : xi1.kind = 2 → ¬ Bel (dropT t b xb s2 old xo) ino b
theorem WellP.over (h : WellP t) {a b ino old : Int} {s s2 : ByteArray} {xa xi xb xo : PN} (ha : t.n a = some xa) (hl : xa.l s.data.toList = some ino) (hi : t.n ino = some xi) (hb : t.n b = some xb) (hbk : xb.kind = 2) (ho : xb.l s2.data.toList = some old) (hoi : old ≠ ino) (hxo : t.n old = some xo)
    (hg : givesE xi xo = 0) (hnb : xi.kind = 2 → ¬ Bel t ino b) : ∃ xa1 xi1 xb1, Over t a s b s2 ino old xb xo xa1 xi1 xb1 := by
  obtain ⟨hg1, hg2⟩ := gives_zero hg
  have hw := h.drop hb ho hxo (fun _ => hg2)
  obtain ⟨_, _, hob, _⟩ := h.ent b xb _ old hb ho
  have hE := drop_ent (s := s2) hob hb hxo (fun _ => hg2)
  have hentA : Ent (dropT t b xb s2 old xo) a s.data.toList ino := (hE _ _ _).2 ⟨⟨xa, ha, hl⟩, fun c => by
    obtain ⟨c1, c2⟩ := c
    have e1 : Ent t b s2.data.toList ino := by rw [← c1, ← c2]; exact ⟨xa, ha, hl⟩
    have e2 : Ent t b s2.data.toList old := ⟨xb, hb, ho⟩
    exact hoi (e2.fun_ e1)⟩
  obtain ⟨xa1, ha1, hl1⟩ := hentA
  have hio : ino ≠ b := fun e => by
    have hi0 : ino ≠ 0 := fun e => by have := (h.range ino xi hi).1; omega
    rw [e, hb] at hi
    cases hi
    exact hnb hbk (e ▸ bel_self hi0)
  have hi1 : (dropT t b xb s2 old xo).n ino = some xi := by rw [drop_n hob, if_neg hio, if_neg (fun e => hoi e.symm)]; exact hi
  have hb1 : (dropT t b xb s2 old xo).n b = some { xb with l := delL xb.l s2.data.toList } := by rw [drop_n hob, if_pos rfl]
  refine ⟨xa1, xi, _, hw, ha1, hl1, hi1, hb1, hbk, ?_, ?_⟩
  · show (if s2.data.toList = s2.data.toList then none else xb.l s2.data.toList) = none
    rw [if_pos rfl]
  · intro hk ⟨n, hn⟩
    have hok : xo.kind = 2 := hg1.2 hk
    have hgone : goneB old (outN xo) = true := by
      obtain ⟨_, ho1, _⟩ := h.ent b xb _ old hb ho
      have hh := (h.dirs old xo hxo hok).2
      unfold goneB outN
      rw [if_pos hok]
      simp [ho1, hh, hok]
    refine hnb hk ⟨n, bel_sub (t := t) (fun j z hz => ?_) n b hn⟩
    rw [drop_n hob] at hz
    by_cases c : j = b
    · rw [if_pos c] at hz
      cases hz
      exact ⟨xb, c ▸ hb, rfl⟩
    · rw [if_neg c] at hz
      by_cases c2 : j = old
      · rw [if_pos c2, if_pos hgone] at hz; cases hz
      · rw [if_neg c2] at hz
        exact ⟨z, hz, rfl⟩
theorem WellP.renameP_ (h : WellP t) (a : Int) (s : ByteArray) (b : Int) (s2 : ByteArray) : WellP (renameP t a s b s2).2 := by
  unfold renameP
  split
  · exact h
  · rename_i h1
    obtain ⟨xa, xb, ha, hb, hak, hbk⟩ := rename_dirs (Decidable.not_not.1 h1)
    split
    · exact h
    · rename_i h2
      obtain ⟨xd, xi, g1, g2, g3, g4, _⟩ := look_okP h.good (Decidable.not_not.1 h2)
      rw [ha] at g1
      cases g1
      rw [g3, hb]
      simp only
      split
      · exact h
      · rename_i h3
        cases ho : xb.l s2.data.toList with
        | none => exact (h.move ha g2 g3 hb hbk ho (fun hk hB => h3 ⟨hk, hB⟩)).1
        | some old =>
          simp only
          split
          · exact h
          · rename_i h4
            obtain ⟨_, _, _, xo, hxo, _⟩ := h.ent b xb _ old hb ho
            rw [hxo]
            simp only
            split
            · exact h
            · rename_i h5
              obtain ⟨xa1, xi1, xb1, o⟩ := h.over ha g2 g3 hb hbk ho h4 hxo (Decidable.not_not.1 h5) (fun hk hB => h3 ⟨hk, hB⟩)
              exact (o.well.move o.na o.ent o.ni o.nb o.kind o.free o.loop).1
end Go.Proofs.YtpcjbfhgmcioaaaGreat

/- The program's tree: Rename, of a tree that is well. -/
namespace Go.Proofs.YtpcjbfhgmcioaaaGreat
open Go.RowKit Go.Maps

variable {F : Nat → Prop} {P N : Nat} {y : Lay} {t : PT}
theorem became_below {w w' : World} {N' : Nat} (h : TreeM w F P N y t) (hN : N ≤ N') (hb : Below w.heap.size w w') : Became w w' F P N' t := ⟨y, F, (h.below hb).mono hN, Turn.of_below F hb⟩
theorem Became.mono {w w' : World} {N' : Nat} (h : Became w w' F P N t) (hN : N ≤ N') : Became w w' F P N' t := by
  obtain ⟨y', F', h1, h2⟩ := h
  exact ⟨y', F', h1.mono hN, h2⟩
theorem t_renameP (a : Int) (s : ByteArray) (b : Int) (s2 : ByteArray) (r : Int) (t' : PT) (hr : renameP t a s b s2 = (r, t')) (w : World) (h : TreeM w F P N y t) (hW : WellP t) (ha : U32 a) (hb : U32 b) (hs : s.size ≤ maxLen) (hs2 : s2.size ≤ maxLen) (hN : N < 900000) :
    Calls Tryz.prog 24 #[.pointer (some ⟨P, 0, none⟩), .int .u32 a, .string s, .int .u32 b, .string s2] w fun e w' => e = .returned (.int .i64 r) ∧ Became w w' F P (N + 1) t' := by
  unfold renameP at hr
  by_cases h1 : firstE [namesE [s, s2], thereE t [a, b], dirsE t [a, b]] ≠ 0
  · rw [if_pos h1] at hr
    cases hr
    exact (t_rename1 a s b s2 _ w h ha hb hs hs2 rfl h1).mono fun e w' hp => ⟨hp.1, became_below h (Nat.le_succ _) hp.2⟩
  · rw [if_neg h1] at hr
    have h1' := Decidable.not_not.1 h1
    obtain ⟨xa, xb, hxa, hxb, hak, hbk⟩ := rename_dirs h1'
    by_cases h2 : (lookP t a s).2 ≠ 0
    · rw [if_pos h2] at hr
      cases hr
      exact (t_rename2 a s b s2 _ _ w h ha hb hs hs2 h1' rfl h2).mono fun e w' hp => ⟨hp.1, became_below h (Nat.le_succ _) hp.2⟩
    · rw [if_neg h2] at hr
      have h2' := Decidable.not_not.1 h2
      obtain ⟨xd, xi, g1, g2, g3, g4, g5, g6, _⟩ := look_okP hW.good h2'
      obtain ⟨ino, hino⟩ : ∃ ino, (lookP t a s).1 = ino := ⟨_, rfl⟩
      have hlk : lookP t a s = (ino, 0) := Prod.ext hino h2'
      rw [hino] at g2 g3 g4 g5 g6 hr
      rw [hxa] at g1
      cases g1
      rw [g3, hxb] at hr
      simp only at hr
      obtain ⟨k, hk⟩ := hW.ends_at hxb hbk
      by_cases h3 : xi.kind = 2 ∧ Bel t ino b
      · rw [if_pos h3] at hr
        cases hr
        exact (t_renameLoop a s b s2 ino xi k w h ha hb hs hs2 h1' hlk g3 (by rw [h3.1]; rfl) hk ((bel_ends hk).2 h3.2)).mono fun e w' hp => ⟨hp.1, became_below h (Nat.le_succ _) hp.2⟩
      · rw [if_neg h3] at hr
        have hnb : xi.kind = 2 → ¬ Bel t ino b := fun hk hB => h3 ⟨hk, hB⟩
        have hBl : (xi.kind == 2) = true → Ends t k b ∧ belowP t ino k b = false := fun c => ⟨hk, by
          have := hnb (by simpa using c)
          rw [← bel_ends hk] at this
          simpa using this⟩
        cases ho : xb.l s2.data.toList with
        | none =>
          rw [ho] at hr
          simp only at hr
          cases hr
          obtain ⟨_, xb3, hm⟩ := hW.move hxa g2 g3 hxb hbk ho hnb
          exact t_rename4 a s b s2 ino xi xb _ _ _ _ k _ w h ha hb hs hs2 hN h1' hlk g3 hBl hxb (by rw [ho]; rfl) hm
        | some old =>
          rw [ho] at hr
          simp only at hr
          obtain ⟨_, ho1, hob, xo, hxo, _⟩ := hW.ent b xb _ old hxb ho
          have hor := hW.range old xo hxo
          by_cases h4 : old = ino
          · rw [if_pos h4] at hr
            cases hr
            exact (t_rename5 a s b s2 ino xi xb k w h ha hb hs hs2 h1' hlk g3 hBl hxb (by rw [ho]; exact h4) (by omega)).mono fun e w' hp => ⟨hp.1, became_below h (Nat.le_succ _) hp.2⟩
          · rw [if_neg h4, hxo] at hr
            simp only at hr
            by_cases h5 : givesE xi xo ≠ 0
            · rw [if_pos h5] at hr
              cases hr
              exact (t_rename6 a s b s2 ino old xi xb xo k _ w h ha hb hs hs2 h1' hlk g3 hBl hxb (by rw [ho]; rfl) (by omega) h4 hxo rfl h5).mono fun e w' hp => ⟨hp.1, became_below h (Nat.le_succ _) hp.2⟩
            · rw [if_neg h5] at hr
              cases hr
              have h5' := Decidable.not_not.1 h5
              obtain ⟨xa1, xi1, xb1, o⟩ := hW.over hxa g2 g3 hxb hbk ho h4 hxo h5' hnb
              obtain ⟨_, xb3, hm⟩ := o.well.move o.na o.ent o.ni o.nb o.kind o.free o.loop
              exact t_rename7 a s b s2 ino old xi xb xo _ _ _ _ k _ w h ha hb hs hs2 hN h1' hlk g3 hBl hxb (by rw [ho]; rfl) (by omega) h4 hxo h5' hob (hW.most old xo hxo) hm
end Go.Proofs.YtpcjbfhgmcioaaaGreat
