/- The program's tree, plain: Rename, and that it leaves the tree well. -/
import Derived.Test.YtpcnolkdnmolgaaGreatDoorPh02
import Derived.Test.YtpcnolkdnmolgaaGreatDoorPh05
import Derived.Test.YtpcnolkdnmolgaaGreatDoorPh08
import Derived.Test.YtpcnolkdnmolgaaGreatDoorPh09
import Derived.Test.YtpcnolkdnmolgaaGreatDoorPh10
import Derived.Laws.StructEq
import Derived.StillTailTactics
import Derived.IntWalk
import Derived.Carry
import Derived.ProofKit
import Derived.SizedLaws
import Derived.Deep.Slices
import Derived.Deep.Fields
import Derived.ChangeMaps5
namespace Go.Proofs.YtpcnolkdnmolgaaGreatDoor
section
open Go.RowKit Go.Maps
variable {t : PT}
theorem PT.ext' {t u : PT} (h1 : t.room = u.room) (h2 : ∀ j, t.n j = u.n j) : t = u := by
 cases t; cases u
 simp only at h1 h2
 subst h1
 congr 1
 funext j
 exact h2 j
theorem belowP_ends {top : Int} : ∀ (k n : Nat) (j : Int), Ends t k j → belowP t top n j = true → belowP t top k j = true
 | 0, n, j, h, hb => by
  have : j = 0 := h
  subst this
  rw [belowP_zero] at hb; cases hb
 | k + 1, 0, j, h, hb => by cases hb
 | k + 1, n + 1, j, h, hb => by
  unfold belowP at hb ⊢
  by_cases h0 : j = 0
  · rw [if_pos h0] at hb; cases hb
  · rw [if_neg h0] at hb ⊢
    by_cases h1 : j = top
    · rw [if_pos h1]
    · rw [if_neg h1] at hb ⊢
      have h2 : j = 0 ∨ ((t.n j).isSome = true ∧ Ends t k (upAt t j)) := h
      exact belowP_ends k n _ (h2.resolve_left h0).2 hb
theorem WellP.ends_at (h : WellP t) {b : Int} {xb : PN} (hb : t.n b = some xb) (hk : xb.kind = 2) : ∃ k, Ends t k b := by
 obtain ⟨r, hr⟩ := h.ends
 exact ⟨r b + 1, hr _ b (.inr ⟨xb, hb, hk, by omega⟩)⟩
theorem bel_ends {top : Int} {k : Nat} {j : Int} (h : Ends t k j) : belowP t top k j = true ↔ Bel t top j :=
 ⟨fun e => ⟨k, e⟩, fun ⟨n, e⟩ => belowP_ends k n j h e⟩
theorem bel_sub {u : PT} {top : Int} (hu : ∀ j z, u.n j = some z → ∃ z0, t.n j = some z0 ∧ z.up = z0.up) : ∀ (n : Nat) (j : Int), belowP u top n j = true → belowP t top n j = true
 | 0, j, h => by cases h
 | n + 1, j, h => by
  unfold belowP at h ⊢
  by_cases h0 : j = 0
  · rw [if_pos h0] at h; cases h
  · rw [if_neg h0] at h ⊢
    by_cases h1 : j = top
    · rw [if_pos h1]
    · rw [if_neg h1] at h ⊢
      cases hj : u.n j with
      | none =>
       have e : upAt u j = 0 := by unfold upAt; rw [hj]
       rw [e, belowP_zero] at h; cases h
      | some z =>
       obtain ⟨z0, hz0, hup⟩ := hu j z hj
       have e : upAt u j = upAt t j := by unfold upAt; rw [hj, hz0]; exact hup
       rw [e] at h
       exact bel_sub hu n _ h
section
variable {a b i : Int} {s s2 : ByteArray} {xa xb y : PN}
theorem WellP.mvfile (h : WellP t) (ha : t.n a = some xa) (hl : xa.l s.data.toList = some i) (hi : t.n i = some y) (hk : y.kind = 1) (hb : t.n b = some xb) (hbk : xb.kind = 2) (hf : xb.l s2.data.toList = none) {xb3 : PN} (h3 : (leaveT t a xa s i y).n b = some xb3) :
  WellP (enterT (leaveT t a xa s i y) b xb3 s2 i (outN y)) := by
 obtain ⟨hak, hi1, hia, y', hy', _⟩ := h.ent a xa _ i ha hl
 rw [hi] at hy'
 cases hy'
 have hib : i ≠ b := fun e => by rw [← e, hi] at hb; cases hb; omega
 have hout : outN y = { y with links := y.links - 1 } := by unfold outN; rw [if_neg (by omega)]
 have hheld := h.held i y hi
 have hmost := h.most i y hi
 obtain ⟨y1, hy1⟩ : ∃ y1 : PN, y1 = { y with held := y.held + 1 } := ⟨_, rfl⟩
 have hk1 : y1.kind = 1 := by rw [hy1]; exact hk
 have hout1 : outN y1 = { y with held := y.held + 1, links := y.links - 1 } := by unfold outN; rw [if_neg (by omega), hy1]
 have w1 : WellP (t.set i y1) := by
  rw [hy1]
  exact h.put hi rfl rfl rfl rfl (by show 0 ≤ y.held + 1; omega) (fun c => by omega) (fun _ _ => by show 0 < y.held + 1; omega) ⟨(h.pages i y hi).len, (h.pages i y hi).size⟩
 have ha1 : (t.set i y1).n a = some xa := by rw [PT.set_n, if_neg (fun e => hia e.symm)]; exact ha
 have hi1' : (t.set i y1).n i = some y1 := by rw [PT.set_n, if_pos rfl]
 have w2 := w1.drop ha1 hl hi1' (fun c => by omega)
 have hg : goneB i (outN y1) = false := by
  unfold goneB
  have : ((outN y1).held == 0) = false := by rw [hout1]; simp; omega
  rw [this]
  simp
 have e2 : dropT (t.set i y1) a xa s i y1 = leaveT (t.set i y1) a xa s i y1 := by
  unfold dropT freeP
  rw [hg]
  rfl
 rw [e2] at w2
 have hb2 : (leaveT (t.set i y1) a xa s i y1).n b = some xb3 := by
  rw [leave_n hia] at h3 ⊢
  by_cases c : b = a
  · rw [if_pos c] at h3 ⊢; exact h3
  · rw [if_neg c, if_neg (fun e => hib e.symm)] at h3 ⊢
    rw [PT.set_n, if_neg (fun e => hib e.symm)]; exact h3
 have hxb3 : xb3.kind = 2 ∧ xb3.l s2.data.toList = none := by
  rw [leave_n hia] at h3
  by_cases c : b = a
  · rw [if_pos c] at h3
    cases h3
    rw [c, ha] at hb
    cases hb
    refine ⟨hbk, ?_⟩
    show (if s2.data.toList = s.data.toList then none else xa.l s2.data.toList) = none
    split
    · rfl
    · exact hf
  · rw [if_neg c, if_neg (fun e => hib e.symm), hb] at h3
    cases h3
    exact ⟨hbk, hf⟩
 have hi2 : (leaveT (t.set i y1) a xa s i y1).n i = some (outN y1) := by rw [leave_n hia, if_neg hia, if_pos rfl]
 have w3 := w2.link (s := s2) hb2 hxb3.1 hxb3.2 hi2 (by rw [hout1]; exact hk) (by rw [hout1]; show y.links - 1 < 1000000; omega)
 have hi3 : (enterT (leaveT (t.set i y1) a xa s i y1) b xb3 s2 i (outN y1)).n i = some (inN (outN y1) b) := by rw [enter_n, if_pos rfl]
 have hin1 : inN (outN y1) b = { y with held := y.held + 1, links := y.links - 1 + 1 } := by
  rw [hout1]; unfold inN; rw [if_neg (by show ¬ y.kind = 2; omega)]
 have hin : inN (outN y) b = { y with links := y.links - 1 + 1 } := by
  rw [hout]; unfold inN; rw [if_neg (by show ¬ y.kind = 2; omega)]
 rw [hin1] at hi3
 have w4 := w3.put (x' := { y with links := y.links - 1 + 1 }) hi3 rfl rfl rfl rfl hheld (fun c => by have c' : y.kind = 2 := c; omega)
  (fun _ c => by have c' : y.links - 1 + 1 = 0 := c; exact h.there i y hi hk (by omega)) ⟨(h.pages i y hi).len, (h.pages i y hi).size⟩
 have e : (enterT (leaveT (t.set i y1) a xa s i y1) b xb3 s2 i (outN y1)).set i { y with links := y.links - 1 + 1 } = enterT (leaveT t a xa s i y) b xb3 s2 i (outN y) := by
  refine PT.ext' rfl fun j => ?_
  rw [PT.set_n, enter_n, enter_n, leave_n hia, leave_n hia, PT.set_n, hin]
  by_cases c : j = i
  · rw [if_pos c, if_pos c]
  · rw [if_neg c, if_neg c, if_neg c, if_neg c, if_neg c, if_neg c]
 rw [← e]
 exact w4
def moveT (t : PT) (a : Int) (s : ByteArray) (b : Int) (s2 : ByteArray) (i : Int) : PT := match t.n a, t.n i with
 | some xa, some xi => match (leaveT t a xa s i xi).n b with
  | some xb => enterT (leaveT t a xa s i xi) b xb s2 i (outN xi)
  | none => t
 | _, _ => t
theorem WellP.move (h : WellP t) (ha : t.n a = some xa) (hl : xa.l s.data.toList = some i) (hi : t.n i = some y) (hb : t.n b = some xb) (hbk : xb.kind = 2) (hf : xb.l s2.data.toList = none) (hnb : y.kind = 2 → ¬ Bel t i b) :
  WellP (moveT t a s b s2 i) ∧ ∃ xb3, MoveOk t a s b s2 i (moveT t a s b s2 i) xa y xb3 (outN y) := by
 obtain ⟨hak, hi1, hia, y', hy', _⟩ := h.ent a xa _ i ha hl
 rw [hi] at hy'
 cases hy'
 have hi0 : i ≠ 0 := fun e => by have := (h.range i y hi).1; omega
 have hib : i ≠ b := fun e => by
  rw [← e, hi] at hb; cases hb
  exact hnb hbk (e ▸ bel_self hi0)
 have h3 : ∃ xb3, (leaveT t a xa s i y).n b = some xb3 := by
  rw [leave_n hia]
  by_cases c : b = a
  · exact ⟨_, if_pos c⟩
  · exact ⟨xb, by rw [if_neg c, if_neg (fun e => hib e.symm)]; exact hb⟩
 obtain ⟨xb3, h3⟩ := h3
 have e : moveT t a s b s2 i = enterT (leaveT t a xa s i y) b xb3 s2 i (outN y) := by
  unfold moveT
  rw [ha, hi]
  simp only
  rw [h3]
 have hmost := h.most i y hi
 have hm : 0 ≤ (outN y).links ∧ (outN y).links ≤ 1000000 := by
  unfold outN
  split
  · exact hmost
  · rename_i hk
    obtain ⟨L, n1, n2, n3⟩ := h.links i y hi ((h.kind i y hi).resolve_right hk)
    have l2 := List.length_pos_of_mem ((n2 (a, s.data.toList)).2 ⟨xa, ha, hl⟩)
    show 0 ≤ y.links - 1 ∧ y.links - 1 ≤ 1000000
    omega
 refine ⟨?_, xb3, ha, hl, hi, hia, hmost, h3, ?_, hib, hm, e⟩
 · rw [e]
   rcases h.kind i y hi with hk | hk
   · exact h.mvfile ha hl hi hk hb hbk hf h3
   · exact h.mvdir ha hl hi hk hb hbk hf (hnb hk) h3
 · rw [leave_n hia, if_neg hia, if_pos rfl]
end
open Classical in
noncomputable def renameP (t : PT) (a : Int) (s : ByteArray) (b : Int) (s2 : ByteArray) : Int × PT :=
 if firstE [namesE [s, s2], thereE t [a, b], dirsE t [a, b]] ≠ 0 then (firstE [namesE [s, s2], thereE t [a, b], dirsE t [a, b]], t)
 else if (lookP t a s).2 ≠ 0 then ((lookP t a s).2, t)
 else match t.n (lookP t a s).1, t.n b with
  | some xi, some xb =>
   if xi.kind = 2 ∧ Bel t (lookP t a s).1 b then (183, t)
   else match xb.l s2.data.toList with
    | none => (0, moveT t a s b s2 (lookP t a s).1)
    | some old =>
     if old = (lookP t a s).1 then (0, t)
     else match t.n old with
      | some xo => if givesE xi xo ≠ 0 then (givesE xi xo, t) else (0, moveT (dropT t b xb s2 old xo) a s b s2 (lookP t a s).1)
      | none => (0, t)
  | _, _ => (0, t)
theorem gives_zero {x old : PN} (h : givesE x old = 0) : (old.kind = 2 ↔ x.kind = 2) ∧ ∀ k, old.l k = none := by
 unfold givesE at h
 split at h
 · cases h
 · rename_i h1
   split at h
   · cases h
   · rename_i h2
     split at h
     · rename_i h3
       refine ⟨?_, emptyB_iff.1 h3⟩
       simp at h1 h2
       exact ⟨h1, fun c => Decidable.byContradiction fun d => h2 d c⟩
     · cases h
theorem rename_dirs {t : PT} {a b : Int} {s s2 : ByteArray} (h : firstE [namesE [s, s2], thereE t [a, b], dirsE t [a, b]] = 0) : ∃ xa xb, t.n a = some xa ∧ t.n b = some xb ∧ xa.kind = 2 ∧ xb.kind = 2 := by
 obtain ⟨_, h⟩ := firstE_cons h
 obtain ⟨z2, h⟩ := firstE_cons h
 obtain ⟨z3, _⟩ := firstE_cons h
 have hall := there_all z2
 obtain ⟨xa, hxa⟩ := Option.isSome_iff_exists.1 (hall a (by simp))
 obtain ⟨xb, hxb⟩ := Option.isSome_iff_exists.1 (hall b (by simp))
 exact ⟨xa, xb, hxa, hxb, dirs_zero z3 (by simp) hxa, dirs_zero z3 (by simp) hxb⟩
structure Over (t : PT) (a : Int) (s : ByteArray) (b : Int) (s2 : ByteArray) (ino old : Int) (xb xo : PN) (xa1 xi1 xb1 : PN) : Prop where
 well : WellP (dropT t b xb s2 old xo)
 na : (dropT t b xb s2 old xo).n a = some xa1
 ent : xa1.l s.data.toList = some ino
 ni : (dropT t b xb s2 old xo).n ino = some xi1
 nb : (dropT t b xb s2 old xo).n b = some xb1
 kind : xb1.kind = 2
 free : xb1.l s2.data.toList = none
 loop : xi1.kind = 2 → ¬ Bel (dropT t b xb s2 old xo) ino b
theorem WellP.over (h : WellP t) {a b ino old : Int} {s s2 : ByteArray} {xa xi xb xo : PN} (ha : t.n a = some xa) (hl : xa.l s.data.toList = some ino) (hi : t.n ino = some xi) (hb : t.n b = some xb) (hbk : xb.kind = 2) (ho : xb.l s2.data.toList = some old) (hoi : old ≠ ino) (hxo : t.n old = some xo)
  (hg : givesE xi xo = 0) (hnb : xi.kind = 2 → ¬ Bel t ino b) : ∃ xa1 xi1 xb1, Over t a s b s2 ino old xb xo xa1 xi1 xb1 := by
 obtain ⟨hg1, hg2⟩ := gives_zero hg
 have hw := h.drop hb ho hxo (fun _ => hg2)
 obtain ⟨_, _, hob, _⟩ := h.ent b xb _ old hb ho
 have hE := drop_ent (s := s2) hob hb hxo (fun _ => hg2)
 have hentA : Ent (dropT t b xb s2 old xo) a s.data.toList ino := (hE _ _ _).2 ⟨⟨xa, ha, hl⟩, fun c => by
  obtain ⟨c1, c2⟩ := c
  have e1 : Ent t b s2.data.toList ino := by rw [← c1, ← c2]; exact ⟨xa, ha, hl⟩
  have e2 : Ent t b s2.data.toList old := ⟨xb, hb, ho⟩
  exact hoi (e2.fun_ e1)⟩
 obtain ⟨xa1, ha1, hl1⟩ := hentA
 have hio : ino ≠ b := fun e => by
  have hi0 : ino ≠ 0 := fun e => by have := (h.range ino xi hi).1; omega
  rw [e, hb] at hi
  cases hi
  exact hnb hbk (e ▸ bel_self hi0)
 have hi1 : (dropT t b xb s2 old xo).n ino = some xi := by rw [drop_n hob, if_neg hio, if_neg (fun e => hoi e.symm)]; exact hi
 have hb1 : (dropT t b xb s2 old xo).n b = some { xb with l := delL xb.l s2.data.toList } := by rw [drop_n hob, if_pos rfl]
 refine ⟨xa1, xi, _, hw, ha1, hl1, hi1, hb1, hbk, ?_, ?_⟩
 · show (if s2.data.toList = s2.data.toList then none else xb.l s2.data.toList) = none
   rw [if_pos rfl]
 · intro hk ⟨n, hn⟩
   have hok : xo.kind = 2 := hg1.2 hk
   have hgone : goneB old (outN xo) = true := by
    obtain ⟨_, ho1, _⟩ := h.ent b xb _ old hb ho
    have hh := (h.dirs old xo hxo hok).2
    unfold goneB outN
    rw [if_pos hok]
    simp [ho1, hh, hok]
   refine hnb hk ⟨n, bel_sub (t := t) (fun j z hz => ?_) n b hn⟩
   rw [drop_n hob] at hz
   by_cases c : j = b
   · rw [if_pos c] at hz
     cases hz
     exact ⟨xb, c ▸ hb, rfl⟩
   · rw [if_neg c] at hz
     by_cases c2 : j = old
     · rw [if_pos c2, if_pos hgone] at hz; cases hz
     · rw [if_neg c2] at hz
       exact ⟨z, hz, rfl⟩
theorem WellP.renameP_ (h : WellP t) (a : Int) (s : ByteArray) (b : Int) (s2 : ByteArray) : WellP (renameP t a s b s2).2 := by
 unfold renameP
 split
 · exact h
 · rename_i h1
   obtain ⟨xa, xb, ha, hb, hak, hbk⟩ := rename_dirs (Decidable.not_not.1 h1)
   split
   · exact h
   · rename_i h2
     obtain ⟨xd, xi, g1, g2, g3, g4, _⟩ := look_okP h.good (Decidable.not_not.1 h2)
     rw [ha] at g1
     cases g1
     rw [g3, hb]
     simp only
     split
     · exact h
     · rename_i h3
       cases ho : xb.l s2.data.toList with
       | none => exact (h.move ha g2 g3 hb hbk ho (fun hk hB => h3 ⟨hk, hB⟩)).1
       | some old =>
        simp only
        split
        · exact h
        · rename_i h4
          obtain ⟨_, _, _, xo, hxo, _⟩ := h.ent b xb _ old hb ho
          rw [hxo]
          simp only
          split
          · exact h
          · rename_i h5
            obtain ⟨xa1, xi1, xb1, o⟩ := h.over ha g2 g3 hb hbk ho h4 hxo (Decidable.not_not.1 h5) (fun hk hB => h3 ⟨hk, hB⟩)
            exact (o.well.move o.na o.ent o.ni o.nb o.kind o.free o.loop).1
end
section
open Go.RowKit Go.Maps
variable {F : Nat → Prop} {P N : Nat} {y : Lay} {t : PT}
theorem became_below {w w' : World} {N' : Nat} (h : TreeM w F P N y t) (hN : N ≤ N') (hb : Below w.heap.size w w') : Became w w' F P N' t := ⟨y, F, (h.below hb).mono hN, Turn.of_below F hb⟩
theorem t_renameP (a : Int) (s : ByteArray) (b : Int) (s2 : ByteArray) (r : Int) (t' : PT) (hr : renameP t a s b s2 = (r, t')) (w : World) (h : TreeM w F P N y t) (hW : WellP t) (ha : U32 a) (hb : U32 b) (hs : s.size ≤ maxLen) (hs2 : s2.size ≤ maxLen) (hN : N < 900000) :
  Calls Tryz.prog 118 #[.pointer (some ⟨P, 0, none⟩), .int .u32 a, .string s, .int .u32 b, .string s2] w fun e w' => e = .returned (.int .i64 r) ∧ Became w w' F P (N + 1) t' := by
 unfold renameP at hr
 by_cases h1 : firstE [namesE [s, s2], thereE t [a, b], dirsE t [a, b]] ≠ 0
 · rw [if_pos h1] at hr
   cases hr
   exact (t_rename1 a s b s2 _ w h ha hb hs hs2 rfl h1).mono fun e w' hp => ⟨hp.1, became_below h (Nat.le_succ _) hp.2⟩
 · rw [if_neg h1] at hr
   have h1' := Decidable.not_not.1 h1
   obtain ⟨xa, xb, hxa, hxb, hak, hbk⟩ := rename_dirs h1'
   by_cases h2 : (lookP t a s).2 ≠ 0
   · rw [if_pos h2] at hr
     cases hr
     exact (t_rename2 a s b s2 _ _ w h ha hb hs hs2 h1' rfl h2).mono fun e w' hp => ⟨hp.1, became_below h (Nat.le_succ _) hp.2⟩
   · rw [if_neg h2] at hr
     have h2' := Decidable.not_not.1 h2
     obtain ⟨xd, xi, g1, g2, g3, g4, g5, g6, _⟩ := look_okP hW.good h2'
     obtain ⟨ino, hino⟩ : ∃ ino, (lookP t a s).1 = ino := ⟨_, rfl⟩
     have hlk : lookP t a s = (ino, 0) := Prod.ext hino h2'
     rw [hino] at g2 g3 g4 g5 g6 hr
     rw [hxa] at g1
     cases g1
     rw [g3, hxb] at hr
     simp only at hr
     obtain ⟨k, hk⟩ := hW.ends_at hxb hbk
     by_cases h3 : xi.kind = 2 ∧ Bel t ino b
     · rw [if_pos h3] at hr
       cases hr
       exact (t_renameLoop a s b s2 ino xi k w h ha hb hs hs2 h1' hlk g3 (by rw [h3.1]; rfl) hk ((bel_ends hk).2 h3.2)).mono fun e w' hp => ⟨hp.1, became_below h (Nat.le_succ _) hp.2⟩
     · rw [if_neg h3] at hr
       have hnb : xi.kind = 2 → ¬ Bel t ino b := fun hk hB => h3 ⟨hk, hB⟩
       have hBl : (xi.kind == 2) = true → Ends t k b ∧ belowP t ino k b = false := fun c => ⟨hk, by
        have := hnb (by simpa using c)
        rw [← bel_ends hk] at this
        simpa using this⟩
       cases ho : xb.l s2.data.toList with
       | none =>
        rw [ho] at hr
        simp only at hr
        cases hr
        obtain ⟨_, xb3, hm⟩ := hW.move hxa g2 g3 hxb hbk ho hnb
        exact t_rename4 a s b s2 ino xi xb _ _ _ _ k _ w h ha hb hs hs2 hN h1' hlk g3 hBl hxb (by rw [ho]; rfl) hm
       | some old =>
        rw [ho] at hr
        simp only at hr
        obtain ⟨_, ho1, hob, xo, hxo, _⟩ := hW.ent b xb _ old hxb ho
        have hor := hW.range old xo hxo
        by_cases h4 : old = ino
        · rw [if_pos h4] at hr
          cases hr
          exact (t_rename5 a s b s2 ino xi xb k w h ha hb hs hs2 h1' hlk g3 hBl hxb (by rw [ho]; exact h4) (by omega)).mono fun e w' hp => ⟨hp.1, became_below h (Nat.le_succ _) hp.2⟩
        · rw [if_neg h4, hxo] at hr
          simp only at hr
          by_cases h5 : givesE xi xo ≠ 0
          · rw [if_pos h5] at hr
            cases hr
            exact (t_rename6 a s b s2 ino old xi xb xo k _ w h ha hb hs hs2 h1' hlk g3 hBl hxb (by rw [ho]; rfl) (by omega) h4 hxo rfl h5).mono fun e w' hp => ⟨hp.1, became_below h (Nat.le_succ _) hp.2⟩
          · rw [if_neg h5] at hr
            cases hr
            have h5' := Decidable.not_not.1 h5
            obtain ⟨xa1, xi1, xb1, o⟩ := hW.over hxa g2 g3 hxb hbk ho h4 hxo h5' hnb
            obtain ⟨_, xb3, hm⟩ := o.well.move o.na o.ent o.ni o.nb o.kind o.free o.loop
            exact t_rename7 a s b s2 ino old xi xb xo _ _ _ _ k _ w h ha hb hs hs2 hN h1' hlk g3 hBl hxb (by rw [ho]; rfl) (by omega) h4 hxo h5' hob (hW.most old xo hxo) hm
end

section
open Go.RowKit Go.Maps
abbrev sa : ByteArray := { data := #[97] }
abbrev sb : ByteArray := { data := #[98] }
abbrev sf : ByteArray := { data := #[102] }
abbrev sg : ByteArray := { data := #[103] }
theorem name_one (c : UInt8) (h1 : c ≠ 46) (h2 : c ≠ 47) (h3 : c ≠ 0) : pnameB ⟨#[c]⟩ = true := by
 have e : (ByteArray.mk #[c]).size = 1 := rfl
 unfold pnameB pplainTo
 rw [ByteArray.toList_eq, e]
 simp [h1, h2, h3]
theorem names_ok {ss : List ByteArray} (h : ∀ s ∈ ss, pnameB s = true) : namesE ss = 0 := by
 unfold namesE
 rw [if_neg]
 intro hh
 obtain ⟨s, hs, hb⟩ := List.any_eq_true.1 hh
 rw [h s hs] at hb
 cases hb
theorem nm_a : pnameB sa = true := name_one 97 (by decide) (by decide) (by decide)
theorem na : namesE [sa] = 0 := names_ok (by simpa using nm_a)
def A0 : PT := newT 8
def A1 : PT := makeT A0 1 sa 2 2
def A2 : PT := makeT A1 2 sf 1 3
def A3 : PT := linkT A2 1 sg 3
def x1 : PN := { newN 2 with l := updL (updL (fun _ => none) [97] 2) [103] 3 }
def x2 : PN := { newN 2 with up := 1, l := updL (fun _ => none) [102] 3 }
def x3 : PN := { newN 1 with links := 2 }
def y1 : PN := { newN 2 with l := updL (fun _ => none) [97] 2 }
def y2 : PN := { newN 2 with up := 1 }
def A4 : PT := leaveT A3 2 x2 sf 3 x3
def z2 : PN := { x2 with l := delL x2.l [102] }
def z3 : PN := { newN 1 with links := 1 }
def A5 : PT := dropT A4 1 x1 sa 2 z2
end
section
open Go.RowKit Go.Maps
def Sit (w W : World) (P N : Nat) (t : PT) : Prop := ∃ y F, TreeM W F P N y t ∧ Below w.heap.size w W ∧ ∀ b, F b → w.heap.size ≤ b
variable {w W : World} {P N : Nat} {t : PT}
def SitB (w W : World) (P N : Nat) (t : PT) (b : Nat) (o : Obj) : Prop := ∃ y F, TreeM W F P N y t ∧ Below w.heap.size w W ∧ (∀ b, F b → w.heap.size ≤ b) ∧ ¬ F b ∧ W.heap[b]? = some o
theorem u1 : U32 1 := ⟨by decide, by decide⟩
theorem u2 : U32 2 := ⟨by decide, by decide⟩
theorem u3 : U32 3 := ⟨by decide, by decide⟩
attribute [local irreducible] A0 A1 A2 A3 A4 A5 Sit SitB
end

section
open Go.RowKit Go.Maps
variable {t : PT}
def holdE (t : PT) (i : Int) : Int := firstE [thereE t [i], fileE' t i]
def holdP (t : PT) (i : Int) : Int × PT := if holdE t i = 0 then (0, match t.n i with | some x => t.set i { x with held := x.held + 1 } | none => t) else (holdE t i, t)
def heldE (x : PN) : Int := if x.held = 0 then 3 else 0
def heldE' (t : PT) (i : Int) : Int := match t.n i with | some x => heldE x | none => 0
def unholdE (t : PT) (i : Int) : Int := firstE [thereE t [i], heldE' t i]
def unholdT (t : PT) (i : Int) (x : PN) : PT := freeP (t.set i { x with held := x.held - 1 }) i { x with held := x.held - 1 }
def unholdP (t : PT) (i : Int) : Int × PT := if unholdE t i = 0 then (0, match t.n i with | some x => unholdT t i x | none => t) else (unholdE t i, t)
theorem WellP.holdP_ (h : WellP t) (i : Int) : WellP (holdP t i).2 := by
 unfold holdP
 by_cases h0 : holdE t i = 0
 · rw [if_pos h0]
   unfold holdE at h0
   obtain ⟨z1, h0⟩ := firstE_cons h0
   obtain ⟨z2, _⟩ := firstE_cons h0
   obtain ⟨x, hx⟩ := Option.isSome_iff_exists.1 (there_one z1)
   have hh := h.held i x hx
   have hk := file_zero hx z2
   rw [hx]
   exact h.put hx rfl rfl rfl rfl (by show 0 ≤ x.held + 1; omega) (fun c => absurd c hk) (fun _ _ => by show 0 < x.held + 1; omega) ⟨(h.pages i x hx).len, (h.pages i x hx).size⟩
 · rw [if_neg h0]; exact h
theorem WellP.gone (h : WellP t) {i : Int} {y : PN} (hi : t.n i = some y) (hk : y.kind = 1) (hl : y.links = 0) : WellP (t.del i) := by
 have hi1 : i ≠ 1 := fun e => by
  obtain ⟨z, hz, hzk, _⟩ := h.root
  rw [← e, hi] at hz; cases hz; omega
 have hno : ∀ a q, ¬ Ent t a q i := fun a q e => by
  obtain ⟨L, _, n2, n3⟩ := h.links i y hi hk
  have := List.length_pos_of_mem ((n2 (a, q)).2 e)
  omega
 have hnode : ∀ j z, (t.del i).n j = some z → j ≠ i ∧ t.n j = some z := fun j z hz => by
  rw [PT.del_n] at hz
  by_cases e : j = i
  · rw [if_pos e] at hz; cases hz
  · rw [if_neg e] at hz; exact ⟨e, hz⟩
 have hkeep : ∀ j z, t.n j = some z → j ≠ i → (t.del i).n j = some z := fun j z hz e => by rw [PT.del_n, if_neg e]; exact hz
 have hE : ∀ a q v, Ent (t.del i) a q v ↔ Ent t a q v := fun a q v => by
  constructor
  · rintro ⟨z, hz, hv⟩
    exact ⟨z, (hnode a z hz).2, hv⟩
  · rintro ⟨z, hz, hv⟩
    refine ⟨z, hkeep a z hz ?_, hv⟩
    rintro rfl
    rw [hi] at hz
    cases hz
    have := (h.ent a y q v hi hv).1
    omega
 refine ⟨h.room, ?_, ?_, ?_, ?_, ?_, ?_, ?_, ?_, ?_, ?_, ?_, ?_, ?_⟩
 · obtain ⟨z, hz, r⟩ := h.root
   exact ⟨z, hkeep 1 z hz (fun e => hi1 e.symm), r⟩
 · intro j z hz
   exact h.range j z (hnode j z hz).2
 · intro j z hz
   exact h.kind j z (hnode j z hz).2
 · intro d x k v hd hv
   obtain ⟨g1, g2, g3, y2, g4, g5⟩ := h.ent d x k v (hnode d x hd).2 hv
   refine ⟨g1, g2, g3, y2, hkeep v y2 g4 ?_, g5⟩
   rintro rfl
   exact hno d k ⟨x, (hnode d x hd).2, hv⟩
 · intro d k k' v z e1 e2 hz hk2
   exact h.one d k k' v z ((hE _ _ _).1 e1) ((hE _ _ _).1 e2) (hnode v z hz).2 hk2
 · intro j z hz hk2 hj
   obtain ⟨k, hen⟩ := h.up j z (hnode j z hz).2 hk2 hj
   exact ⟨k, (hE _ _ _).2 hen⟩
 · obtain ⟨r, hr⟩ := h.rank
   exact ⟨r, fun j z hz hk2 hu => hr j z (hnode j z hz).2 hk2 hu⟩
 · intro j z hz hk2
   obtain ⟨L, n1, n2, n3⟩ := h.links j z (hnode j z hz).2 hk2
   exact ⟨L, n1, fun p => by rw [n2, hE], n3⟩
 · intro j z hz; exact h.most j z (hnode j z hz).2
 · intro j z hz hk2; exact h.dirs j z (hnode j z hz).2 hk2
 · intro j z hz; exact h.held j z (hnode j z hz).2
 · intro j z hz hk2 h0; exact h.there j z (hnode j z hz).2 hk2 h0
 · intro j z hz; exact h.pages j z (hnode j z hz).2
theorem WellP.unholdP_ (h : WellP t) (i : Int) : WellP (unholdP t i).2 := by
 unfold unholdP
 by_cases h0 : unholdE t i = 0
 · rw [if_pos h0]
   unfold unholdE at h0
   obtain ⟨z1, h0⟩ := firstE_cons h0
   obtain ⟨z2, _⟩ := firstE_cons h0
   obtain ⟨x, hx⟩ := Option.isSome_iff_exists.1 (there_one z1)
   have hh := h.held i x hx
   have hne : x.held ≠ 0 := fun c => by
    have z3 : heldE x = 0 := by
     have e : heldE' t i = heldE x := by unfold heldE'; rw [hx]
     rw [← e]; exact z2
    unfold heldE at z3
    rw [if_pos c] at z3
    cases z3
   have hk : x.kind = 1 := (h.kind i x hx).resolve_right fun c => hne (h.dirs i x hx c).2
   rw [hx]
   show WellP (unholdT t i x)
   unfold unholdT freeP
   split
   · rename_i hg
     have hl : x.links = 0 := by
      unfold goneB at hg
      simp [hk] at hg
      exact hg.2.2
     have e : (t.set i { x with held := x.held - 1 }).del i = t.del i := PT.ext' rfl fun j => by
      rw [PT.del_n, PT.del_n, PT.set_n]
      by_cases c : j = i
      · rw [if_pos c, if_pos c]
      · rw [if_neg c, if_neg c, if_neg c]
     rw [e]
     exact h.gone hx hk hl
   · rename_i hg
     refine h.put hx rfl rfl rfl rfl (by show 0 ≤ x.held - 1; omega) (fun c => by omega) (fun _ hl => ?_) ⟨(h.pages i x hx).len, (h.pages i x hx).size⟩
     show 0 < x.held - 1
     have hi1 : i ≠ 1 := fun e => by
      obtain ⟨z, hz, hzk, _⟩ := h.root
      rw [← e, hx] at hz; cases hz; omega
     unfold goneB at hg
     simp [hk, hl, hi1] at hg
     omega
 · rw [if_neg h0]; exact h
def HeldK (K : Int) (t : PT) : Prop := ∀ i x, t.n i = some x → x.held ≤ K
section
variable {K d i : Int} {x y : PN} {s : ByteArray}
theorem held_in (x : PN) (d : Int) : (inN x d).held = x.held := by unfold inN; split <;> rfl
theorem held_out (x : PN) : (outN x).held = x.held := by unfold outN; split <;> rfl
end
theorem WellP.least (h : WellP t) : ∃ m, Least t m := by
 have key : ∀ n : Nat, (∀ j, 1 ≤ j → j < (n : Int) + 1 → (t.n j).isSome = true) ∨ ∃ m, Least t m := fun n => by
  induction n with
  | zero => exact .inl fun j h1 h2 => by omega
  | succ n ih =>
   rcases ih with ih | ih
   · by_cases c : (t.n ((n : Int) + 1)).isSome = true
     · refine .inl fun j h1 h2 => ?_
       by_cases e : j = (n : Int) + 1
       · rw [e]; exact c
       · exact ih j h1 (by omega)
     · have hn : t.n ((n : Int) + 1) = none := by simpa using c
       refine .inr ⟨(n : Int) + 1, by omega, ?_, hn, ih⟩
       have hr := h.room
       by_cases hb : (n : Int) ≤ 256
       · omega
       · exfalso
         obtain ⟨x, hx⟩ := Option.isSome_iff_exists.1 (ih 257 (by omega) (by omega))
         have := h.range 257 x hx
         omega
   · exact .inr ih
 rcases key 257 with k | k
 · exfalso
   obtain ⟨x, hx⟩ := Option.isSome_iff_exists.1 (k 257 (by omega) (by omega))
   have := h.range 257 x hx
   have := h.room
   omega
 · exact k
open Classical in
noncomputable def leastI (t : PT) : Int := if h : ∃ m, Least t m then Classical.choose h else 1
theorem WellP.leastI_ (h : WellP t) : Least t (leastI t) := by
 unfold leastI
 rw [dif_pos h.least]
 exact Classical.choose_spec h.least
end

section
open Go.RowKit Go.Maps
section
variable {F : Nat → Prop} {P N : Nat} {y : Lay} {t : PT}
theorem asked2 {W : World} {i : Int} {v1 v2 : Value} (q1 : Question W v1 (thereE t [i])) (q2 : (t.n i).isSome = true → Question W v2 (fileE' t i)) : Asked W [v1, v2] [thereE t [i], fileE' t i] := by
 refine Asked.of W _ _ rfl fun j e v he hv h0 => ?_
 match j with
 | 0 => simp at he hv; subst he; subst hv; exact q1
 | 1 => simp at he hv; subst he; subst hv; exact q2 (there_one (h0 0 _ (by omega) rfl))
 | j + 2 => simp at he
theorem asked2h {W : World} {i : Int} {v1 v2 : Value} (q1 : Question W v1 (thereE t [i])) (q2 : (t.n i).isSome = true → Question W v2 (heldE' t i)) : Asked W [v1, v2] [thereE t [i], heldE' t i] := by
 refine Asked.of W _ _ rfl fun j e v he hv h0 => ?_
 match j with
 | 0 => simp at he hv; subst he; subst hv; exact q1
 | 1 => simp at he hv; subst he; subst hv; exact q2 (there_one (h0 0 _ (by omega) rfl))
 | j + 2 => simp at he
set_option maxHeartbeats 2000000 in
theorem t_holdP (i r : Int) (t' : PT) (hr : holdP t i = (r, t')) (w : World) (h : TreeM w F P N y t) (hi : U32 i) (hK : HeldK 1000000000 t) (hK0 : ∀ x, t.n i = some x → 0 ≤ x.held) :
  Calls Tryz.prog 178 #[.pointer (some ⟨P, 0, none⟩), .int .u32 i] w fun e w' => e = .returned (.int .i64 r) ∧ Became w w' F P N t' := by
 have HTh := zz (there_later h i hi)
 have HFl := zz (file_later h i)
 have HT := zz h
 obtain ⟨q, hq⟩ : ∃ q, holdE t i = q := ⟨_, rfl⟩
 have HE : Hid (firstE [thereE t [i], fileE' t i] = q) := hq
 by_cases hz : q = 0
 · subst hz
   have hz := HE.out
   obtain ⟨z1, hz⟩ := firstE_cons hz
   obtain ⟨z2, hz⟩ := firstE_cons hz
   obtain ⟨x, hx⟩ := Option.isSome_iff_exists.1 (there_one z1)
   have HX := zz hx
   have HP : Hid (r = 0 ∧ t' = t.set i { x with held := x.held + 1 }) := by
    unfold holdP at hr
    rw [if_pos hq, hx] at hr
    injection hr with a b
    exact ⟨a.symm, b.symm⟩
   have hh := hK i x hx
   have hh0 := hK0 x hx
   clear h hi hK hK0 hr z1 z2 hz hx hq
   go_enter Tryz.func178, Tryz.ntmps178
   go_wp2_with (first
    | (go_at_call 81; (with_reducible refine (HTh.out _ _ _ (below_a1 w _) (SliceAt.built' _ [.int .u32 i] _ (w.heap.size) rfl)).mono ?_); rintro e w1 hq; obtain ⟨g1, l1, rfl, hq1, hb1⟩ := hq.get; have HQ1 := zz hq1; have HB1 := zz (ptrans (below_a1 w _) hb1); clear hq hq1 hb1)
    | (go_at_call 89; (with_reducible refine (HFl.out _ HB1.out).mono ?_); rintro e w2 ⟨g2, l2, rfl, hq2, hb2⟩; have HQ2 := zz hq2; have HB2 := zz (ptrans HB1.out hb2); have HQ1' := zz (HQ1.out.later hb2); clear hq2 hb2)
    | (go_at_call 80; (with_reducible refine (check_built w2 P [.func (.func g1) #[] l1, .func (.func g2) #[] l2] 2 [thereE t [i], fileE' t i] 0 HE.out _ rfl (by omega) (asked2 HQ1'.out HQ2.out) (by simp)).mono ?_); rintro e w4 ⟨rfl, hb4⟩
       have hb : Below w.heap.size w w4 := ptrans (ptrans HB2.out (below_a1 _ _)) hb4
       have hT := HT.out.below hb
       have c1 := hT.c1
       have hlk := hT.look_some HX.out
       have n5 : w4.cell? ⟨y.f i, 5, none⟩ = some (.int .i64 x.held) := (hT.node i x HX.out).cell 5
       have nf5 := (hT.node i x HX.out).frozen 5
       have hTF := hT.store HX.out 5 (.int .i64 (x.held + 1)) (x' := { x with held := x.held + 1 }) rfl rfl rfl
       have HTF := zz hTF
       have HUF := zz ((Turn.of_below F hb).trans (turn_store F w4 (y.f i) 5 (.int .i64 (x.held + 1)) (hT.foot_f HX.out)))
       clear hTF hb hb4 hT HQ1 HQ2 HQ1' HB1 HB2))
   go_ret
   obtain ⟨rfl, rfl⟩ := HP.out
   exact ⟨rfl, y, F, HTF.out, HUF.out⟩
 · have HP : Hid (r = q ∧ t' = t) := by
    unfold holdP at hr
    rw [if_neg (by rw [hq]; exact hz), hq] at hr
    injection hr with a b
    exact ⟨a.symm, b.symm⟩
   have hq0 : (q == 0) = false := by simpa using hz
   clear h hi hK hK0 hr hq hz
   go_enter Tryz.func178, Tryz.ntmps178
   go_wp2_with (first
    | (go_at_call 81; (with_reducible refine (HTh.out _ _ _ (below_a1 w _) (SliceAt.built' _ [.int .u32 i] _ (w.heap.size) rfl)).mono ?_); rintro e w1 hq; obtain ⟨g1, l1, rfl, hq1, hb1⟩ := hq.get; have HQ1 := zz hq1; have HB1 := zz (ptrans (below_a1 w _) hb1); clear hq hq1 hb1)
    | (go_at_call 89; (with_reducible refine (HFl.out _ HB1.out).mono ?_); rintro e w2 ⟨g2, l2, rfl, hq2, hb2⟩; have HQ2 := zz hq2; have HB2 := zz (ptrans HB1.out hb2); have HQ1' := zz (HQ1.out.later hb2); clear hq2 hb2)
    | (go_at_call 80; (with_reducible refine (check_built w2 P [.func (.func g1) #[] l1, .func (.func g2) #[] l2] 2 [thereE t [i], fileE' t i] q HE.out _ rfl (by omega) (asked2 HQ1'.out HQ2.out) (by simp)).mono ?_); rintro e w4 ⟨rfl, hb4⟩
       have HB := zz (ptrans (ptrans HB2.out (below_a1 _ _)) hb4)
       clear hb4 HQ1 HQ2 HQ1' HB1 HB2))
   go_ret
   obtain ⟨rfl, rfl⟩ := HP.out
   exact ⟨rfl, became_below HT.out (Nat.le_refl _) HB.out⟩
def heldR (t : PT) (i : Int) : Int := match t.n i with | some x => x.held | none => 0
theorem t_drop1 (i : Int) (x : PN) (B1 B2 : Nat) (r : Int) (hr : heldE x = r) (w : World) (h : TreeM w F P N y t) (hx : t.n i = some x)
  (hc1 : w.cell? ⟨B1, 0, none⟩ = some (.pointer (some ⟨P, 0, none⟩))) (hc2 : w.cell? ⟨B2, 0, none⟩ = some (.int .u32 i)) :
  Calls Tryz.prog 188 #[.pointer (some ⟨B1, 0, none⟩), .pointer (some ⟨B2, 0, none⟩)] w (AQ r w) := by
 have c1 := h.c1
 have hl : ∀ n, (Instr.lookup 106 (.map (some y.M)) (.int .u32 i) false).run Tryz.prog (w.drewN n) = .ok (.pointer (some ⟨y.f i, 0, none⟩)) (w.drewN n) := fun n => (h.drewN n).look_some hx
 have k1 : w.cell? ⟨y.f i, 5, none⟩ = some (.int .i64 x.held) := (h.node i x hx).cell 5
 obtain ⟨b, hb⟩ : ∃ b, (x.held == 0) = b := ⟨_, rfl⟩
 have HR : Hid ((if b = true then (3 : Int) else 0) = r) := by show _ = _; rw [← hr, ← hb]; simp [heldE]
 clear hr hx h
 go_enter Tryz.func188, Tryz.ntmps188
 go_wp2
 go_quiet ((go_at_call 120; exact quiet_eq (t_as b 3 _ HR.out _)))
 go_wp2
 go_ret
 exact AQ.mk rfl (pbelow_drewN (Below.refl _ _) _)
theorem enters_drop : Enters 188 := enters_of Tryz.func188 (by kernel_rfl) rfl
theorem q_drop {w : World} {B1 B2 : Nat} {i r : Int} (hx : (t.n i).isSome = true) (hr : heldE' t i = r) (h : TreeM w F P N y t) (hB1 : B1 < w.heap.size) (hB2 : B2 < w.heap.size) (hc1 : w.cell? ⟨B1, 0, none⟩ = some (.pointer (some ⟨P, 0, none⟩))) (hc2 : w.cell? ⟨B2, 0, none⟩ = some (.int .u32 i)) :
  Question w (.func (.func 188) #[] #[.pointer (some ⟨B1, 0, none⟩), .pointer (some ⟨B2, 0, none⟩)]) r := by
 obtain ⟨x, hx⟩ := Option.isSome_iff_exists.1 hx
 exact ⟨_, _, rfl, enters_drop, fun W hW => t_drop1 i x B1 B2 r (by rw [← hr]; unfold heldE'; rw [hx]) W (h.below hW) hx (cell_below hW hB1 hc1) (cell_below hW hB2 hc2)⟩
end
end
section
open Go.RowKit Go.Maps
section
variable {F : Nat → Prop} {P N : Nat} {y : Lay} {t : PT}
set_option maxRecDepth 100000 in
set_option maxHeartbeats 8000000 in
theorem t_unholdP (i r : Int) (t' : PT) (hr : unholdP t i = (r, t')) (w : World) (h : TreeM w F P N y t) (hi : U32 i) (hK : HeldK 1000000000 t) (hK0 : ∀ x, t.n i = some x → 0 ≤ x.held) :
  Calls Tryz.prog 114 #[.pointer (some ⟨P, 0, none⟩), .int .u32 i] w fun e w' => e = .returned (.int .i64 r) ∧ Became w w' F P N t' := by
 go_enter Tryz.func114, Tryz.ntmps114
 go_wp2
 obtain ⟨w0, hw0⟩ : ∃ w0, (w.alloc (.cells #[.pointer (some ⟨P, 0, none⟩)] 43)).alloc (.cells #[.int .u32 i] 29) = w0 := ⟨_, rfl⟩
 obtain ⟨hBw, b2, b3, hsz⟩ := two_boxes w (.pointer (some ⟨P, 0, none⟩)) (.int .u32 i) 43 29
 rw [hw0] at hBw b2 b3 hsz ⊢
 have hT : TreeM w0 F P N y t := h.below hBw
 clear hw0
 refine wp_region_all (phi [isV (.pointer (some ⟨P, 0, none⟩)), isV (.pointer (some ⟨P, 0, none⟩)), isV (.int .u32 i), isSl [.int .u32 i], isQ True (thereE t [i]), isV (.func (.func 188) #[] #[.pointer (some ⟨w.heap.size, 0, none⟩), .pointer (some ⟨w.heap.size + 1, 0, none⟩)]), isAsk 2 [thereE t [i], heldE' t i], isV (.int .i64 (firstE [thereE t [i], heldE' t i])), isV (.int .i64 (firstE [thereE t [i], heldE' t i]))]) (by kernel_rfl) (by kernel_rfl) ?_ ?_ ?_
 · refine stays_phi ?_
   simp only [List.forall_mem_cons]
   exact ⟨stays_V _, stays_V _, stays_V _, stays_Sl _, stays_Q _ _, stays_V _, stays_Ask _ _, stays_V _, stays_V _, fun _ h => absurd h (by simp)⟩
 · refine ⟨?_, ?_, ?_, ?_, ?_, ?_, ?_, ?_, ?_, trivial⟩
   · refine op_mk rfl fun a W hB hp hq K hK => ?_
     have e2 : a.tmps[2]?.getD undef = .pointer (some ⟨w.heap.size, 0, none⟩) := hp 2 (by kernel_rfl)
     have cc := box_at hB b2
     clear hp hq
     go_simp
     exact hK _ _ (Below.refl _ _) rfl
   · refine op_mk rfl fun a W hB hp hq K hK => ?_
     have e2 : a.tmps[2]?.getD undef = .pointer (some ⟨w.heap.size, 0, none⟩) := hp 2 (by kernel_rfl)
     have cc := box_at hB b2
     clear hp hq
     go_simp
     exact hK _ _ (Below.refl _ _) rfl
   · refine op_mk rfl fun a W hB hp hq K hK => ?_
     have e3 : a.tmps[3]?.getD undef = .pointer (some ⟨w.heap.size + 1, 0, none⟩) := hp 3 (by kernel_rfl)
     have cc := box_at hB b3
     clear hp hq
     go_simp
     exact hK _ _ (Below.refl _ _) rfl
   · refine op_mk rfl fun a W hB hp hq K hK => ?_
     have e8 : a.tmps[8]?.getD undef = .int .u32 i := hq 2 8 (by kernel_rfl) (by kernel_rfl)
     clear hp hq
     go_simp
     exact hK _ _ ((Below.refl _ _).alloc (Nat.le_refl _) _) ⟨_, _, rfl, SliceAt.built _ _ _⟩
   · refine op_mk rfl fun a W hB hp hq K hK => ?_
     have e7 : a.tmps[7]?.getD undef = .pointer (some ⟨P, 0, none⟩) := hq 1 7 (by kernel_rfl) (by kernel_rfl)
     obtain ⟨A, c, e9, hA⟩ : isSl [.int .u32 i] (a.tmps[9]?.getD undef) W := hq 3 9 (by kernel_rfl) (by kernel_rfl)
     have HA := zz hA
     clear hA
     have HB := zz hB
     clear hp hq hB
     go_simp
     refine (t_there [i] A 1 c _ rfl W (hT.below HB.out) rfl (by simpa using hi) (by simp [maxLen]) HA.out).mono ?_
     rintro e w' ⟨v, rfl, hv, hb⟩
     exact hK _ _ hb (isQ.of hv)
   · refine op_mk rfl fun a W hB hp hq K hK => ?_
     have e2 : a.tmps[2]?.getD undef = .pointer (some ⟨w.heap.size, 0, none⟩) := hp 2 (by kernel_rfl)
     have e3 : a.tmps[3]?.getD undef = .pointer (some ⟨w.heap.size + 1, 0, none⟩) := hp 3 (by kernel_rfl)
     clear hp hq
     go_simp
     exact hK _ _ (Below.refl _ _) rfl
   · refine op_mk rfl fun a W hB hp hq K hK => ?_
     obtain ⟨g1, l1, q1, h1⟩ : isQ True (thereE t [i]) (a.tmps[10]?.getD undef) W := hq 4 10 (by kernel_rfl) (by kernel_rfl)
     have q2 : a.tmps[11]?.getD undef = (.func (.func 188) #[] #[.pointer (some ⟨w.heap.size, 0, none⟩), .pointer (some ⟨w.heap.size + 1, 0, none⟩)]) := hq 5 11 (by kernel_rfl) (by kernel_rfl)
     have H1 := zz h1
     clear h1
     have HB := zz hB
     clear hp hq hB
     go_simp
     have hb := (Below.refl W.heap.size W).alloc (Nat.le_refl _) (.cells #[.func (.func g1) #[] l1, (.func (.func 188) #[] #[.pointer (some ⟨w.heap.size, 0, none⟩), .pointer (some ⟨w.heap.size + 1, 0, none⟩)])] 159)
     have q2' := fun hx => q_drop (i := i) hx rfl (hT.below HB.out) (Nat.lt_of_lt_of_le (by omega) HB.out.size) (Nat.lt_of_lt_of_le (by omega) HB.out.size) (box_at HB.out b2) (box_at HB.out b3)
     exact hK _ _ hb ⟨_, _, _, rfl, rfl, SliceAt.built _ _ _, (asked2h (H1.out trivial) q2').later hb⟩
   · refine op_mk rfl fun a W hB hp hq K hK => ?_
     have e6 : a.tmps[6]?.getD undef = .pointer (some ⟨P, 0, none⟩) := hq 0 6 (by kernel_rfl) (by kernel_rfl)
     obtain ⟨A, c, vs, e12, hl, hA, hq1⟩ : isAsk 2 [thereE t [i], heldE' t i] (a.tmps[12]?.getD undef) W := hq 6 12 (by kernel_rfl) (by kernel_rfl)
     have HA := zz hA
     have HQ := zz hq1
     clear hp hq hA hq1
     go_simp
     refine (t_checkL ⟨P, 0, none⟩ A vs 2 c [thereE t [i], heldE' t i] _ rfl W hl (by rw [hl]; simp [maxLen]) HA.out HQ.out (by simp)).mono ?_
     rintro e w' ⟨rfl, hb⟩
     exact hK _ _ hb rfl
   · refine op_mk rfl fun a W hB hp hq K hK => ?_
     have e13 : a.tmps[13]?.getD undef = .int .i64 (firstE [thereE t [i], heldE' t i]) := hq 7 13 (by kernel_rfl) (by kernel_rfl)
     clear hp hq
     go_simp
     exact hK _ _ (Below.refl _ _) rfl
 · intro vs W hB hv
   have f7 : vs 7 = .int .i64 (unholdE t i) := hv 7 (by decide) (by kernel_rfl)
   have f8 : vs 8 = .int .i64 (unholdE t i) := hv 8 (by decide) (by kernel_rfl)
   clear hv
   have hBW : Below w.heap.size w W := ptrans hBw hB
   have hTW : TreeM W F P N y t := h.below hBW
   have d2 := box_at hB b2
   have d3 := box_at hB b3
   clear hB b2 b3 hT hBw
   simp only [putAll, Act.put, List.setIfInBounds_toArray, List.set_cons_succ, List.set_cons_zero, Nat.zero_add, Nat.reduceAdd, f7, f8]
   by_cases he : unholdE t i = 0
   · have he0 := he
     unfold unholdE at he0
     obtain ⟨z1, he0⟩ := firstE_cons he0
     obtain ⟨z2, _⟩ := firstE_cons he0
     obtain ⟨x, hx⟩ := Option.isSome_iff_exists.1 (there_one z1)
     have hP : Hid (r = 0 ∧ t' = unholdT t i x) := by
      unfold unholdP at hr
      rw [if_pos he, hx] at hr
      injection hr with a b
      exact ⟨a.symm, b.symm⟩
     have c1 := hTW.c1
     have hlk : (Instr.lookup 106 (.map (some y.M)) (.int .u32 i) false).run Tryz.prog W.drew = .ok (.pointer (some ⟨y.f i, 0, none⟩)) W.drew := (hTW.drewN 1).look_some hx
     have n5 : W.cell? ⟨y.f i, 5, none⟩ = some (.int .i64 x.held) := (hTW.node i x hx).cell 5
     have nf5 := (hTW.node i x hx).frozen 5
     have hh := hK i x hx
     have hh0 := hK0 x hx
     have hwr : IntKind.i64.wrap (x.held - 1) = x.held - 1 := IntWalk.i64_in _ (by omega)
     have HTW := zz hTW
     have HBW := zz hBW
     have HX := zz hx
     have HF := zz h
     rw [he]
     clear hr he z1 z2 hx hTW hBW f7 f8 h hK hK0
     go_wp2
     go_still_tail 12, (by kernel_rfl)
     change wpList _ _ _ _ _ W.drew
     have HD : Hid (Below W.heap.size W W.drew) := pbelow_drewN (Below.refl _ _) 1
     clear hlk n5 c1 nf5
     generalize W.drew = w2 at *
     have hT2 : TreeM w2 F P N y t := HTW.out.below HD.out
     have c1 := hT2.c1
     have n5 : w2.cell? ⟨y.f i, 5, none⟩ = some (.int .i64 x.held) := (hT2.node i x HX.out).cell 5
     have nf5 := (hT2.node i x HX.out).frozen 5
     have hnF : ¬ F w.heap.size := fun hh => by have := HF.out.lt _ hh; omega
     have hnF1 : ¬ F (w.heap.size + 1) := fun hh => by have := HF.out.lt _ hh; omega
     have ne2 : y.f i ≠ w.heap.size := fun e => hnF (e ▸ hT2.foot_f HX.out)
     have ne3 : y.f i ≠ w.heap.size + 1 := fun e => hnF1 (e ▸ hT2.foot_f HX.out)
     have ot : ∀ B v, y.f i ≠ B → w2.cell? ⟨B, 0, none⟩ = some v → (w2.setCell ⟨y.f i, 5, none⟩ (.int .i64 (x.held - 1))).cell? ⟨B, 0, none⟩ = some v := fun B v hB hc => (World.cell?_of_block (Below.heap_setCell w2 ⟨y.f i, 5, none⟩ _ B (Ne.symm hB))).trans hc
     have dd2 := ot _ _ ne2 (box_at HD.out d2)
     have dd3 := ot _ _ ne3 (box_at HD.out d3)
     have hTF := hT2.store HX.out 5 (.int .i64 (x.held - 1)) (x' := { x with held := x.held - 1 }) rfl rfl rfl
     have hU := ((Turn.of_below F HBW.out).trans (Turn.of_below F HD.out)).trans (turn_store F w2 (y.f i) 5 (.int .i64 (x.held - 1)) (hT2.foot_f HX.out))
     have hi2 : (t.set i { x with held := x.held - 1 }).n i = some { x with held := x.held - 1 } := by rw [PT.set_n, if_pos rfl]
     have HFR := zz (t_freeP i _ _ hTF hi2)
     have HUF := zz hU
     clear d2 d3 hnF hnF1 ne2 ne3 ot hTF hU hi2 hT2 hh hh0
     go_wp2_with (go_at_call 189; refine HFR.out.mono ?_; rintro e w3 ⟨rfl, hT3, hU3⟩; have HT3 := zz hT3; have HU3 := zz (HUF.out.trans hU3); clear hT3 hU3)
     go_ret
     obtain ⟨rfl, rfl⟩ := hP.out
     exact ⟨rfl, y, F, HT3.out, HU3.out⟩
   · have hP : Hid (r = unholdE t i ∧ t' = t) := by
      unfold unholdP at hr
      rw [if_neg he] at hr
      injection hr with a b
      exact ⟨a.symm, b.symm⟩
     have HH : Hid (TreeM W F P N y t ∧ Below w.heap.size w W) := ⟨hTW, hBW⟩
     generalize unholdE t i = q at *
     have he' : (q == 0) = false := by simpa using he
     clear hr he hTW hBW f7 f8 d2 d3 h hK hK0
     go_wp2
     go_ret
     obtain ⟨rfl, rfl⟩ := hP.out
     exact ⟨rfl, _, _, HH.out.1, Turn.of_below F HH.out.2⟩
end
end

section
open Go.RowKit Go.Maps
theorem sorted_unique {α : Type} {r : α → α → Prop} (hi : ∀ a b, r a b → r b a → False) : ∀ {l m : List α}, l.Pairwise r → m.Pairwise r → (∀ x, x ∈ l ↔ x ∈ m) → l = m
 | [], [], _, _, _ => rfl
 | [], b :: m, _, _, h => absurd ((h b).2 (by simp)) (by simp)
 | a :: l, [], _, _, h => absurd ((h a).1 (by simp)) (by simp)
 | a :: l, b :: m, h1, h2, h => by
  rw [List.pairwise_cons] at h1 h2
  have e : a = b := by
   rcases List.mem_cons.1 ((h a).1 (by simp)) with e | ha
   · exact e
   · rcases List.mem_cons.1 ((h b).2 (by simp)) with e | hb
     · exact e.symm
     · exact (hi a b (h1.1 b hb) (h2.1 a ha)).elim
  subst e
  rw [sorted_unique hi h1.2 h2.2 (fun x => ?_)]
  constructor
  · intro hx
    rcases List.mem_cons.1 ((h x).1 (List.mem_cons_of_mem _ hx)) with e | h3
    · subst e
      exact (hi x x (h1.1 x hx) (h1.1 x hx)).elim
    · exact h3
  · intro hx
    rcases List.mem_cons.1 ((h x).2 (List.mem_cons_of_mem _ hx)) with e | h3
    · subst e
      exact (hi x x (h2.1 x hx) (h2.1 x hx)).elim
    · exact h3
theorem ents_unique {l : List UInt8 → Option Int} {L1 L2 : List E} (h1 : EntsOf l L1) (h2 : EntsOf l L2) : L1 = L2 := by
 have ext : ∀ a b : E, nameL a = nameL b → a.2 = b.2 → a = b := fun a b e1 e2 => by
  obtain ⟨⟨⟨a1⟩⟩, a2⟩ := a
  obtain ⟨⟨⟨b1⟩⟩, b2⟩ := b
  simp only [nameL] at e1 e2
  subst e2
  have : a1 = b1 := by simpa using e1
  subst this
  rfl
 refine sorted_unique (r := fun a b => nameL a < nameL b) (fun a b x y => List.lt_irrefl _ (List.lt_trans x y)) h1.sorted h2.sorted fun x => ?_
 constructor
 · intro hx
   obtain ⟨z, hz, e1, e2⟩ := (h2.mem (nameL x) x.2).2 ((h1.mem (nameL x) x.2).1 ⟨x, hx, rfl, rfl⟩)
   rw [← ext z x e1 e2]
   exact hz
 · intro hx
   obtain ⟨z, hz, e1, e2⟩ := (h1.mem (nameL x) x.2).2 ((h2.mem (nameL x) x.2).1 ⟨x, hx, rfl, rfl⟩)
   rw [← ext z x e1 e2]
   exact hz
end

section
open Go.RowKit Go.Maps
def Two (B : Nat) (w1 : World) (P P2 N : Nat) (t t2 : PT) (w : World) : Prop := ∃ y F y2 F2, TreeM w F P N y t ∧ TreeM w F2 P2 N y2 t2 ∧ WellP t ∧ WellP t2 ∧ (∀ b, F b → B ≤ b) ∧ (∀ b, F2 b → ¬ F b) ∧ B ≤ w.heap.size ∧ Below B w1 w
end

section
open Go.ChangeShapes Go.WideShapes Go.ChangeAt Go.RowKit
section
variable {H : Type} {enc : TypeId × Value → H} {P : Program}
theorem trodAll_below (hl : laidOutB P = true) {W W' : World} (hb : Below W.heap.size W W') :
  ∀ (ts : List TypeId) (vs : List Value) (ds : List (DataW H)) (ps : List MemPlace), (∀ t ∈ ts, P.readableRec t = true ∧ t < P.types.size) →
   DataW.TrodAll enc P W 0 (fun _ => true) true ts vs ds ps → (∀ x ∈ ps, x.block < W.heap.size) → DataW.TrodAll enc P W' 0 (fun b => decide (b < W.heap.size)) true ts vs ds ps
 | [], [], [], ps, _, h, _ => h
 | t :: ts, v :: vs, d :: ds, ps, hr, h, hlt => by
  obtain ⟨p, q, h1, h2, rfl⟩ := h
  refine ⟨p, q, ?_, ?_, rfl⟩
  · exact Below.trod hl (hr t (List.mem_cons_self ..)).1 (hr t (List.mem_cons_self ..)).2 h1 hb (fun x hx => hlt x (List.mem_append_left _ hx))
  · exact trodAll_below hl hb ts vs ds q (fun t ht => hr t (List.mem_cons_of_mem _ ht)) h2 (fun x hx => hlt x (List.mem_append_right _ hx))
 | [], [], _ :: _, _, _, h, _ => h.elim
 | [], _ :: _, _, _, _, h, _ => h.elim
 | _ :: _, [], _, _, _, h, _ => h.elim
 | _ :: _, _ :: _, [], _, _, h, _ => h.elim
theorem law_post {f : Func} {s : ChangeSpec} {tb : TypeId} {W W' : World} {args : Array Value} {ds gs : List (DataW H)} {before : List MemPlace}
  (hl : laidOutB P = true) (hr : f.params.toList.all (fun t => P.readableRec t && decide (t < P.types.size)) = true) (hv : s.vars = []) (hrt : f.resultTypes = #[tb]) (htb : P.underlying tb = some .bool)
  (hW : DataW.Whole enc P f.params.toList s.vars false W args.toList ds gs before)
  (hfn : s.fn H (ds ++ gs) = { results := [.lit (.bool true)], args := ds }) (hb : Below W.heap.size W W') :
  s.post enc P f false true false false W args (.bool true) W' := by
 have hW' := hW
 obtain ⟨p, q, hA, hV, rfl, _, _⟩ := hW
 rw [hv] at hV
 obtain ⟨rfl, rfl⟩ := trodVars_none hV
 have hlt : ∀ x ∈ p, x.block < W.heap.size := fun x hx => by simpa using hW'.lt x (List.mem_append_left _ hx)
 refine ⟨ds, [], p ++ [], [], p, [], hW', ?_, ?_, ?_, hb.frame _, fun h => by cases h⟩
 · rw [hfn, hrt]
   exact trodAll_mk1 (shut_bool htb true)
 · rw [hfn]
   exact trodAll_below hl hb _ _ _ _ (fun t ht => by have := List.all_eq_true.1 hr t ht; simpa using this) hA hlt
 · rw [hfn, hv]
   rfl
end
theorem own : ownKnob Tryz.prog.godebug = none := by kernel_rfl
theorem laidOut : laidOutB Tryz.prog = true := by kernel_rfl
theorem add_flat {b o : Nat} (i : Nat) : (⟨b, o, none⟩ : Addr).add i = ⟨b, o + i, none⟩ := by unfold Addr.add; split <;> simp_all
end

section
open Go.RowKit Go.Maps
variable {t : PT}
open Classical in
noncomputable def entsOf (t : PT) (d : Int) : List E := if h : ∃ L, EntsOf (listL t d) L then Classical.choose h else []
theorem entsOf_spec {d : Int} {L : List E} (h : EntsOf (listL t d) L) : entsOf t d = L := by
 have hex : ∃ L, EntsOf (listL t d) L := ⟨L, h⟩
 unfold entsOf
 rw [dif_pos hex]
 exact ents_unique (Classical.choose_spec hex) h
end
end Go.Proofs.YtpcnolkdnmolgaaGreatDoor
