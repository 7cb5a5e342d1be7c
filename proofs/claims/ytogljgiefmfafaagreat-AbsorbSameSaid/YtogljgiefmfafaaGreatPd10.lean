/- The program's tree, plain: Rename, and that it leaves the tree well. -/
import Derived.Test.YtogljgiefmfafaaGreatPd00
import Derived.Test.YtogljgiefmfafaaGreatPd07
import Derived.Test.YtogljgiefmfafaaGreatPd09
import Derived.Laws.StructEq
namespace Go.Proofs.YtogljgiefmfafaaGreat
open Go.RowKit Go.Maps
variable {t : PT}
theorem PT.ext' {t u : PT} (h1 : t.room = u.room) (h2 : ∀ j, t.n j = u.n j) : t = u := by
 cases t; cases u
 simp only at h1 h2
 subst h1
 congr 1
 funext j
 exact h2 j
theorem belowP_ends {top : Int} : ∀ (k n : Nat) (j : Int), Ends t k j → belowP t top n j = true → belowP t top k j = true
 | 0, n, j, h, hb => by
  have : j = 0 := h
  subst this
  rw [belowP_zero] at hb; cases hb
 | k + 1, 0, j, h, hb => by cases hb
 | k + 1, n + 1, j, h, hb => by
  unfold belowP at hb ⊢
  by_cases h0 : j = 0
  · rw [if_pos h0] at hb; cases hb
  · rw [if_neg h0] at hb ⊢
    by_cases h1 : j = top
    · rw [if_pos h1]
    · rw [if_neg h1] at hb ⊢
      have h2 : j = 0 ∨ ((t.n j).isSome = true ∧ Ends t k (upAt t j)) := h
      exact belowP_ends k n _ (h2.resolve_left h0).2 hb
theorem WellP.ends_at (h : WellP t) {b : Int} {xb : PN} (hb : t.n b = some xb) (hk : xb.kind = 2) : ∃ k, Ends t k b := by
 obtain ⟨r, hr⟩ := h.ends
 exact ⟨r b + 1, hr _ b (.inr ⟨xb, hb, hk, by omega⟩)⟩
theorem bel_ends {top : Int} {k : Nat} {j : Int} (h : Ends t k j) : belowP t top k j = true ↔ Bel t top j :=
 ⟨fun e => ⟨k, e⟩, fun ⟨n, e⟩ => belowP_ends k n j h e⟩
theorem bel_sub {u : PT} {top : Int} (hu : ∀ j z, u.n j = some z → ∃ z0, t.n j = some z0 ∧ z.up = z0.up) : ∀ (n : Nat) (j : Int), belowP u top n j = true → belowP t top n j = true
 | 0, j, h => by cases h
 | n + 1, j, h => by
  unfold belowP at h ⊢
  by_cases h0 : j = 0
  · rw [if_pos h0] at h; cases h
  · rw [if_neg h0] at h ⊢
    by_cases h1 : j = top
    · rw [if_pos h1]
    · rw [if_neg h1] at h ⊢
      cases hj : u.n j with
      | none =>
       have e : upAt u j = 0 := by unfold upAt; rw [hj]
       rw [e, belowP_zero] at h; cases h
      | some z =>
       obtain ⟨z0, hz0, hup⟩ := hu j z hj
       have e : upAt u j = upAt t j := by unfold upAt; rw [hj, hz0]; exact hup
       rw [e] at h
       exact bel_sub hu n _ h
section
variable {a b i : Int} {s s2 : ByteArray} {xa xb y : PN}
theorem WellP.mvfile (h : WellP t) (ha : t.n a = some xa) (hl : xa.l s.data.toList = some i) (hi : t.n i = some y) (hk : y.kind = 1) (hb : t.n b = some xb) (hbk : xb.kind = 2) (hf : xb.l s2.data.toList = none) {xb3 : PN} (h3 : (leaveT t a xa s i y).n b = some xb3) :
  WellP (enterT (leaveT t a xa s i y) b xb3 s2 i (outN y)) := by
 obtain ⟨hak, hi1, hia, y', hy', _⟩ := h.ent a xa _ i ha hl
 rw [hi] at hy'
 cases hy'
 have hib : i ≠ b := fun e => by rw [← e, hi] at hb; cases hb; omega
 have hout : outN y = { y with links := y.links - 1 } := by unfold outN; rw [if_neg (by omega)]
 have hheld := h.held i y hi
 have hmost := h.most i y hi
 obtain ⟨y1, hy1⟩ : ∃ y1 : PN, y1 = { y with held := y.held + 1 } := ⟨_, rfl⟩
 have hk1 : y1.kind = 1 := by rw [hy1]; exact hk
 have hout1 : outN y1 = { y with held := y.held + 1, links := y.links - 1 } := by unfold outN; rw [if_neg (by omega), hy1]
 have w1 : WellP (t.set i y1) := by
  rw [hy1]
  exact h.put hi rfl rfl rfl rfl (by show 0 ≤ y.held + 1; omega) (fun c => by omega) (fun _ _ => by show 0 < y.held + 1; omega) ⟨(h.pages i y hi).len, (h.pages i y hi).size⟩
 have ha1 : (t.set i y1).n a = some xa := by rw [PT.set_n, if_neg (fun e => hia e.symm)]; exact ha
 have hi1' : (t.set i y1).n i = some y1 := by rw [PT.set_n, if_pos rfl]
 have w2 := w1.drop ha1 hl hi1' (fun c => by omega)
 have hg : goneB i (outN y1) = false := by
  unfold goneB
  have : ((outN y1).held == 0) = false := by rw [hout1]; simp; omega
  rw [this]
  simp
 have e2 : dropT (t.set i y1) a xa s i y1 = leaveT (t.set i y1) a xa s i y1 := by
  unfold dropT freeP
  rw [hg]
  rfl
 rw [e2] at w2
 have hb2 : (leaveT (t.set i y1) a xa s i y1).n b = some xb3 := by
  rw [leave_n hia] at h3 ⊢
  by_cases c : b = a
  · rw [if_pos c] at h3 ⊢; exact h3
  · rw [if_neg c, if_neg (fun e => hib e.symm)] at h3 ⊢
    rw [PT.set_n, if_neg (fun e => hib e.symm)]; exact h3
 have hxb3 : xb3.kind = 2 ∧ xb3.l s2.data.toList = none := by
  rw [leave_n hia] at h3
  by_cases c : b = a
  · rw [if_pos c] at h3
    cases h3
    rw [c, ha] at hb
    cases hb
    refine ⟨hbk, ?_⟩
    show (if s2.data.toList = s.data.toList then none else xa.l s2.data.toList) = none
    split
    · rfl
    · exact hf
  · rw [if_neg c, if_neg (fun e => hib e.symm), hb] at h3
    cases h3
    exact ⟨hbk, hf⟩
 have hi2 : (leaveT (t.set i y1) a xa s i y1).n i = some (outN y1) := by rw [leave_n hia, if_neg hia, if_pos rfl]
 have w3 := w2.link (s := s2) hb2 hxb3.1 hxb3.2 hi2 (by rw [hout1]; exact hk) (by rw [hout1]; show y.links - 1 < 1000000; omega)
 have hi3 : (enterT (leaveT (t.set i y1) a xa s i y1) b xb3 s2 i (outN y1)).n i = some (inN (outN y1) b) := by rw [enter_n, if_pos rfl]
 have hin1 : inN (outN y1) b = { y with held := y.held + 1, links := y.links - 1 + 1 } := by
  rw [hout1]; unfold inN; rw [if_neg (by show ¬ y.kind = 2; omega)]
 have hin : inN (outN y) b = { y with links := y.links - 1 + 1 } := by
  rw [hout]; unfold inN; rw [if_neg (by show ¬ y.kind = 2; omega)]
 rw [hin1] at hi3
 have w4 := w3.put (x' := { y with links := y.links - 1 + 1 }) hi3 rfl rfl rfl rfl hheld (fun c => by have c' : y.kind = 2 := c; omega)
  (fun _ c => by have c' : y.links - 1 + 1 = 0 := c; exact h.there i y hi hk (by omega)) ⟨(h.pages i y hi).len, (h.pages i y hi).size⟩
 have e : (enterT (leaveT (t.set i y1) a xa s i y1) b xb3 s2 i (outN y1)).set i { y with links := y.links - 1 + 1 } = enterT (leaveT t a xa s i y) b xb3 s2 i (outN y) := by
  refine PT.ext' rfl fun j => ?_
  rw [PT.set_n, enter_n, enter_n, leave_n hia, leave_n hia, PT.set_n, hin]
  by_cases c : j = i
  · rw [if_pos c, if_pos c]
  · rw [if_neg c, if_neg c, if_neg c, if_neg c, if_neg c, if_neg c]
 rw [← e]
 exact w4
def moveT (t : PT) (a : Int) (s : ByteArray) (b : Int) (s2 : ByteArray) (i : Int) : PT := match t.n a, t.n i with
 | some xa, some xi => match (leaveT t a xa s i xi).n b with
  | some xb => enterT (leaveT t a xa s i xi) b xb s2 i (outN xi)
  | none => t
 | _, _ => t
theorem WellP.move (h : WellP t) (ha : t.n a = some xa) (hl : xa.l s.data.toList = some i) (hi : t.n i = some y) (hb : t.n b = some xb) (hbk : xb.kind = 2) (hf : xb.l s2.data.toList = none) (hnb : y.kind = 2 → ¬ Bel t i b) :
  WellP (moveT t a s b s2 i) ∧ ∃ xb3, MoveOk t a s b s2 i (moveT t a s b s2 i) xa y xb3 (outN y) := by
 obtain ⟨hak, hi1, hia, y', hy', _⟩ := h.ent a xa _ i ha hl
 rw [hi] at hy'
 cases hy'
 have hi0 : i ≠ 0 := fun e => by have := (h.range i y hi).1; omega
 have hib : i ≠ b := fun e => by
  rw [← e, hi] at hb; cases hb
  exact hnb hbk (e ▸ bel_self hi0)
 have h3 : ∃ xb3, (leaveT t a xa s i y).n b = some xb3 := by
  rw [leave_n hia]
  by_cases c : b = a
  · exact ⟨_, if_pos c⟩
  · exact ⟨xb, by rw [if_neg c, if_neg (fun e => hib e.symm)]; exact hb⟩
 obtain ⟨xb3, h3⟩ := h3
 have e : moveT t a s b s2 i = enterT (leaveT t a xa s i y) b xb3 s2 i (outN y) := by
  unfold moveT
  rw [ha, hi]
  simp only
  rw [h3]
 have hmost := h.most i y hi
 have hm : 0 ≤ (outN y).links ∧ (outN y).links ≤ 1000000 := by
  unfold outN
  split
  · exact hmost
  · rename_i hk
    obtain ⟨L, n1, n2, n3⟩ := h.links i y hi ((h.kind i y hi).resolve_right hk)
    have l2 := List.length_pos_of_mem ((n2 (a, s.data.toList)).2 ⟨xa, ha, hl⟩)
    show 0 ≤ y.links - 1 ∧ y.links - 1 ≤ 1000000
    omega
 refine ⟨?_, xb3, ha, hl, hi, hia, hmost, h3, ?_, hib, hm, e⟩
 · rw [e]
   rcases h.kind i y hi with hk | hk
   · exact h.mvfile ha hl hi hk hb hbk hf h3
   · exact h.mvdir ha hl hi hk hb hbk hf (hnb hk) h3
 · rw [leave_n hia, if_neg hia, if_pos rfl]
end
open Classical in
noncomputable def renameP (t : PT) (a : Int) (s : ByteArray) (b : Int) (s2 : ByteArray) : Int × PT :=
 if firstE [namesE [s, s2], thereE t [a, b], dirsE t [a, b]] ≠ 0 then (firstE [namesE [s, s2], thereE t [a, b], dirsE t [a, b]], t)
 else if (lookP t a s).2 ≠ 0 then ((lookP t a s).2, t)
 else match t.n (lookP t a s).1, t.n b with
  | some xi, some xb =>
   if xi.kind = 2 ∧ Bel t (lookP t a s).1 b then (183, t)
   else match xb.l s2.data.toList with
    | none => (0, moveT t a s b s2 (lookP t a s).1)
    | some old =>
     if old = (lookP t a s).1 then (0, t)
     else match t.n old with
      | some xo => if givesE xi xo ≠ 0 then (givesE xi xo, t) else (0, moveT (dropT t b xb s2 old xo) a s b s2 (lookP t a s).1)
      | none => (0, t)
  | _, _ => (0, t)
theorem gives_zero {x old : PN} (h : givesE x old = 0) : (old.kind = 2 ↔ x.kind = 2) ∧ ∀ k, old.l k = none := by
 unfold givesE at h
 split at h
 · cases h
 · rename_i h1
   split at h
   · cases h
   · rename_i h2
     split at h
     · rename_i h3
       refine ⟨?_, emptyB_iff.1 h3⟩
       simp at h1 h2
       exact ⟨h1, fun c => Decidable.byContradiction fun d => h2 d c⟩
     · cases h
theorem rename_dirs {t : PT} {a b : Int} {s s2 : ByteArray} (h : firstE [namesE [s, s2], thereE t [a, b], dirsE t [a, b]] = 0) : ∃ xa xb, t.n a = some xa ∧ t.n b = some xb ∧ xa.kind = 2 ∧ xb.kind = 2 := by
 obtain ⟨_, h⟩ := firstE_cons h
 obtain ⟨z2, h⟩ := firstE_cons h
 obtain ⟨z3, _⟩ := firstE_cons h
 have hall := there_all z2
 obtain ⟨xa, hxa⟩ := Option.isSome_iff_exists.1 (hall a (by simp))
 obtain ⟨xb, hxb⟩ := Option.isSome_iff_exists.1 (hall b (by simp))
 exact ⟨xa, xb, hxa, hxb, dirs_zero z3 (by simp) hxa, dirs_zero z3 (by simp) hxb⟩
structure Over (t : PT) (a : Int) (s : ByteArray) (b : Int) (s2 : ByteArray) (ino old : Int) (xb xo : PN) (xa1 xi1 xb1 : PN) : Prop where
 well : WellP (dropT t b xb s2 old xo)
 na : (dropT t b xb s2 old xo).n a = some xa1
 ent : xa1.l s.data.toList = some ino
 ni : (dropT t b xb s2 old xo).n ino = some xi1
 nb : (dropT t b xb s2 old xo).n b = some xb1
 kind : xb1.kind = 2
 free : xb1.l s2.data.toList = none
 loop : xi1.kind = 2 → ¬ Bel (dropT t b xb s2 old xo) ino b
theorem WellP.over (h : WellP t) {a b ino old : Int} {s s2 : ByteArray} {xa xi xb xo : PN} (ha : t.n a = some xa) (hl : xa.l s.data.toList = some ino) (hi : t.n ino = some xi) (hb : t.n b = some xb) (hbk : xb.kind = 2) (ho : xb.l s2.data.toList = some old) (hoi : old ≠ ino) (hxo : t.n old = some xo)
  (hg : givesE xi xo = 0) (hnb : xi.kind = 2 → ¬ Bel t ino b) : ∃ xa1 xi1 xb1, Over t a s b s2 ino old xb xo xa1 xi1 xb1 := by
 obtain ⟨hg1, hg2⟩ := gives_zero hg
 have hw := h.drop hb ho hxo (fun _ => hg2)
 obtain ⟨_, _, hob, _⟩ := h.ent b xb _ old hb ho
 have hE := drop_ent (s := s2) hob hb hxo (fun _ => hg2)
 have hentA : Ent (dropT t b xb s2 old xo) a s.data.toList ino := (hE _ _ _).2 ⟨⟨xa, ha, hl⟩, fun c => by
  obtain ⟨c1, c2⟩ := c
  have e1 : Ent t b s2.data.toList ino := by rw [← c1, ← c2]; exact ⟨xa, ha, hl⟩
  have e2 : Ent t b s2.data.toList old := ⟨xb, hb, ho⟩
  exact hoi (e2.fun_ e1)⟩
 obtain ⟨xa1, ha1, hl1⟩ := hentA
 have hio : ino ≠ b := fun e => by
  have hi0 : ino ≠ 0 := fun e => by have := (h.range ino xi hi).1; omega
  rw [e, hb] at hi
  cases hi
  exact hnb hbk (e ▸ bel_self hi0)
 have hi1 : (dropT t b xb s2 old xo).n ino = some xi := by rw [drop_n hob, if_neg hio, if_neg (fun e => hoi e.symm)]; exact hi
 have hb1 : (dropT t b xb s2 old xo).n b = some { xb with l := delL xb.l s2.data.toList } := by rw [drop_n hob, if_pos rfl]
 refine ⟨xa1, xi, _, hw, ha1, hl1, hi1, hb1, hbk, ?_, ?_⟩
 · show (if s2.data.toList = s2.data.toList then none else xb.l s2.data.toList) = none
   rw [if_pos rfl]
 · intro hk ⟨n, hn⟩
   have hok : xo.kind = 2 := hg1.2 hk
   have hgone : goneB old (outN xo) = true := by
    obtain ⟨_, ho1, _⟩ := h.ent b xb _ old hb ho
    have hh := (h.dirs old xo hxo hok).2
    unfold goneB outN
    rw [if_pos hok]
    simp [ho1, hh, hok]
   refine hnb hk ⟨n, bel_sub (t := t) (fun j z hz => ?_) n b hn⟩
   rw [drop_n hob] at hz
   by_cases c : j = b
   · rw [if_pos c] at hz
     cases hz
     exact ⟨xb, c ▸ hb, rfl⟩
   · rw [if_neg c] at hz
     by_cases c2 : j = old
     · rw [if_pos c2, if_pos hgone] at hz; cases hz
     · rw [if_neg c2] at hz
       exact ⟨z, hz, rfl⟩
theorem WellP.renameP_ (h : WellP t) (a : Int) (s : ByteArray) (b : Int) (s2 : ByteArray) : WellP (renameP t a s b s2).2 := by
 unfold renameP
 split
 · exact h
 · rename_i h1
   obtain ⟨xa, xb, ha, hb, hak, hbk⟩ := rename_dirs (Decidable.not_not.1 h1)
   split
   · exact h
   · rename_i h2
     obtain ⟨xd, xi, g1, g2, g3, g4, _⟩ := look_okP h.good (Decidable.not_not.1 h2)
     rw [ha] at g1
     cases g1
     rw [g3, hb]
     simp only
     split
     · exact h
     · rename_i h3
       cases ho : xb.l s2.data.toList with
       | none => exact (h.move ha g2 g3 hb hbk ho (fun hk hB => h3 ⟨hk, hB⟩)).1
       | some old =>
        simp only
        split
        · exact h
        · rename_i h4
          obtain ⟨_, _, _, xo, hxo, _⟩ := h.ent b xb _ old hb ho
          rw [hxo]
          simp only
          split
          · exact h
          · rename_i h5
            obtain ⟨xa1, xi1, xb1, o⟩ := h.over ha g2 g3 hb hbk ho h4 hxo (Decidable.not_not.1 h5) (fun hk hB => h3 ⟨hk, hB⟩)
            exact (o.well.move o.na o.ent o.ni o.nb o.kind o.free o.loop).1
end Go.Proofs.YtogljgiefmfafaaGreat
namespace Go.Proofs.YtogljgiefmfafaaGreat
open Go.RowKit Go.Maps
variable {F : Nat → Prop} {P N : Nat} {y : Lay} {t : PT}
theorem became_below {w w' : World} {N' : Nat} (h : TreeM w F P N y t) (hN : N ≤ N') (hb : Below w.heap.size w w') : Became w w' F P N' t := ⟨y, F, (h.below hb).mono hN, Turn.of_below F hb⟩
theorem t_renameP (a : Int) (s : ByteArray) (b : Int) (s2 : ByteArray) (r : Int) (t' : PT) (hr : renameP t a s b s2 = (r, t')) (w : World) (h : TreeM w F P N y t) (hW : WellP t) (ha : U32 a) (hb : U32 b) (hs : s.size ≤ maxLen) (hs2 : s2.size ≤ maxLen) (hN : N < 900000) :
  Calls Tryz.prog 175 #[.pointer (some ⟨P, 0, none⟩), .int .u32 a, .string s, .int .u32 b, .string s2] w fun e w' => e = .returned (.int .i64 r) ∧ Became w w' F P (N + 1) t' := by
 unfold renameP at hr
 by_cases h1 : firstE [namesE [s, s2], thereE t [a, b], dirsE t [a, b]] ≠ 0
 · rw [if_pos h1] at hr
   cases hr
   exact (t_rename1 a s b s2 _ w h ha hb hs hs2 rfl h1).mono fun e w' hp => ⟨hp.1, became_below h (Nat.le_succ _) hp.2⟩
 · rw [if_neg h1] at hr
   have h1' := Decidable.not_not.1 h1
   obtain ⟨xa, xb, hxa, hxb, hak, hbk⟩ := rename_dirs h1'
   by_cases h2 : (lookP t a s).2 ≠ 0
   · rw [if_pos h2] at hr
     cases hr
     exact (t_rename2 a s b s2 _ _ w h ha hb hs hs2 h1' rfl h2).mono fun e w' hp => ⟨hp.1, became_below h (Nat.le_succ _) hp.2⟩
   · rw [if_neg h2] at hr
     have h2' := Decidable.not_not.1 h2
     obtain ⟨xd, xi, g1, g2, g3, g4, g5, g6, _⟩ := look_okP hW.good h2'
     obtain ⟨ino, hino⟩ : ∃ ino, (lookP t a s).1 = ino := ⟨_, rfl⟩
     have hlk : lookP t a s = (ino, 0) := Prod.ext hino h2'
     rw [hino] at g2 g3 g4 g5 g6 hr
     rw [hxa] at g1
     cases g1
     rw [g3, hxb] at hr
     simp only at hr
     obtain ⟨k, hk⟩ := hW.ends_at hxb hbk
     by_cases h3 : xi.kind = 2 ∧ Bel t ino b
     · rw [if_pos h3] at hr
       cases hr
       exact (t_renameLoop a s b s2 ino xi k w h ha hb hs hs2 h1' hlk g3 (by rw [h3.1]; rfl) hk ((bel_ends hk).2 h3.2)).mono fun e w' hp => ⟨hp.1, became_below h (Nat.le_succ _) hp.2⟩
     · rw [if_neg h3] at hr
       have hnb : xi.kind = 2 → ¬ Bel t ino b := fun hk hB => h3 ⟨hk, hB⟩
       have hBl : (xi.kind == 2) = true → Ends t k b ∧ belowP t ino k b = false := fun c => ⟨hk, by
        have := hnb (by simpa using c)
        rw [← bel_ends hk] at this
        simpa using this⟩
       cases ho : xb.l s2.data.toList with
       | none =>
        rw [ho] at hr
        simp only at hr
        cases hr
        obtain ⟨_, xb3, hm⟩ := hW.move hxa g2 g3 hxb hbk ho hnb
        exact t_rename4 a s b s2 ino xi xb _ _ _ _ k _ w h ha hb hs hs2 hN h1' hlk g3 hBl hxb (by rw [ho]; rfl) hm
       | some old =>
        rw [ho] at hr
        simp only at hr
        obtain ⟨_, ho1, hob, xo, hxo, _⟩ := hW.ent b xb _ old hxb ho
        have hor := hW.range old xo hxo
        by_cases h4 : old = ino
        · rw [if_pos h4] at hr
          cases hr
          exact (t_rename5 a s b s2 ino xi xb k w h ha hb hs hs2 h1' hlk g3 hBl hxb (by rw [ho]; exact h4) (by omega)).mono fun e w' hp => ⟨hp.1, became_below h (Nat.le_succ _) hp.2⟩
        · rw [if_neg h4, hxo] at hr
          simp only at hr
          by_cases h5 : givesE xi xo ≠ 0
          · rw [if_pos h5] at hr
            cases hr
            exact (t_rename6 a s b s2 ino old xi xb xo k _ w h ha hb hs hs2 h1' hlk g3 hBl hxb (by rw [ho]; rfl) (by omega) h4 hxo rfl h5).mono fun e w' hp => ⟨hp.1, became_below h (Nat.le_succ _) hp.2⟩
          · rw [if_neg h5] at hr
            cases hr
            have h5' := Decidable.not_not.1 h5
            obtain ⟨xa1, xi1, xb1, o⟩ := hW.over hxa g2 g3 hxb hbk ho h4 hxo h5' hnb
            obtain ⟨_, xb3, hm⟩ := o.well.move o.na o.ent o.ni o.nb o.kind o.free o.loop
            exact t_rename7 a s b s2 ino old xi xb xo _ _ _ _ k _ w h ha hb hs hs2 hN h1' hlk g3 hBl hxb (by rw [ho]; rfl) (by omega) h4 hxo h5' hob (hW.most old xo hxo) hm
end Go.Proofs.YtogljgiefmfafaaGreat

namespace Go.Proofs.YtogljgiefmfafaaGreat
open Go.RowKit Go.Maps
abbrev sa : ByteArray := { data := #[97] }
abbrev sf : ByteArray := { data := #[102] }
abbrev sg : ByteArray := { data := #[103] }
theorem name_one (c : UInt8) (h1 : c ≠ 46) (h2 : c ≠ 47) (h3 : c ≠ 0) : pnameB ⟨#[c]⟩ = true := by
 have e : (ByteArray.mk #[c]).size = 1 := rfl
 unfold pnameB pplainTo
 rw [ByteArray.toList_eq, e]
 simp [h1, h2, h3]
theorem names_ok {ss : List ByteArray} (h : ∀ s ∈ ss, pnameB s = true) : namesE ss = 0 := by
 unfold namesE
 rw [if_neg]
 intro hh
 obtain ⟨s, hs, hb⟩ := List.any_eq_true.1 hh
 rw [h s hs] at hb
 cases hb
theorem nm_a : pnameB sa = true := name_one 97 (by decide) (by decide) (by decide)
theorem nm_f : pnameB sf = true := name_one 102 (by decide) (by decide) (by decide)
theorem na : namesE [sa] = 0 := names_ok (by simpa using nm_a)
theorem nf : namesE [sf] = 0 := names_ok (by simpa using nm_f)
def A0 : PT := newT 8
def A1 : PT := makeT A0 1 sa 2 2
def A2 : PT := makeT A1 2 sf 1 3
def A3 : PT := linkT A2 1 sg 3
def x1 : PN := { newN 2 with l := updL (updL (fun _ => none) [97] 2) [103] 3 }
def x2 : PN := { newN 2 with up := 1, l := updL (fun _ => none) [102] 3 }
def x3 : PN := { newN 1 with links := 2 }
def y1 : PN := { newN 2 with l := updL (fun _ => none) [97] 2 }
def y2 : PN := { newN 2 with up := 1 }
def A4 : PT := leaveT A3 2 x2 sf 3 x3
def z2 : PN := { x2 with l := delL x2.l [102] }
def z3 : PN := { newN 1 with links := 1 }
def A5 : PT := dropT A4 1 x1 sa 2 z2
end Go.Proofs.YtogljgiefmfafaaGreat
namespace Go.Proofs.YtogljgiefmfafaaGreat
open Go.RowKit Go.Maps
def Sit (w W : World) (P N : Nat) (t : PT) : Prop := ∃ y F, TreeM W F P N y t ∧ Below w.heap.size w W ∧ ∀ b, F b → w.heap.size ≤ b
variable {w W : World} {P N : Nat} {t : PT}
def SitB (w W : World) (P N : Nat) (t : PT) (b : Nat) (o : Obj) : Prop := ∃ y F, TreeM W F P N y t ∧ Below w.heap.size w W ∧ (∀ b, F b → w.heap.size ≤ b) ∧ ¬ F b ∧ W.heap[b]? = some o
theorem u1 : U32 1 := ⟨by decide, by decide⟩
theorem u2 : U32 2 := ⟨by decide, by decide⟩
theorem u3 : U32 3 := ⟨by decide, by decide⟩
attribute [local irreducible] A0 A1 A2 A3 A4 A5 Sit SitB
end Go.Proofs.YtogljgiefmfafaaGreat

namespace Go.Proofs.YtogljgiefmfafaaGreat
open Go.RowKit Go.Maps
variable {t : PT}
def holdE (t : PT) (i : Int) : Int := firstE [thereE t [i], fileE' t i]
def holdP (t : PT) (i : Int) : Int × PT := if holdE t i = 0 then (0, match t.n i with | some x => t.set i { x with held := x.held + 1 } | none => t) else (holdE t i, t)
def heldE (x : PN) : Int := if x.held = 0 then 3 else 0
def heldE' (t : PT) (i : Int) : Int := match t.n i with | some x => heldE x | none => 0
def unholdE (t : PT) (i : Int) : Int := firstE [thereE t [i], heldE' t i]
def unholdT (t : PT) (i : Int) (x : PN) : PT := freeP (t.set i { x with held := x.held - 1 }) i { x with held := x.held - 1 }
def unholdP (t : PT) (i : Int) : Int × PT := if unholdE t i = 0 then (0, match t.n i with | some x => unholdT t i x | none => t) else (unholdE t i, t)
theorem WellP.holdP_ (h : WellP t) (i : Int) : WellP (holdP t i).2 := by
 unfold holdP
 by_cases h0 : holdE t i = 0
 · rw [if_pos h0]
   unfold holdE at h0
   obtain ⟨z1, h0⟩ := firstE_cons h0
   obtain ⟨z2, _⟩ := firstE_cons h0
   obtain ⟨x, hx⟩ := Option.isSome_iff_exists.1 (there_one z1)
   have hh := h.held i x hx
   have hk := file_zero hx z2
   rw [hx]
   exact h.put hx rfl rfl rfl rfl (by show 0 ≤ x.held + 1; omega) (fun c => absurd c hk) (fun _ _ => by show 0 < x.held + 1; omega) ⟨(h.pages i x hx).len, (h.pages i x hx).size⟩
 · rw [if_neg h0]; exact h
theorem WellP.gone (h : WellP t) {i : Int} {y : PN} (hi : t.n i = some y) (hk : y.kind = 1) (hl : y.links = 0) : WellP (t.del i) := by
 have hi1 : i ≠ 1 := fun e => by
  obtain ⟨z, hz, hzk, _⟩ := h.root
  rw [← e, hi] at hz; cases hz; omega
 have hno : ∀ a q, ¬ Ent t a q i := fun a q e => by
  obtain ⟨L, _, n2, n3⟩ := h.links i y hi hk
  have := List.length_pos_of_mem ((n2 (a, q)).2 e)
  omega
 have hnode : ∀ j z, (t.del i).n j = some z → j ≠ i ∧ t.n j = some z := fun j z hz => by
  rw [PT.del_n] at hz
  by_cases e : j = i
  · rw [if_pos e] at hz; cases hz
  · rw [if_neg e] at hz; exact ⟨e, hz⟩
 have hkeep : ∀ j z, t.n j = some z → j ≠ i → (t.del i).n j = some z := fun j z hz e => by rw [PT.del_n, if_neg e]; exact hz
 have hE : ∀ a q v, Ent (t.del i) a q v ↔ Ent t a q v := fun a q v => by
  constructor
  · rintro ⟨z, hz, hv⟩
    exact ⟨z, (hnode a z hz).2, hv⟩
  · rintro ⟨z, hz, hv⟩
    refine ⟨z, hkeep a z hz ?_, hv⟩
    rintro rfl
    rw [hi] at hz
    cases hz
    have := (h.ent a y q v hi hv).1
    omega
 refine ⟨h.room, ?_, ?_, ?_, ?_, ?_, ?_, ?_, ?_, ?_, ?_, ?_, ?_, ?_⟩
 · obtain ⟨z, hz, r⟩ := h.root
   exact ⟨z, hkeep 1 z hz (fun e => hi1 e.symm), r⟩
 · intro j z hz
   exact h.range j z (hnode j z hz).2
 · intro j z hz
   exact h.kind j z (hnode j z hz).2
 · intro d x k v hd hv
   obtain ⟨g1, g2, g3, y2, g4, g5⟩ := h.ent d x k v (hnode d x hd).2 hv
   refine ⟨g1, g2, g3, y2, hkeep v y2 g4 ?_, g5⟩
   rintro rfl
   exact hno d k ⟨x, (hnode d x hd).2, hv⟩
 · intro d k k' v z e1 e2 hz hk2
   exact h.one d k k' v z ((hE _ _ _).1 e1) ((hE _ _ _).1 e2) (hnode v z hz).2 hk2
 · intro j z hz hk2 hj
   obtain ⟨k, hen⟩ := h.up j z (hnode j z hz).2 hk2 hj
   exact ⟨k, (hE _ _ _).2 hen⟩
 · obtain ⟨r, hr⟩ := h.rank
   exact ⟨r, fun j z hz hk2 hu => hr j z (hnode j z hz).2 hk2 hu⟩
 · intro j z hz hk2
   obtain ⟨L, n1, n2, n3⟩ := h.links j z (hnode j z hz).2 hk2
   exact ⟨L, n1, fun p => by rw [n2, hE], n3⟩
 · intro j z hz; exact h.most j z (hnode j z hz).2
 · intro j z hz hk2; exact h.dirs j z (hnode j z hz).2 hk2
 · intro j z hz; exact h.held j z (hnode j z hz).2
 · intro j z hz hk2 h0; exact h.there j z (hnode j z hz).2 hk2 h0
 · intro j z hz; exact h.pages j z (hnode j z hz).2
theorem WellP.unholdP_ (h : WellP t) (i : Int) : WellP (unholdP t i).2 := by
 unfold unholdP
 by_cases h0 : unholdE t i = 0
 · rw [if_pos h0]
   unfold unholdE at h0
   obtain ⟨z1, h0⟩ := firstE_cons h0
   obtain ⟨z2, _⟩ := firstE_cons h0
   obtain ⟨x, hx⟩ := Option.isSome_iff_exists.1 (there_one z1)
   have hh := h.held i x hx
   have hne : x.held ≠ 0 := fun c => by
    have z3 : heldE x = 0 := by
     have e : heldE' t i = heldE x := by unfold heldE'; rw [hx]
     rw [← e]; exact z2
    unfold heldE at z3
    rw [if_pos c] at z3
    cases z3
   have hk : x.kind = 1 := (h.kind i x hx).resolve_right fun c => hne (h.dirs i x hx c).2
   rw [hx]
   show WellP (unholdT t i x)
   unfold unholdT freeP
   split
   · rename_i hg
     have hl : x.links = 0 := by
      unfold goneB at hg
      simp [hk] at hg
      exact hg.2.2
     have e : (t.set i { x with held := x.held - 1 }).del i = t.del i := PT.ext' rfl fun j => by
      rw [PT.del_n, PT.del_n, PT.set_n]
      by_cases c : j = i
      · rw [if_pos c, if_pos c]
      · rw [if_neg c, if_neg c, if_neg c]
     rw [e]
     exact h.gone hx hk hl
   · rename_i hg
     refine h.put hx rfl rfl rfl rfl (by show 0 ≤ x.held - 1; omega) (fun c => by omega) (fun _ hl => ?_) ⟨(h.pages i x hx).len, (h.pages i x hx).size⟩
     show 0 < x.held - 1
     have hi1 : i ≠ 1 := fun e => by
      obtain ⟨z, hz, hzk, _⟩ := h.root
      rw [← e, hx] at hz; cases hz; omega
     unfold goneB at hg
     simp [hk, hl, hi1] at hg
     omega
 · rw [if_neg h0]; exact h
def HeldK (K : Int) (t : PT) : Prop := ∀ i x, t.n i = some x → x.held ≤ K
section
variable {K d i : Int} {x y : PN} {s : ByteArray}
theorem HeldK.mono {K' : Int} (h : HeldK K t) (hk : K ≤ K') : HeldK K' t := fun i x hx => Int.le_trans (h i x hx) hk
theorem HeldK.set (h : HeldK K t) (hx : x.held ≤ K) : HeldK K (t.set i x) := fun j z hz => by
 rw [PT.set_n] at hz
 split at hz
 · cases hz; exact hx
 · exact h j z hz
theorem HeldK.del (h : HeldK K t) : HeldK K (t.del i) := fun j z hz => by
 rw [PT.del_n] at hz
 split at hz
 · cases hz
 · exact h j z hz
theorem held_in (x : PN) (d : Int) : (inN x d).held = x.held := by unfold inN; split <;> rfl
theorem held_out (x : PN) : (outN x).held = x.held := by unfold outN; split <;> rfl
theorem HeldK.enter (h : HeldK K t) (hx : x.held ≤ K) (hy : y.held ≤ K) : HeldK K (enterT t d x s i y) := by
 unfold enterT
 exact (h.set (x := { x with l := updL x.l s.data.toList i }) hx).set (x := inN y d) (by rw [held_in]; exact hy)
theorem HeldK.leave (h : HeldK K t) (hx : x.held ≤ K) (hy : y.held ≤ K) : HeldK K (leaveT t d x s i y) := by
 unfold leaveT
 exact (h.set (x := outN y) (by rw [held_out]; exact hy)).set hx
theorem HeldK.free (h : HeldK K t) : HeldK K (freeP t i y) := by
 unfold freeP
 split
 · exact h.del
 · exact h
theorem HeldK.dropT_ (h : HeldK K t) (hx : x.held ≤ K) (hy : y.held ≤ K) : HeldK K (dropT t d x s i y) := by
 unfold dropT
 exact (h.leave hx hy).free
theorem HeldK.makeT_ (h : HeldK K t) (hK : 0 ≤ K) (kind : Int) : HeldK K (makeT t d s kind i) := by
 unfold makeT
 split
 · rename_i xd hd
   exact (h.set hK).enter (h _ _ hd) hK
 · exact h
theorem HeldK.makeAtP_ (h : HeldK K t) (hK : 0 ≤ K) (kind : Int) : HeldK K (makeAtP t d s kind i).2 := by
 unfold makeAtP
 split
 · exact h.makeT_ hK kind
 · exact h
theorem HeldK.linkP_ (h : HeldK K t) : HeldK K (linkP t d s i).2 := by
 unfold linkP
 split
 · show HeldK K (linkT t d s i)
   unfold linkT
   split
   · rename_i xd xi hd hi
     exact h.enter (h _ _ hd) (h _ _ hi)
   · exact h
 · exact h
theorem HeldK.dropP_ (h : HeldK K t) (q : PN → Int) : HeldK K (dropP t d s q).2 := by
 unfold dropP
 split
 · exact h
 · split
   · rename_i xd xi hd hi
     split
     · exact h
     · exact h.dropT_ (h _ _ hd) (h _ _ hi)
   · exact h
theorem HeldK.moveT_ (h : HeldK K t) (b : Int) (s2 : ByteArray) : HeldK K (moveT t d s b s2 i) := by
 unfold moveT
 split
 · rename_i xa xi ha hi
   have h1 : HeldK K (leaveT t d xa s i xi) := h.leave (h _ _ ha) (h _ _ hi)
   split
   · rename_i xb hb
     exact h1.enter (h1 _ _ hb) (by rw [held_out]; exact h _ _ hi)
   · exact h
 · exact h
theorem HeldK.renameP_ (h : HeldK K t) (b : Int) (s2 : ByteArray) : HeldK K (renameP t d s b s2).2 := by
 unfold renameP
 split
 · exact h
 · split
   · exact h
   · split
     · rename_i xi xb hi hb
       split
       · exact h
       · split
         · exact h.moveT_ b s2
         · split
           · exact h
           · split
             · rename_i xo ho
               split
               · exact h
               · exact (h.dropT_ (h _ _ hb) (h _ _ ho)).moveT_ b s2
             · exact h
     · exact h
theorem HeldK.resizeP_ (h : HeldK K t) (n : Int) : HeldK K (resizeP t i n).2 := by
 unfold resizeP
 split
 · show HeldK K (resizeT t i n)
   unfold resizeT
   split
   · rename_i x hx
     exact h.set (show x.held ≤ K from h _ _ hx)
   · exact h
 · exact h
theorem HeldK.writeP_ (h : HeldK K t) (p : Int) (b : ByteArray) : HeldK K (writeP t i p b).2 := by
 unfold writeP
 split
 · show HeldK K (writeT t i p b)
   unfold writeT
   split
   · rename_i x hx
     exact h.set (show x.held ≤ K from h _ _ hx)
   · exact h
 · exact h
theorem HeldK.holdP_ (h : HeldK K t) : HeldK (K + 1) (holdP t i).2 := by
 unfold holdP
 split
 · split
   · rename_i x hx
     exact (h.mono (by omega)).set (by have := h _ _ hx; show x.held + 1 ≤ K + 1; omega)
   · exact h.mono (by omega)
 · exact h.mono (by omega)
theorem HeldK.unholdP_ (h : HeldK K t) : HeldK K (unholdP t i).2 := by
 unfold unholdP
 split
 · split
   · rename_i x hx
     unfold unholdT
     exact (h.set (by have := h _ _ hx; show x.held - 1 ≤ K; omega)).free
   · exact h
 · exact h
end
end Go.Proofs.YtogljgiefmfafaaGreat

namespace Go.Proofs.YtogljgiefmfafaaGreat
open Go.RowKit
structure R where
 stamp : Int
 act : Int
 dir : Int
 name : ByteArray
 ino : Int
 kind : Int
 dir2 : Int
 name2 : ByteArray
 old : Int
 size : Int
 page : Int
 data : ByteArray
structure R.Ok (r : R) : Prop where
 stamp : 0 ≤ r.stamp ∧ r.stamp ≤ 18446744073709551615
 act : 0 ≤ r.act ∧ r.act ≤ 255
 dir : 0 ≤ r.dir ∧ r.dir ≤ 4294967295
 ino : 0 ≤ r.ino ∧ r.ino ≤ 4294967295
 kind : 0 ≤ r.kind ∧ r.kind ≤ 255
 dir2 : 0 ≤ r.dir2 ∧ r.dir2 ≤ 4294967295
 old : 0 ≤ r.old ∧ r.old ≤ 4294967295
 size : 0 ≤ r.size ∧ r.size ≤ 4294967295
def kEntry (a : Int) : Bool := decide (1 ≤ a ∧ a ≤ 4)
def kKind (a : Int) : Bool := decide (a = 1 ∨ a = 3 ∨ a = 4)
def kMove (a : Int) : Bool := decide (a = 4)
def kSized (a : Int) : Bool := decide (a = 5 ∨ a = 6)
def kData (a : Int) : Bool := decide (a = 6)
def R.val (r : R) : Value := .agg #[.int .u64 r.stamp, .int .u8 r.act, .int .u32 r.dir, .string r.name, .int .u32 r.ino, .int .u8 r.kind, .int .u32 r.dir2, .string r.name2, .int .u32 r.old, .int .u32 r.size, .int .i64 r.page, .string r.data]
def inoB (i : Int) : Bool := decide (1 ≤ i ∧ i ≤ 256)
def fitB (c a b : Bool) : Bool := c && a || !c && b
def checkB (r : R) : Bool :=
 decide (1 ≤ r.act ∧ r.act ≤ 7) && inoB r.ino && fitB (kEntry r.act) (inoB r.dir && pnameB r.name) (r.dir == 0 && r.name.size == 0) && fitB (kKind r.act) (r.kind == 1 || r.kind == 2) (r.kind == 0)
  && fitB (kMove r.act) (inoB r.dir2 && pnameB r.name2 && decide (r.old ≤ 256)) (r.dir2 == 0 && r.name2.size == 0 && r.old == 0) && fitB (kSized r.act) (decide (r.size ≤ 2304)) (r.size == 0)
  && fitB (kData r.act) (decide (0 ≤ r.page ∧ r.page < 36) && r.data.size == 64) (r.page == 0 && r.data.size == 0)
def checkE (r : R) : Int := if checkB r = true then 0 else 2
end Go.Proofs.YtogljgiefmfafaaGreat

namespace Go.Proofs.YtogljgiefmfafaaGreat
open Go.RowKit Go.Maps
abbrev kind1 : Value := .agg #[.string ⟨#[109, 97, 107, 101]⟩, .bool true, .bool true, .bool false, .bool false, .bool false, .func (.func 125) #[] #[]]
abbrev kind2 : Value := .agg #[.string ⟨#[108, 105, 110, 107]⟩, .bool true, .bool false, .bool false, .bool false, .bool false, .func (.func 126) #[] #[]]
abbrev kind3 : Value := .agg #[.string ⟨#[117, 110, 108, 105, 110, 107]⟩, .bool true, .bool true, .bool false, .bool false, .bool false, .func (.func 127) #[] #[]]
abbrev kind4 : Value := .agg #[.string ⟨#[114, 101, 110, 97, 109, 101]⟩, .bool true, .bool true, .bool true, .bool false, .bool false, .func (.func 128) #[] #[]]
abbrev kind5 : Value := .agg #[.string ⟨#[115, 105, 122, 101]⟩, .bool false, .bool false, .bool false, .bool true, .bool false, .func (.func 129) #[] #[]]
abbrev kind6 : Value := .agg #[.string ⟨#[112, 97, 103, 101]⟩, .bool false, .bool false, .bool false, .bool true, .bool true, .func (.func 130) #[] #[]]
abbrev kind7 : Value := .agg #[.string ⟨#[102, 114, 101, 101]⟩, .bool false, .bool false, .bool false, .bool false, .bool false, .func (.func 131) #[] #[]]
abbrev kind0 : Value := .agg #[.string ⟨#[]⟩, .bool false, .bool false, .bool false, .bool false, .bool false, .nilFunc]
def kindO (a : Int) : Option Value := if a = 7 then some kind7 else if a = 6 then some kind6 else if a = 5 then some kind5 else if a = 4 then some kind4 else if a = 3 then some kind3 else if a = 2 then some kind2 else if a = 1 then some kind1 else none
def kindsM : Lit → Option Value
 | .int .u8 a => kindO a
 | _ => none
theorem pkey8 {i : Int} (h : 0 ≤ i ∧ i ≤ 255) : keyOf Tryz.prog 5 (.int .u8 i) = some (.int .u8 i) :=
 keyOf_int_mk Tryz.underlying5 (by simp [Lit.wf, IntKind.min, IntKind.max, IntKind.signed, IntKind.bits]; omega)
theorem law8 : Keyed Tryz.prog 5 := int_keyed Tryz.underlying5
set_option maxRecDepth 100000 in
theorem t_rkinds (w : World) : Calls Tryz.prog 68 #[] w fun e w' => ∃ b, e = .returned (.map (some b)) ∧ MapAt w' Tryz.prog 5 b 7 kindsM ∧ Below w.heap.size w w' ∧ w.heap.size ≤ b := by
 have hmm := @run_makeMap Tryz.prog
 have m0 := MapAt.made w Tryz.prog 5
 obtain ⟨w1, r1, m1, t1⟩ := m0.update law8 Tryz.underlying119 (by unfold maxLen; omega) (val := kind1) (pkey8 (i := 1) (by omega))
 obtain ⟨w2, r2, m2, t2⟩ := m1.update law8 Tryz.underlying119 (by unfold maxLen; omega) (val := kind2) (pkey8 (i := 2) (by omega))
 obtain ⟨w3, r3, m3, t3⟩ := m2.update law8 Tryz.underlying119 (by unfold maxLen; omega) (val := kind3) (pkey8 (i := 3) (by omega))
 obtain ⟨w4, r4, m4, t4⟩ := m3.update law8 Tryz.underlying119 (by unfold maxLen; omega) (val := kind4) (pkey8 (i := 4) (by omega))
 obtain ⟨w5, r5, m5, t5⟩ := m4.update law8 Tryz.underlying119 (by unfold maxLen; omega) (val := kind5) (pkey8 (i := 5) (by omega))
 obtain ⟨w6, r6, m6, t6⟩ := m5.update law8 Tryz.underlying119 (by unfold maxLen; omega) (val := kind6) (pkey8 (i := 6) (by omega))
 obtain ⟨w7, r7, m7, t7⟩ := m6.update law8 Tryz.underlying119 (by unfold maxLen; omega) (val := kind7) (pkey8 (i := 7) (by omega))
 have HM : Hid (MapAt w7 Tryz.prog 5 w.heap.size 7 kindsM) := m7.congr fun kl _ => by
  cases kl with
  | int q a =>
   cases q <;> try (unfold updM; simp [kindsM, Lit.sameKey]; done)
   show updM _ _ _ _ = kindO a
   unfold updM kindO
   by_cases h7 : a = 7
   · simp [h7, Lit.sameKey]
   by_cases h6 : a = 6
   · simp [h6, Lit.sameKey]
   by_cases h5 : a = 5
   · simp [h5, Lit.sameKey]
   by_cases h4 : a = 4
   · simp [h4, Lit.sameKey]
   by_cases h3 : a = 3
   · simp [h3, Lit.sameKey]
   by_cases h2 : a = 2
   · simp [h2, Lit.sameKey]
   by_cases h1 : a = 1
   · simp [h1, Lit.sameKey]
   simp [h1, h2, h3, h4, h5, h6, h7, Lit.sameKey]
  | _ => unfold updM; simp [kindsM, Lit.sameKey]
 have HB : Hid (Below w.heap.size w w7) := by
  have hg := ((((((t1.grown.trans t2.grown).trans t3.grown).trans t4.grown).trans t5.grown).trans t6.grown).trans t7.grown)
  have ha : Below w.heap.size w (w.alloc (.map #[] 0)) := (Below.refl _ _).alloc (Nat.le_refl _) _
  refine ⟨hg.os.trans ha.os, hg.tape.trans ha.tape, hg.output.trans ha.output, Nat.le_trans ha.size hg.size, fun b hb => (hg.block b (Nat.lt_of_lt_of_le hb ha.size) fun e => ?_).trans (ha.block b hb)⟩
  injection e with e
  omega
 clear m0 m1 m2 m3 m4 m5 m6 m7 t1 t2 t3 t4 t5 t6 t7
 go_enter Tryz.func68, Tryz.ntmps68
 go_wp2
 go_ret
 exact ⟨_, rfl, HM.out, HB.out, Nat.le_refl _⟩
end Go.Proofs.YtogljgiefmfafaaGreat
