/- The program's tree, plain: Hold and Drop; how often an inode is held; what a step does. -/
import Derived.Test.YtpcjbfhgmcioaaaGreatQC
import Derived.Test.YtpcjbfhgmcioaaaGreatSA
namespace Go.Proofs.YtpcjbfhgmcioaaaGreat
open Go.RowKit Go.Maps

variable {t : PT}
def holdE (t : PT) (i : Int) : Int := firstE [thereE t [i], fileE' t i]
def holdP (t : PT) (i : Int) : Int × PT := if holdE t i = 0 then (0, match t.n i with | some x => t.set i { x with held := x.held + 1 } | none => t) else (holdE t i, t)
def heldE (x : PN) : Int := if x.held = 0 then 3 else 0
def heldE' (t : PT) (i : Int) : Int := match t.n i with | some x => heldE x | none => 0
def unholdE (t : PT) (i : Int) : Int := firstE [thereE t [i], heldE' t i]
def unholdT (t : PT) (i : Int) (x : PN) : PT := freeP (t.set i { x with held := x.held - 1 }) i { x with held := x.held - 1 }
def unholdP (t : PT) (i : Int) : Int × PT := if unholdE t i = 0 then (0, match t.n i with | some x => unholdT t i x | none => t) else (unholdE t i, t)
theorem WellP.holdP_ (h : WellP t) (i : Int) : WellP (holdP t i).2 := by
  unfold holdP
  by_cases h0 : holdE t i = 0
  · rw [if_pos h0]
    unfold holdE at h0
    obtain ⟨z1, h0⟩ := firstE_cons h0
    obtain ⟨z2, _⟩ := firstE_cons h0
    obtain ⟨x, hx⟩ := Option.isSome_iff_exists.1 (there_one z1)
    have hh := h.held i x hx
    have hk := file_zero hx z2
    rw [hx]
    exact h.put hx rfl rfl rfl rfl (by show 0 ≤ x.held + 1; omega) (fun c => absurd c hk) (fun _ _ => by show 0 < x.held + 1; omega) ⟨(h.pages i x hx).len, (h.pages i x hx).size⟩
  · rw [if_neg h0]; exact h
/-- A file without a name is gone. -/
theorem WellP.gone (h : WellP t) {i : Int} {y : PN} (hi : t.n i = some y) (hk : y.kind = 1) (hl : y.links = 0) : WellP (t.del i) := by
  have hi1 : i ≠ 1 := fun e => by
    obtain ⟨z, hz, hzk, _⟩ := h.root
    rw [← e, hi] at hz; cases hz; omega
  have hno : ∀ a q, ¬ Ent t a q i := fun a q e => by
    obtain ⟨L, _, n2, n3⟩ := h.links i y hi hk
    have := List.length_pos_of_mem ((n2 (a, q)).2 e)
    omega
  have hnode : ∀ j z, (t.del i).n j = some z → j ≠ i ∧ t.n j = some z := fun j z hz => by
    rw [PT.del_n] at hz
    by_cases e : j = i
    · rw [if_pos e] at hz; cases hz
    · rw [if_neg e] at hz; exact ⟨e, hz⟩
  have hkeep : ∀ j z, t.n j = some z → j ≠ i → (t.del i).n j = some z := fun j z hz e => by rw [PT.del_n, if_neg e]; exact hz
  have hE : ∀ a q v, Ent (t.del i) a q v ↔ Ent t a q v := fun a q v => by
    constructor
    · rintro ⟨z, hz, hv⟩
      exact ⟨z, (hnode a z hz).2, hv⟩
    · rintro ⟨z, hz, hv⟩
      refine ⟨z, hkeep a z hz ?_, hv⟩
      rintro rfl
      rw [hi] at hz
      cases hz
      have := (h.ent a y q v hi hv).1
      omega
  refine ⟨h.room, ?_, ?_, ?_, ?_, ?_, ?_, ?_, ?_, ?_, ?_, ?_, ?_, ?_⟩
  · obtain ⟨z, hz, r⟩ := h.root
    exact ⟨z, hkeep 1 z hz (fun e => hi1 e.symm), r⟩
  · intro j z hz
    exact h.range j z (hnode j z hz).2
  · intro j z hz
    exact h.kind j z (hnode j z hz).2
  · intro d x k v hd hv
    obtain ⟨g1, g2, g3, y2, g4, g5⟩ := h.ent d x k v (hnode d x hd).2 hv
    refine ⟨g1, g2, g3, y2, hkeep v y2 g4 ?_, g5⟩
    rintro rfl
    exact hno d k ⟨x, (hnode d x hd).2, hv⟩
  · intro d k k' v z e1 e2 hz hk2
    exact h.one d k k' v z ((hE _ _ _).1 e1) ((hE _ _ _).1 e2) (hnode v z hz).2 hk2
  · intro j z hz hk2 hj
    obtain ⟨k, hen⟩ := h.up j z (hnode j z hz).2 hk2 hj
    exact ⟨k, (hE _ _ _).2 hen⟩
  · obtain ⟨r, hr⟩ := h.rank
    exact ⟨r, fun j z hz hk2 hu => hr j z (hnode j z hz).2 hk2 hu⟩
  · intro j z hz hk2
    obtain ⟨L, n1, n2, n3⟩ := h.links j z (hnode j z hz).2 hk2
    exact ⟨L, n1, fun p => by rw [n2, hE], n3⟩
  · intro j z hz; exact h.most j z (hnode j z hz).2
  · intro j z hz hk2; exact h.dirs j z (hnode j z hz).2 hk2
  · intro j z hz; exact h.held j z (hnode j z hz).2
  · intro j z hz hk2 h0; exact h.there j z (hnode j z hz).2 hk2 h0
  · intro j z hz; exact h.pages j z (hnode j z hz).2
theorem WellP.unholdP_ (h : WellP t) (i : Int) : WellP (unholdP t i).2 := by
  unfold unholdP
  by_cases h0 : unholdE t i = 0
  · rw [if_pos h0]
    unfold unholdE at h0
    obtain ⟨z1, h0⟩ := firstE_cons h0
    obtain ⟨z2, _⟩ := firstE_cons h0
    obtain ⟨x, hx⟩ := Option.isSome_iff_exists.1 (there_one z1)
    have hh := h.held i x hx
    have hne : x.held ≠ 0 := fun c => by
      have z3 : heldE x = 0 := by
        have e : heldE' t i = heldE x := by unfold heldE'; rw [hx]
        rw [← e]; exact z2
      unfold heldE at z3
      rw [if_pos c] at z3
      cases z3
    have hk : x.kind = 1 := (h.kind i x hx).resolve_right fun c => hne (h.dirs i x hx c).2
    rw [hx]
    show WellP (unholdT t i x)
    unfold unholdT freeP
    split
    · rename_i hg
      have hl : x.links = 0 := by
        unfold goneB at hg
        simp [hk] at hg
        exact hg.2.2
      have e : (t.set i { x with held := x.held - 1 }).del i = t.del i := PT.ext' rfl fun j => by
        rw [PT.del_n, PT.del_n, PT.set_n]
        by_cases c : j = i
        · rw [if_pos c, if_pos c]
        · rw [if_neg c, if_neg c, if_neg c]
      rw [e]
      exact h.gone hx hk hl
    · rename_i hg
      refine h.put hx rfl rfl rfl rfl (by show 0 ≤ x.held - 1; omega) (fun c => by omega) (fun _ hl => ?_) ⟨(h.pages i x hx).len, (h.pages i x hx).size⟩
      show 0 < x.held - 1
      have hi1 : i ≠ 1 := fun e => by
        obtain ⟨z, hz, hzk, _⟩ := h.root
        rw [← e, hx] at hz; cases hz; omega
      unfold goneB at hg
      simp [hk, hl, hi1] at hg
      omega
  · rw [if_neg h0]; exact h

/-- No inode is held more often. -/
def HeldK (K : Int) (t : PT) : Prop := ∀ i x, t.n i = some x → x.held ≤ K
section
variable {K d i : Int} {x y : PN} {s : ByteArray}
theorem HeldK.mono {K' : Int} (h : HeldK K t) (hk : K ≤ K') : HeldK K' t := fun i x hx => Int.le_trans (h i x hx) hk
theorem HeldK.set (h : HeldK K t) (hx : x.held ≤ K) : HeldK K (t.set i x) := fun j z hz => by
  rw [PT.set_n] at hz
  split at hz
  · cases hz; exact hx
  · exact h j z hz
theorem HeldK.del (h : HeldK K t) : HeldK K (t.del i) := fun j z hz => by
  rw [PT.del_n] at hz
  split at hz
  · cases hz
  · exact h j z hz
theorem held_in (x : PN) (d : Int) : (inN x d).held = x.held := by unfold inN; split <;> rfl
theorem held_out (x : PN) : (outN x).held = x.held := by unfold outN; split <;> rfl
theorem HeldK.enter (h : HeldK K t) (hx : x.held ≤ K) (hy : y.held ≤ K) : HeldK K (enterT t d x s i y) := by
  unfold enterT
  exact (h.set (x := { x with l := updL x.l s.data.toList i }) hx).set (x := inN y d) (by rw [held_in]; exact hy)
theorem HeldK.leave (h : HeldK K t) (hx : x.held ≤ K) (hy : y.held ≤ K) : HeldK K (leaveT t d x s i y) := by
  unfold leaveT
  exact (h.set (x := outN y) (by rw [held_out]; exact hy)).set hx
theorem HeldK.free (h : HeldK K t) : HeldK K (freeP t i y) := by
  unfold freeP
  split
  · exact h.del
  · exact h
theorem HeldK.dropT_ (h : HeldK K t) (hx : x.held ≤ K) (hy : y.held ≤ K) : HeldK K (dropT t d x s i y) := by
  unfold dropT
  exact (h.leave hx hy).free
theorem HeldK.makeT_ (h : HeldK K t) (hK : 0 ≤ K) (kind : Int) : HeldK K (makeT t d s kind i) := by
  unfold makeT
  split
  · rename_i xd hd
    exact (h.set hK).enter (h _ _ hd) hK
  · exact h
theorem HeldK.makeAtP_ (h : HeldK K t) (hK : 0 ≤ K) (kind : Int) : HeldK K (makeAtP t d s kind i).2 := by
  unfold makeAtP
  split
  · exact h.makeT_ hK kind
  · exact h
theorem HeldK.makeP_ (h : HeldK K t) (hK : 0 ≤ K) (kind m : Int) : HeldK K (makeP t d s kind m).2 := by
  unfold makeP
  split
  · exact h.makeAtP_ hK kind
  · exact h
theorem HeldK.linkP_ (h : HeldK K t) : HeldK K (linkP t d s i).2 := by
  unfold linkP
  split
  · show HeldK K (linkT t d s i)
    unfold linkT
    split
    · rename_i xd xi hd hi
      exact h.enter (h _ _ hd) (h _ _ hi)
    · exact h
  · exact h
theorem HeldK.dropP_ (h : HeldK K t) (q : PN → Int) : HeldK K (dropP t d s q).2 := by
  unfold dropP
  split
  · exact h
  · split
    · rename_i xd xi hd hi
      split
      · exact h
      · exact h.dropT_ (h _ _ hd) (h _ _ hi)
    · exact h
theorem HeldK.moveT_ (h : HeldK K t) (b : Int) (s2 : ByteArray) : HeldK K (moveT t d s b s2 i) := by
  unfold moveT
  split
  · rename_i xa xi ha hi
    have h1 : HeldK K (leaveT t d xa s i xi) := h.leave (h _ _ ha) (h _ _ hi)
    split
    · rename_i xb hb
      exact h1.enter (h1 _ _ hb) (by rw [held_out]; exact h _ _ hi)
    · exact h
  · exact h
theorem HeldK.renameP_ (h : HeldK K t) (b : Int) (s2 : ByteArray) : HeldK K (renameP t d s b s2).2 := by
  unfold renameP
  split
  · exact h
  · split
    · exact h
    · split
      · rename_i xi xb hi hb
        split
        · exact h
        · split
          · exact h.moveT_ b s2
          · split
            · exact h
            · split
              · rename_i xo ho
                split
                · exact h
                · exact (h.dropT_ (h _ _ hb) (h _ _ ho)).moveT_ b s2
              · exact h
      · exact h
theorem HeldK.resizeP_ (h : HeldK K t) (n : Int) : HeldK K (resizeP t i n).2 := by
  unfold resizeP
  split
  · show HeldK K (resizeT t i n)
    unfold resizeT
    split
    · rename_i x hx
      exact h.set (show x.held ≤ K from h _ _ hx)
    · exact h
  · exact h
theorem HeldK.writeP_ (h : HeldK K t) (p : Int) (b : ByteArray) : HeldK K (writeP t i p b).2 := by
  unfold writeP
  split
  · show HeldK K (writeT t i p b)
    unfold writeT
    split
    · rename_i x hx
      exact h.set (show x.held ≤ K from h _ _ hx)
    · exact h
  · exact h
theorem HeldK.holdP_ (h : HeldK K t) : HeldK (K + 1) (holdP t i).2 := by
  unfold holdP
  split
  · split
    · rename_i x hx
      exact (h.mono (by omega)).set (by have := h _ _ hx; show x.held + 1 ≤ K + 1; omega)
    · exact h.mono (by omega)
  · exact h.mono (by omega)
theorem HeldK.unholdP_ (h : HeldK K t) : HeldK K (unholdP t i).2 := by
  unfold unholdP
  split
  · split
    · rename_i x hx
      unfold unholdT
      exact (h.set (by have := h _ _ hx; show x.held - 1 ≤ K; omega)).free
    · exact h
  · exact h
end

/-- The least number that is free. -/
theorem WellP.least (h : WellP t) : ∃ m, Least t m := by
  have key : ∀ n : Nat, (∀ j, 1 ≤ j → j < (n : Int) + 1 → (t.n j).isSome = true) ∨ ∃ m, Least t m := fun n => by
    induction n with
    | zero => exact .inl fun j h1 h2 => by omega
    | succ n ih =>
      rcases ih with ih | ih
      · by_cases c : (t.n ((n : Int) + 1)).isSome = true
        · refine .inl fun j h1 h2 => ?_
          by_cases e : j = (n : Int) + 1
          · rw [e]; exact c
          · exact ih j h1 (by omega)
        · have hn : t.n ((n : Int) + 1) = none := by simpa using c
          refine .inr ⟨(n : Int) + 1, by omega, ?_, hn, ih⟩
          have hr := h.room
          by_cases hb : (n : Int) ≤ 256
          · omega
          · exfalso
            obtain ⟨x, hx⟩ := Option.isSome_iff_exists.1 (ih 257 (by omega) (by omega))
            have := h.range 257 x hx
            omega
      · exact .inr ih
  rcases key 257 with k | k
  · exfalso
    obtain ⟨x, hx⟩ := Option.isSome_iff_exists.1 (k 257 (by omega) (by omega))
    have := h.range 257 x hx
    have := h.room
    omega
  · exact k
open Classical in
noncomputable def leastI (t : PT) : Int := if h : ∃ m, Least t m then Classical.choose h else 1
theorem WellP.leastI_ (h : WellP t) : Least t (leastI t) := by
  unfold leastI
  rw [dif_pos h.least]
  exact Classical.choose_spec h.least
end Go.Proofs.YtpcjbfhgmcioaaaGreat

/- The program's tree, plain: what a step does, and that it leaves the tree well. -/
namespace Go.Proofs.YtpcjbfhgmcioaaaGreat
open Go.RowKit Go.Maps

variable {t : PT}
/-- What a step does: what is answered, and the tree behind it. -/
noncomputable def playP (t : PT) (s : PStep) : Int × PT :=
  if s.what = 0 then ((makeP t s.dir s.name s.kind (leastI t)).1.2, (makeP t s.dir s.name s.kind (leastI t)).2)
  else if s.what = 1 then makeAtP t s.dir s.name s.kind s.ino
  else if s.what = 2 then linkP t s.dir s.name s.ino
  else if s.what = 3 then ((dropP t s.dir s.name unlinkE).1.2, (dropP t s.dir s.name unlinkE).2)
  else if s.what = 4 then ((dropP t s.dir s.name rmdirE).1.2, (dropP t s.dir s.name rmdirE).2)
  else if s.what = 5 then renameP t s.dir s.name s.ino s.toN
  else if s.what = 6 then resizeP t s.ino (s.n % 4294967296)
  else if s.what = 7 then writeP t s.ino s.n s.data
  else if s.what = 8 then holdP t s.ino
  else if s.what = 9 then unholdP t s.ino
  else (0, t)
theorem WellP.playP_ (h : WellP t) (s : PStep) : WellP (playP t s).2 := by
  unfold playP
  split
  · exact h.makeP_ _ _ _ _
  · split
    · exact h.makeAtP_ _ _ _ _
    · split
      · exact h.linkP_ _ _ _
      · split
        · exact h.unlinkP _ _
        · split
          · exact h.rmdirP _ _
          · split
            · exact h.renameP_ _ _ _ _
            · split
              · exact h.resizeP_ _ _ (by omega)
              · split
                · exact h.writeP_ _ _ _
                · split
                  · exact h.holdP_ _
                  · split
                    · exact h.unholdP_ _
                    · exact h
theorem HeldK.playP_ {K : Int} (h : HeldK K t) (hK : 0 ≤ K) (s : PStep) : HeldK (K + 1) (playP t s).2 := by
  have hk : K ≤ K + 1 := by omega
  unfold playP
  split
  · exact (h.makeP_ hK _ _).mono hk
  · split
    · exact (h.makeAtP_ hK _).mono hk
    · split
      · exact h.linkP_.mono hk
      · split
        · exact (h.dropP_ _).mono hk
        · split
          · exact (h.dropP_ _).mono hk
          · split
            · exact (h.renameP_ _ _).mono hk
            · split
              · exact (h.resizeP_ _).mono hk
              · split
                · exact (h.writeP_ _ _).mono hk
                · split
                  · exact h.holdP_
                  · split
                    · exact h.unholdP_.mono hk
                    · exact h.mono hk
end Go.Proofs.YtpcjbfhgmcioaaaGreat
