/- Trees that are well stay so, whatever record is played: plain. -/
import Derived.Test.YtnnidgjfjgkdpaaN5
namespace Go.Proofs.Ytnnidgjfjgkdpaa
open Go.RowKit

theorem ndAt_set {t : Tr} {a : Int} (y : Nd) (ha : a.toNat - 1 < t.length) (p : Int) : ndAt (setNd t a y) p = if p.toNat - 1 = a.toNat - 1 then y else ndAt t p := by
  unfold ndAt setNd nd
  rw [List.getD_eq_getElem?_getD, List.getElem?_set]
  by_cases h : a.toNat - 1 = p.toNat - 1
  · rw [if_pos h, if_pos (by omega), if_pos h.symm]; rfl
  · rw [if_neg h, if_neg (fun e => h e.symm), List.getD_eq_getElem?_getD]
theorem ndAt_same {t : Tr} {a p : Int} (h : p.toNat - 1 = a.toNat - 1) : ndAt t p = ndAt t a := by unfold ndAt; rw [h]
theorem mem_set {t : Tr} {a : Int} {y x : Nd} (h : x ∈ setNd t a y) : x ∈ t ∨ x = y := by
  unfold setNd at h; exact List.mem_or_eq_of_mem_set h
theorem ndAt_or {t : Tr} (p : Int) : ndAt t p ∈ t ∨ ndAt t p = noNd := by
  unfold ndAt nd
  rw [List.getD_eq_getElem?_getD]
  cases h : t[p.toNat - 1]? with
  | none => exact .inr rfl
  | some x => exact .inl (List.mem_of_getElem? h)

/-- One tree has no more entries, and no more directories, than another one. -/
def Sub (t' t : Tr) : Prop := ∀ p, (∀ e ∈ (ndAt t' p).l, e ∈ (ndAt t p).l) ∧ ((ndAt t' p).kind = 2 → (ndAt t p).kind = 2)
theorem Sub.refl (t : Tr) : Sub t t := fun _ => ⟨fun _ h => h, fun h => h⟩
theorem Sub.trans {a b c : Tr} (h : Sub a b) (k : Sub b c) : Sub a c := fun p => ⟨fun e he => (k p).1 e ((h p).1 e he), fun hk => (k p).2 ((h p).2 hk)⟩
theorem Sub.child {t' t : Tr} (h : Sub t' t) {c p : Int} (hc : Child t' c p) : Child t c p := by
  obtain ⟨e, he, hec, hk⟩ := hc
  exact ⟨e, (h p).1 e he, hec, (h c).2 hk⟩
theorem Sub.acc {t' t : Tr} (h : Sub t' t) (ha : ∀ x, Acc (Child t) x) : ∀ x, Acc (Child t') x := fun x => by
  have := ha x
  induction this with
  | intro x _ ih => exact ⟨x, fun c hc => ih c (h.child hc)⟩
theorem Sub.under {t' t : Tr} (h : Sub t' t) {d p : Int} (hu : Under t' d p) : Under t d p := by
  induction hu with
  | here => exact .here
  | step hc _ ih => exact .step (h.child hc) ih
theorem sub_set {t : Tr} {a : Int} {y : Nd} (ha : a.toNat - 1 < t.length) (hl : ∀ e ∈ y.l, e ∈ (ndAt t a).l) (hk : y.kind = 2 → (ndAt t a).kind = 2) : Sub (setNd t a y) t := fun p => by
  rw [ndAt_set y ha]
  split
  · rename_i h; rw [ndAt_same h]; exact ⟨hl, hk⟩
  · exact ⟨fun _ h => h, fun h => h⟩

/-- A tree that is well, of n inodes, behind so many records. -/
structure Well (n s : Nat) (t : Tr) : Prop where
  len : t.length = n
  small : ∀ x ∈ t, x.l.length ≤ s
  good : GoodE t
  there : GoodK t
  acc : ∀ x, Acc (Child t) x
  data : ∀ x ∈ t, x.data.size ≤ 100000
  held : ∀ x ∈ t, 0 ≤ x.held ∧ x.held ≤ s
theorem Well.fine {n s : Nat} {t : Tr} (h : Well n s t) (hs : s ≤ 100000) : Fine t :=
  ⟨fun x hx => Nat.le_trans (h.small x hx) hs, h.good, h.there, h.acc, h.data, fun x hx => by have := h.held x hx; omega⟩
theorem Well.mono {n s s' : Nat} {t : Tr} (h : Well n s t) (hs : s ≤ s') : Well n s' t :=
  ⟨h.len, fun x hx => Nat.le_trans (h.small x hx) hs, h.good, h.there, h.acc, h.data, fun x hx => by have := h.held x hx; omega⟩
theorem Well.at_small {n s : Nat} {t : Tr} (h : Well n s t) (p : Int) : (ndAt t p).l.length ≤ s := by
  rcases ndAt_or (t := t) p with hm | hm
  · exact h.small _ hm
  · rw [hm]; exact Nat.zero_le _
theorem Well.at_good {n s : Nat} {t : Tr} (h : Well n s t) {p : Int} {e : Ent} (he : e ∈ (ndAt t p).l) : 1 ≤ e.ino ∧ e.ino ≤ t.length := by
  rcases ndAt_or (t := t) p with hm | hm
  · exact h.good _ hm e he
  · rw [hm] at he; cases he
theorem Well.at_there {n s : Nat} {t : Tr} (h : Well n s t) {p : Int} {e : Ent} (he : e ∈ (ndAt t p).l) : (ndAt t e.ino).kind ≠ 0 := by
  rcases ndAt_or (t := t) p with hm | hm
  · exact h.there _ hm e he
  · rw [hm] at he; cases he
theorem Well.at_data {n s : Nat} {t : Tr} (h : Well n s t) (p : Int) : (ndAt t p).data.size ≤ 100000 := by
  rcases ndAt_or (t := t) p with hm | hm
  · exact h.data _ hm
  · rw [hm]; simp [noNd]
theorem Well.at_held {n s : Nat} {t : Tr} (h : Well n s t) (p : Int) : 0 ≤ (ndAt t p).held ∧ (ndAt t p).held ≤ s := by
  rcases ndAt_or (t := t) p with hm | hm
  · exact h.held _ hm
  · rw [hm]; simp [noNd]

/-- An inode is set: no kind turns, no entry is new. -/
theorem Well.set {n s s' : Nat} {t : Tr} (h : Well n s t) {a : Int} {y : Nd} (a1 : 1 ≤ a) (a2 : a ≤ t.length) (hs : s ≤ s') (hk : y.kind = (ndAt t a).kind) (hl : ∀ e ∈ y.l, e ∈ (ndAt t a).l) (hlen : y.l.length ≤ s') (hd : y.data.size ≤ 100000) (hh : 0 ≤ y.held ∧ y.held ≤ s') :
    Well n s' (setNd t a y) := by
  have ha : a.toNat - 1 < t.length := by omega
  refine ⟨by rw [setNd_length]; exact h.len, fun x hx => ?_, fun x hx e he => ?_, fun x hx e he => ?_, (sub_set ha hl (fun hh => by rw [← hk]; exact hh)).acc h.acc, fun x hx => ?_, fun x hx => ?_⟩
  · rcases mem_set hx with hx | rfl
    · exact Nat.le_trans (h.small x hx) hs
    · exact hlen
  · rw [setNd_length]
    rcases mem_set hx with hx | rfl
    · exact h.good x hx e he
    · exact h.at_good (hl e he)
  · have h0 : (ndAt t e.ino).kind ≠ 0 := by
      rcases mem_set hx with hx | rfl
      · exact h.there x hx e he
      · exact h.at_there (hl e he)
    rw [ndAt_set y ha]
    split
    · rename_i hp; rw [hk, ← ndAt_same hp]; exact h0
    · exact h0
  · rcases mem_set hx with hx | rfl
    · exact h.data x hx
    · exact hd
  · rcases mem_set hx with hx | rfl
    · have := h.held x hx; omega
    · exact hh
theorem delAt_sub {l : List Ent} {k : Nat} {e : Ent} (h : e ∈ delAt l k) : e ∈ l := by
  unfold delAt at h
  rcases List.mem_append.1 h with h | h
  · exact List.mem_of_mem_take h
  · exact List.mem_of_mem_drop h
theorem delAt_le (l : List Ent) (k : Nat) : (delAt l k).length ≤ l.length := by unfold delAt; simp; omega
theorem Well.del {n s : Nat} {t : Tr} (h : Well n s t) {dir : Int} (b1 : 1 ≤ dir) (b2 : dir ≤ t.length) (q : ByteArray) : Well n s (delS t dir q) ∧ Sub (delS t dir q) t ∧ ∀ p, (ndAt (delS t dir q) p).kind = (ndAt t p).kind := by
  unfold delS
  cases place (ndAt t dir).l q with
  | none => exact ⟨h, Sub.refl t, fun _ => rfl⟩
  | some k =>
    simp only []
    have ha : dir.toNat - 1 < t.length := by omega
    refine ⟨h.set b1 b2 (Nat.le_refl _) rfl (fun e he => delAt_sub he) (Nat.le_trans (delAt_le _ _) (h.at_small dir)) (h.at_data dir) (h.at_held dir), sub_set ha (fun e he => delAt_sub he) (fun hh => hh), fun p => ?_⟩
    rw [ndAt_set _ ha]
    split
    · rename_i hp; rw [ndAt_same hp]
    · rfl
theorem Well.free {n s : Nat} {t : Tr} (h : Well n s t) {ino : Int} (i1 : 1 ≤ ino) (i2 : ino ≤ t.length) : Well n s (freeT t ino) ∧ Sub (freeT t ino) t ∧ ∀ p, 1 ≤ p → p ≠ ino → ndAt (freeT t ino) p = ndAt t p := by
  unfold freeT
  by_cases hc : ino ≠ 1 ∧ namedB t ino = false ∧ (ndAt t ino).held = 0
  · rw [if_pos hc]
    have ha : ino.toNat - 1 < t.length := by omega
    have hsub : Sub (setNd t ino noNd) t := sub_set ha (fun e he => by cases he) (fun hh => by cases hh)
    refine ⟨⟨by rw [setNd_length]; exact h.len, fun x hx => ?_, fun x hx e he => ?_, fun x hx e he => ?_, hsub.acc h.acc, fun x hx => ?_, fun x hx => ?_⟩, hsub, fun p p1 hp => ?_⟩
    · rcases mem_set hx with hx | rfl
      · exact h.small x hx
      · exact Nat.zero_le _
    · rw [setNd_length]
      rcases mem_set hx with hx | rfl
      · exact h.good x hx e he
      · cases he
    · rcases mem_set hx with hx | rfl
      · rw [ndAt_set _ ha]
        split
        · rename_i hp
          obtain ⟨g1, _⟩ := h.good x hx e he
          exfalso
          have : e.ino = ino := by omega
          have hn : namedB t ino = true := by
            unfold namedB
            rw [List.any_eq_true]
            exact ⟨x, hx, by rw [List.any_eq_true]; exact ⟨e, he, by simpa using this⟩⟩
          rw [hc.2.1] at hn; cases hn
        · exact h.there x hx e he
      · cases he
    · rcases mem_set hx with hx | rfl
      · exact h.data x hx
      · simp [noNd]
    · rcases mem_set hx with hx | rfl
      · exact h.held x hx
      · simp [noNd]
    · rw [ndAt_set _ ha, if_neg (by omega)]
  · rw [if_neg hc]
    exact ⟨h, Sub.refl t, fun _ _ _ => rfl⟩

theorem Under.snoc {t : Tr} {x a c : Int} (h : Under t x a) (hc : Child t c x) : Under t c a := by
  induction h with
  | here => exact .step hc .here
  | step hd _ ih => exact .step hd ih
theorem Under.pos {n s : Nat} {t : Tr} (h : Well n s t) {d a : Int} (hu : Under t d a) : 1 ≤ a → 1 ≤ d := by
  induction hu with
  | here => exact id
  | step hc _ ih =>
    intro _
    obtain ⟨e, he, rfl, _⟩ := hc
    exact ih (h.at_good he).1
/-- No circle comes of a new entry, if its directory does not lie below. -/
theorem acc_add {t : Tr} {R' : Int → Int → Prop} {a : Int} {B : Int → Prop} (hacc : ∀ x, Acc (Child t) x) (hR : ∀ c p, R' c p → Child t c p ∨ (c = a ∧ B p)) (hno : ∀ b, B b → ¬ Under t b a) : ∀ x, Acc R' x := by
  have h1 : ∀ x, Acc (Child t) x → Under t x a → Acc R' x := by
    intro x hx
    induction hx with
    | intro x _ ih =>
      intro hu
      refine ⟨x, fun c hc => ?_⟩
      rcases hR c x hc with hc | ⟨_, hb⟩
      · exact ih c hc (hu.snoc hc)
      · exact absurd hu (hno x hb)
  intro x
  have hx := hacc x
  induction hx with
  | intro x _ ih =>
    refine ⟨x, fun c hc => ?_⟩
    rcases hR c x hc with hc | ⟨rfl, _⟩
    · exact ih c hc
    · exact h1 c (hacc c) .here
theorem mem_addL {l : List Ent} {e x : Ent} (h : x ∈ addL l e) : x ∈ l ∨ x = e := by
  unfold addL at h
  rcases List.mem_append.1 h with h | h
  · rcases List.mem_append.1 h with h | h
    · exact .inl (List.mem_of_mem_take h)
    · simp at h; exact .inr h
  · exact .inl (List.mem_of_mem_drop h)
theorem addL_length (l : List Ent) (e : Ent) : (addL l e).length = l.length + 1 := by
  unfold addL
  have := addPos_le l e.name
  simp; omega
theorem Well.add {n s : Nat} {t : Tr} (h : Well n s t) {dir : Int} {e : Ent} (b1 : 1 ≤ dir) (b2 : dir ≤ t.length) (e1 : 1 ≤ e.ino) (e2 : e.ino ≤ t.length) (ek : (ndAt t e.ino).kind ≠ 0) (hno : (ndAt t e.ino).kind = 2 → ¬ Under t dir e.ino) :
    Well n (s + 1) (addT t dir e) := by
  have ha : dir.toNat - 1 < t.length := by omega
  have hk : ∀ p, (ndAt (addT t dir e) p).kind = (ndAt t p).kind := fun p => by
    unfold addT; rw [ndAt_set _ ha]
    split
    · rename_i hp; rw [ndAt_same hp]
    · rfl
  refine ⟨by unfold addT; rw [setNd_length]; exact h.len, fun x hx => ?_, fun x hx y hy => ?_, fun x hx y hy => ?_, ?_, fun x hx => ?_, fun x hx => ?_⟩
  · unfold addT at hx
    rcases mem_set hx with hx | rfl
    · have := h.small x hx; omega
    · show (addL _ _).length ≤ _; rw [addL_length]; have := h.at_small dir; omega
  · have hl : (addT t dir e).length = t.length := by unfold addT; exact setNd_length _ _ _
    rw [hl]
    unfold addT at hx
    rcases mem_set hx with hx | rfl
    · exact h.good x hx y hy
    · rcases mem_addL hy with hy | rfl
      · exact h.at_good hy
      · exact ⟨e1, e2⟩
  · rw [hk]
    unfold addT at hx
    rcases mem_set hx with hx | rfl
    · exact h.there x hx y hy
    · rcases mem_addL hy with hy | rfl
      · exact h.at_there hy
      · exact ek
  · by_cases h2 : (ndAt t e.ino).kind = 2
    · refine acc_add (a := e.ino) (B := fun p => p.toNat - 1 = dir.toNat - 1) h.acc (fun c p hc => ?_) (fun b hb hu => ?_)
      · obtain ⟨x, hx, hxc, hxk⟩ := hc
        rw [hk] at hxk
        unfold addT at hx
        rw [ndAt_set _ ha] at hx
        split at hx
        · rename_i hp
          rcases mem_addL hx with hx | rfl
          · exact .inl ⟨x, by rw [ndAt_same hp]; exact hx, hxc, hxk⟩
          · exact .inr ⟨hxc.symm, hp⟩
        · exact .inl ⟨x, hx, hxc, hxk⟩
      · have hp := hu.pos h e1
        have : b = dir := by omega
        subst this
        exact hno h2 hu
    · have hsub : ∀ c p, Child (addT t dir e) c p → Child t c p := fun c p hc => by
        obtain ⟨x, hx, hxc, hxk⟩ := hc
        rw [hk] at hxk
        unfold addT at hx
        rw [ndAt_set _ ha] at hx
        split at hx
        · rename_i hp
          rcases mem_addL hx with hx | rfl
          · exact ⟨x, by rw [ndAt_same hp]; exact hx, hxc, hxk⟩
          · rw [← hxc] at hxk; exact absurd hxk h2
        · exact ⟨x, hx, hxc, hxk⟩
      intro x
      have hx := h.acc x
      induction hx with
      | intro x _ ih => exact ⟨x, fun c hc => ih c (hsub c x hc)⟩
  · unfold addT at hx
    rcases mem_set hx with hx | rfl
    · exact h.data x hx
    · exact h.at_data dir
  · unfold addT at hx
    rcases mem_set hx with hx | rfl
    · have := h.held x hx; omega
    · have := h.at_held dir; show 0 ≤ (ndAt t dir).held ∧ (ndAt t dir).held ≤ _; omega
end Go.Proofs.Ytnnidgjfjgkdpaa
