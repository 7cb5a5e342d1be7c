/- Trees that are well stay so, whatever record is played: plain, the records. -/
import Derived.Test.YtnnidgjfjgkdpaaP1
namespace Go.Proofs.Ytnnidgjfjgkdpaa
open Go.RowKit

theorem Well.makeR {n s : Nat} {t : Tr} (h : Well n s t) {dir : Int} {q : ByteArray} {kind ino : Int} {e : Int} {t1 : Tr} (hr : makeR t dir q kind ino = (e, t1)) : Well n (s + 1) t1 := by
  by_cases he : e = 0
  · subst he
    obtain ⟨rfl, _, hk, i1, i2, hd, _, hnt⟩ := make_zero hr
    obtain ⟨_, htd, _⟩ := dirE_zero hd
    obtain ⟨b1, b2, _⟩ := thereB_bounds htd
    have hne : dir ≠ ino := fun hh => by subst hh; rw [htd] at hnt; cases hnt
    have ha : ino.toNat - 1 < t.length := by omega
    have hk0 : (ndAt t ino).kind = 0 := by
      unfold thereB at hnt
      simp [i1, i2] at hnt
      exact hnt
    have hkn : kind ≠ 0 := by omega
    have hat := ndAt_set (t := t) (a := ino) { noNd with kind := kind } ha
    have w0 : Well n s (setNd t ino { noNd with kind := kind }) := by
      refine ⟨by rw [setNd_length]; exact h.len, fun x hx => ?_, fun x hx y hy => ?_, fun x hx y hy => ?_, ?_, fun x hx => ?_, fun x hx => ?_⟩
      · rcases mem_set hx with hx | rfl
        · exact h.small x hx
        · exact Nat.zero_le _
      · rw [setNd_length]
        rcases mem_set hx with hx | rfl
        · exact h.good x hx y hy
        · cases hy
      · rcases mem_set hx with hx | rfl
        · rw [hat]
          split
          · exact hkn
          · exact h.there x hx y hy
        · cases hy
      · have hsub : ∀ c p, Child (setNd t ino { noNd with kind := kind }) c p → Child t c p := fun c p hc => by
          obtain ⟨x, hx, hxc, hxk⟩ := hc
          rw [hat] at hx
          split at hx
          · cases hx
          · have g := h.at_good hx
            have g2 := h.at_there hx
            rw [hat] at hxk
            split at hxk
            · rename_i hp
              have : x.ino = ino := by omega
              rw [this] at g2
              exact absurd hk0 g2
            · exact ⟨x, hx, hxc, hxk⟩
        intro x
        have hx := h.acc x
        induction hx with
        | intro x _ ih => exact ⟨x, fun c hc => ih c (hsub c x hc)⟩
      · rcases mem_set hx with hx | rfl
        · exact h.data x hx
        · simp [noNd]
      · rcases mem_set hx with hx | rfl
        · exact h.held x hx
        · simp [noNd]
    have hai : ndAt (setNd t ino { noNd with kind := kind }) ino = { noNd with kind := kind } := ndAt_set_self _ i1 i2
    refine w0.add (e := ⟨q, ino⟩) b1 (by rw [setNd_length]; exact b2) i1 (by rw [setNd_length]; exact i2) (by rw [hai]; exact hkn) (fun _ hu => ?_)
    cases hu with
    | here => exact hne rfl
    | step hc _ =>
      obtain ⟨x, hx, _⟩ := hc
      rw [hai] at hx
      cases hx
  · have : t1 = t := by
      unfold Proofs.Ytnnidgjfjgkdpaa.makeR at hr
      split at hr
      · injection hr with _ hr; exact hr.symm
      · split at hr
        · injection hr with _ hr; exact hr.symm
        · split at hr
          · injection hr with _ hr; exact hr.symm
          · injection hr with hr _; exact absurd hr.symm he
    rw [this]; exact h.mono (by omega)
theorem Well.holdR {n s : Nat} {t : Tr} (h : Well n s t) {ino : Int} {e : Int} {t1 : Tr} (hr : holdR t ino = (e, t1)) : Well n (s + 1) t1 := by
  unfold Proofs.Ytnnidgjfjgkdpaa.holdR at hr
  by_cases hf : fileE t ino ≠ 0
  · rw [if_pos hf] at hr; injection hr with _ hr; subst hr; exact h.mono (by omega)
  · rw [if_neg hf] at hr
    injection hr with _ hr
    subst hr
    obtain ⟨b1, b2, _⟩ := thereB_bounds (fileE_zero (by omega : fileE t ino = 0)).1
    have := h.at_held ino
    exact h.set b1 b2 (by omega) rfl (fun _ h => h) (Nat.le_trans (h.at_small ino) (by omega)) (h.at_data ino) (by show 0 ≤ (ndAt t ino).held + 1 ∧ (ndAt t ino).held + 1 ≤ _; omega)
theorem Well.linkR {n s : Nat} {t : Tr} (h : Well n s t) {dir : Int} {q : ByteArray} {ino : Int} {e : Int} {t1 : Tr} (hr : linkR t dir q ino = (e, t1)) : Well n (s + 1) t1 := by
  unfold Proofs.Ytnnidgjfjgkdpaa.linkR at hr
  split at hr
  · injection hr with _ hr; subst hr; exact h.mono (by omega)
  · split at hr
    · injection hr with _ hr; subst hr; exact h.mono (by omega)
    · rename_i hth
      split at hr
      · injection hr with _ hr; subst hr; exact h.mono (by omega)
      · split at hr
        · injection hr with _ hr; subst hr; exact h.mono (by omega)
        · rename_i hk
          split at hr
          · injection hr with _ hr; subst hr; exact h.mono (by omega)
          · split at hr
            · injection hr with _ hr; subst hr; exact h.mono (by omega)
            · injection hr with _ hr
              subst hr
              have h1 : thereB t dir = true := by cases hh : thereB t dir with
                | true => rfl
                | false => exact absurd (.inl hh) hth
              have h2 : thereB t ino = true := by cases hh : thereB t ino with
                | true => rfl
                | false => exact absurd (.inr hh) hth
              obtain ⟨b1, b2, _⟩ := thereB_bounds h1
              obtain ⟨i1, i2, i3⟩ := thereB_bounds h2
              exact h.add (e := ⟨q, ino⟩) b1 b2 i1 i2 i3 (fun hh => absurd (by simpa using hh) hk)
theorem Well.unlinkR {n s : Nat} {t : Tr} (h : Well n s t) {dir : Int} {q : ByteArray} : Well n s (unlinkR t dir q).2.2 := by
  unfold Proofs.Ytnnidgjfjgkdpaa.unlinkR
  split
  · exact h
  · rename_i hl
    split
    · exact h
    · obtain ⟨ino, e, hlk⟩ : ∃ ino e, lookR t dir q = (ino, e) := ⟨_, _, rfl⟩
      rw [hlk] at hl ⊢
      obtain rfl : e = 0 := by simpa using hl
      obtain ⟨i1, i2⟩ := look_good h.good hlk
      obtain ⟨hd, _⟩ := look_ok hlk
      obtain ⟨_, ht, _⟩ := dirE_zero hd
      obtain ⟨b1, b2, _⟩ := thereB_bounds ht
      exact ((h.del b1 b2 q).1.free i1 (by rw [delS_length]; exact i2)).1
theorem Well.rmdirR {n s : Nat} {t : Tr} (h : Well n s t) {dir : Int} {q : ByteArray} : Well n s (rmdirR t dir q).2.2 := by
  unfold Proofs.Ytnnidgjfjgkdpaa.rmdirR
  split
  · exact h
  · rename_i hl
    split
    · exact h
    · split
      · exact h
      · obtain ⟨ino, e, hlk⟩ : ∃ ino e, lookR t dir q = (ino, e) := ⟨_, _, rfl⟩
        rw [hlk] at hl ⊢
        obtain rfl : e = 0 := by simpa using hl
        obtain ⟨i1, i2⟩ := look_good h.good hlk
        obtain ⟨hd, _⟩ := look_ok hlk
        obtain ⟨_, ht, _⟩ := dirE_zero hd
        obtain ⟨b1, b2, _⟩ := thereB_bounds ht
        exact ((h.del b1 b2 q).1.free i1 (by rw [delS_length]; exact i2)).1
theorem Well.unlinkP {n s : Nat} {t : Tr} (h : Well n s t) {r : R} {e : Int} {t1 : Tr} (hr : unlinkP t r = (e, t1)) : Well n s t1 := by
  unfold Proofs.Ytnnidgjfjgkdpaa.unlinkP at hr
  split at hr
  · injection hr with _ hr; subst hr; exact h
  · split at hr
    · injection hr with _ hr; subst hr; exact h
    · split at hr
      · injection hr with _ hr; subst hr; exact h.rmdirR
      · injection hr with _ hr; subst hr; exact h.unlinkR
theorem Well.renameC {n s : Nat} {t : Tr} (h : Well n s t) {dir to ino old : Int} {q p : ByteArray} (hl : lookR t dir q = (ino, 0)) (hl2 : lookR t to p = (old, 0)) (hu : (ndAt t ino).kind = 2 → ¬ Under t to ino) {e : Int} {t1 : Tr} (hr : renameC t dir q to p ino old = (e, t1)) : Well n (s + 1) t1 := by
  unfold Proofs.Ytnnidgjfjgkdpaa.renameC at hr
  split at hr
  · injection hr with _ hr; subst hr; exact h.mono (by omega)
  · rename_i hne
    split at hr
    · injection hr with _ hr; subst hr; exact h.mono (by omega)
    · split at hr
      · injection hr with _ hr; subst hr; exact h.mono (by omega)
      · split at hr
        · injection hr with _ hr; subst hr; exact h.mono (by omega)
        · injection hr with _ hr
          subst hr
          have hno : old ≠ ino := by simpa using hne
          obtain ⟨i1, i2⟩ := look_good h.good hl
          obtain ⟨o1, o2⟩ := look_good h.good hl2
          obtain ⟨hd, _⟩ := look_ok hl
          obtain ⟨_, ht, _⟩ := dirE_zero hd
          obtain ⟨b1, b2, _⟩ := thereB_bounds ht
          obtain ⟨hd2, _⟩ := look_ok hl2
          obtain ⟨_, ht2, _⟩ := dirE_zero hd2
          obtain ⟨c1, c2, _⟩ := thereB_bounds ht2
          obtain ⟨w1, s1, k1⟩ := h.del c1 c2 p
          obtain ⟨w2, s2, k2⟩ := w1.free o1 (by rw [delS_length]; exact o2)
          obtain ⟨w3, s3, k3⟩ := w2.del b1 (by rw [freeT_length, delS_length]; exact b2) q
          have hs := (s3.trans s2).trans s1
          have hki : (ndAt (delS (freeT (delS t to p) old) dir q) ino).kind = (ndAt t ino).kind := by
            rw [k3, k2 ino i1 (fun e => hno e.symm), k1]
          obtain ⟨_, kk, x, _, hx, hxi⟩ := look_ok hl
          have hk0 : (ndAt t ino).kind ≠ 0 := by rw [← hxi]; exact h.at_there (List.mem_of_getElem? hx)
          refine w3.add (e := ⟨p, ino⟩) c1 (by rw [delS_length, freeT_length, delS_length]; exact c2) i1 (by rw [delS_length, freeT_length, delS_length]; exact i2) (by rw [hki]; exact hk0) (fun hh hun => ?_)
          rw [hki] at hh
          exact hu hh (hs.under hun)
theorem Well.renameR {n s : Nat} {t : Tr} (h : Well n s t) {dir to : Int} {q p : ByteArray} {e : Int} {t1 : Tr} (hr : renameR t dir q to p = (e, t1)) : Well n (s + 1) t1 := by
  unfold Proofs.Ytnnidgjfjgkdpaa.renameR at hr
  split at hr
  · injection hr with _ hr; subst hr; exact h.mono (by omega)
  · split at hr
    · injection hr with _ hr; subst hr; exact h.mono (by omega)
    · rename_i hth
      split at hr
      · injection hr with _ hr; subst hr; exact h.mono (by omega)
      · split at hr
        · injection hr with _ hr; subst hr; exact h.mono (by omega)
        · rename_i hl0
          obtain ⟨ino, e1, hl⟩ : ∃ ino e, lookR t dir q = (ino, e) := ⟨_, _, rfl⟩
          rw [hl] at hl0 hr
          obtain rfl : e1 = 0 := by simpa using hl0
          simp only [] at hr
          unfold renameB at hr
          split at hr
          · injection hr with _ hr; subst hr; exact h.mono (by omega)
          · rename_i hub
            have hu : (ndAt t ino).kind = 2 → ¬ Under t to ino := fun hk hun => hub ⟨by simpa using hk, underB_iff.2 hun⟩
            split at hr
            · rename_i h2
              obtain ⟨old, e2, hl2⟩ : ∃ ino e, lookR t to p = (ino, e) := ⟨_, _, rfl⟩
              rw [hl2] at h2 hr
              simp only [] at h2 hr
              subst h2
              exact h.renameC hl hl2 hu hr
            · injection hr with _ hr
              subst hr
              have ht2 : thereB t to = true := by cases hh : thereB t to with
                | true => rfl
                | false => exact absurd (.inr hh) hth
              obtain ⟨i1, i2⟩ := look_good h.good hl
              obtain ⟨hd, kk, x, _, hx, hxi⟩ := look_ok hl
              obtain ⟨_, ht, _⟩ := dirE_zero hd
              obtain ⟨b1, b2, _⟩ := thereB_bounds ht
              obtain ⟨c1, c2, _⟩ := thereB_bounds ht2
              obtain ⟨w3, s3, k3⟩ := h.del b1 b2 q
              have hk0 : (ndAt t ino).kind ≠ 0 := by rw [← hxi]; exact h.at_there (List.mem_of_getElem? hx)
              exact w3.add (e := ⟨p, ino⟩) c1 (by rw [delS_length]; exact c2) i1 (by rw [delS_length]; exact i2) (by rw [k3]; exact hk0) (fun hh hun => hu (by rw [← k3]; exact hh) (s3.under hun))
theorem Well.renameP {n s : Nat} {t : Tr} (h : Well n s t) {r : R} {e : Int} {t1 : Tr} (hr : renameP t r = (e, t1)) : Well n (s + 1) t1 := by
  unfold Proofs.Ytnnidgjfjgkdpaa.renameP at hr
  split at hr
  · injection hr with _ hr; subst hr; exact h.mono (by omega)
  · split at hr
    · injection hr with _ hr; subst hr; exact h.mono (by omega)
    · split at hr
      · injection hr with _ hr; subst hr; exact h.mono (by omega)
      · split at hr
        · injection hr with _ hr; subst hr; exact h.mono (by omega)
        · exact h.renameR hr
theorem Well.resizeR {n s : Nat} {t : Tr} (h : Well n s t) {ino size : Int} {e : Int} {t1 : Tr} (hr : resizeR t ino size = (e, t1)) : Well n s t1 := by
  unfold Proofs.Ytnnidgjfjgkdpaa.resizeR at hr
  split at hr
  · injection hr with _ hr; subst hr; exact h
  · rename_i hf
    split at hr
    · injection hr with _ hr; subst hr; exact h
    · injection hr with _ hr
      subst hr
      obtain ⟨b1, b2, _⟩ := thereB_bounds (fileE_zero (by omega : fileE t ino = 0)).1
      exact h.set b1 b2 (Nat.le_refl _) rfl (fun _ h => h) (h.at_small ino) (by show (longS _ _).size ≤ _; rw [longS_size]; omega) (h.at_held ino)
theorem Well.writeR {n s : Nat} {t : Tr} (h : Well n s t) {ino page : Int} {d : ByteArray} {e : Int} {t1 : Tr} (hr : writeR t ino page d = (e, t1)) : Well n s t1 := by
  unfold Proofs.Ytnnidgjfjgkdpaa.writeR at hr
  split at hr
  · injection hr with _ hr; subst hr; exact h
  · rename_i hf
    split at hr
    · injection hr with _ hr; subst hr; exact h
    · injection hr with _ hr
      subst hr
      obtain ⟨b1, b2, _⟩ := thereB_bounds (fileE_zero (by omega : fileE t ino = 0)).1
      have := h.at_data ino
      exact h.set b1 b2 (Nat.le_refl _) rfl (fun _ h => h) (h.at_small ino) (by show (writeS _ _ _).size ≤ _; rw [writeS_size]; omega) (h.at_held ino)
theorem Well.dropR {n s : Nat} {t : Tr} (h : Well n s t) {ino : Int} {e : Int} {t1 : Tr} (hr : dropR t ino = (e, t1)) : Well n s t1 := by
  unfold Proofs.Ytnnidgjfjgkdpaa.dropR at hr
  split at hr
  · injection hr with _ hr; subst hr; exact h
  · rename_i hth
    split at hr
    · injection hr with _ hr; subst hr; exact h
    · rename_i hh
      injection hr with _ hr
      subst hr
      obtain ⟨b1, b2, _⟩ := thereB_bounds (t := t) (ino := ino) (by simpa using hth)
      have h0 := h.at_held ino
      have h1 : (ndAt t ino).held ≠ 0 := by simpa using hh
      have w1 : Well n s (dropT t ino) := h.set b1 b2 (Nat.le_refl _) rfl (fun _ h => h) (h.at_small ino) (h.at_data ino) (by show 0 ≤ (ndAt t ino).held - 1 ∧ (ndAt t ino).held - 1 ≤ _; omega)
      exact (w1.free b1 (by unfold dropT; rw [setNd_length]; exact b2)).1
/-- Whatever record is played. -/
theorem Well.play {n s : Nat} {t : Tr} (h : Well n s t) {r : R} {e : Int} {t1 : Tr} (hr : playR t r = (e, t1)) : Well n (s + 2) t1 := by
  unfold playR at hr
  split at hr
  · obtain ⟨em, tm, hm⟩ : ∃ em tm, Proofs.Ytnnidgjfjgkdpaa.makeR t r.dir r.name r.kind r.ino = (em, tm) := ⟨_, _, rfl⟩
    rw [hm] at hr
    have w1 := h.makeR hm
    split at hr
    · exact w1.holdR hr
    · injection hr with _ hr; subst hr; exact w1.mono (by omega)
  · split at hr
    · exact (h.linkR hr).mono (by omega)
    · split at hr
      · exact (h.unlinkP hr).mono (by omega)
      · split at hr
        · exact (h.renameP hr).mono (by omega)
        · split at hr
          · exact (h.resizeR hr).mono (by omega)
          · split at hr
            · obtain ⟨em, tm, hm⟩ : ∃ em tm, Proofs.Ytnnidgjfjgkdpaa.writeR t r.ino r.page r.data = (em, tm) := ⟨_, _, rfl⟩
              rw [hm] at hr
              have w1 := h.writeR hm
              split at hr
              · injection hr with _ hr; subst hr; exact w1.mono (by omega)
              · exact (w1.resizeR hr).mono (by omega)
            · split at hr
              · injection hr with _ hr; subst hr; exact h.mono (by omega)
              · split at hr
                · injection hr with _ hr; subst hr; exact h.mono (by omega)
                · exact (h.dropR hr).mono (by omega)
theorem newT_well (n : Nat) (h1 : 1 ≤ n) : Well n 0 (newT n) := by
  have hm : ∀ x ∈ newT n, x = noNd ∨ x = { noNd with kind := 2 } := fun x hx => by
    unfold newT at hx
    rcases mem_set hx with hx | rfl
    · exact .inl (List.eq_of_mem_replicate hx)
    · exact .inr rfl
  have hl : ∀ x ∈ newT n, x.l = [] := fun x hx => by rcases hm x hx with rfl | rfl <;> rfl
  refine ⟨by unfold newT; rw [setNd_length]; simp, (fun x hx => by rw [hl x hx]; exact Nat.le_refl _), (fun x hx e he => by rw [hl x hx] at he; cases he), (fun x hx e he => by rw [hl x hx] at he; cases he), fun x => ⟨x, fun c hc => ?_⟩, (fun x hx => by rcases hm x hx with rfl | rfl <;> simp [noNd]), (fun x hx => by rcases hm x hx with rfl | rfl <;> simp [noNd])⟩
  obtain ⟨e, he, _⟩ := hc
  rcases ndAt_or (t := newT n) x with h | h
  · rw [hl _ h] at he; cases he
  · rw [h] at he; cases he
end Go.Proofs.Ytnnidgjfjgkdpaa
