/- A file that is held stays, whatever else is played: plain. -/
import Derived.Test.YtnnidgjfjgkdpaaP2
namespace Go.Proofs.Ytnnidgjfjgkdpaa
open Go.RowKit

/-- A file that is there, and held. -/
structure Kept (t : Tr) (X : Int) : Prop where
  lo : 1 ≤ X
  hi : X ≤ t.length
  kind : (ndAt t X).kind = 1
  held : 1 ≤ (ndAt t X).held
theorem Kept.there {t : Tr} {X : Int} (h : Kept t X) : thereB t X = true := by
  unfold thereB; simp [h.lo, h.hi, h.kind]
/-- It is as it was, or more. -/
structure Same3 (t t' : Tr) (X : Int) : Prop where
  len : t'.length = t.length
  kind : (ndAt t' X).kind = (ndAt t X).kind
  held : (ndAt t X).held ≤ (ndAt t' X).held
theorem Same3.refl (t : Tr) (X : Int) : Same3 t t X := ⟨rfl, rfl, Int.le_refl _⟩
theorem Same3.trans {a b c : Tr} {X : Int} (h : Same3 a b X) (k : Same3 b c X) : Same3 a c X := ⟨k.len.trans h.len, k.kind.trans h.kind, Int.le_trans h.held k.held⟩
theorem Kept.same {t t' : Tr} {X : Int} (h : Kept t X) (s : Same3 t t' X) : Kept t' X :=
  ⟨h.lo, by rw [s.len]; exact h.hi, s.kind.trans h.kind, Int.le_trans h.held s.held⟩
theorem same3_set {t : Tr} {a X : Int} {y : Nd} (ha : a.toNat - 1 < t.length) (hk : y.kind = (ndAt t a).kind) (hh : (ndAt t a).held ≤ y.held) : Same3 t (setNd t a y) X := by
  refine ⟨setNd_length _ _ _, ?_, ?_⟩
  · rw [ndAt_set y ha]; split
    · rename_i h; rw [ndAt_same h]; exact hk
    · rfl
  · rw [ndAt_set y ha]; split
    · rename_i h; rw [ndAt_same h]; exact hh
    · exact Int.le_refl _
theorem same3_ne {t : Tr} {a X : Int} {y : Nd} (h1 : 1 ≤ a) (h2 : 1 ≤ X) (h : a ≠ X) : Same3 t (setNd t a y) X :=
  ⟨setNd_length _ _ _, by rw [ndAt_set_ne y h1 h2 h], by rw [ndAt_set_ne y h1 h2 h]; exact Int.le_refl _⟩
theorem same3_del {t : Tr} {dir X : Int} (b1 : 1 ≤ dir) (b2 : dir ≤ t.length) (q : ByteArray) : Same3 t (delS t dir q) X := by
  unfold delS
  split
  · exact same3_set (by omega) rfl (Int.le_refl _)
  · exact Same3.refl _ _
theorem same3_add {t : Tr} {dir X : Int} (b1 : 1 ≤ dir) (b2 : dir ≤ t.length) (e : Ent) : Same3 t (addT t dir e) X := by
  unfold addT; exact same3_set (by omega) rfl (Int.le_refl _)
theorem same3_free {t : Tr} {a X : Int} (h : Kept t X) (a1 : 1 ≤ a) : Same3 t (freeT t a) X := by
  unfold freeT
  split
  · rename_i hc
    by_cases hax : a = X
    · subst hax; have := h.held; rw [hc.2.2] at this; omega
    · exact same3_ne a1 h.lo hax
  · exact Same3.refl _ _

/-- Where a record names it as a directory, it is not played. -/
theorem dirE_kept {t : Tr} {X : Int} (h : Kept t X) (s : ByteArray) : dirE t X s ≠ 0 := fun hd => by
  have := (dirE_zero hd).2.2
  rw [h.kind] at this; omega
theorem kept_make {t : Tr} {X : Int} (h : Kept t X) {dir : Int} {q : ByteArray} {kind ino : Int} {t1 : Tr} (hr : makeR t dir q kind ino = (0, t1)) : Same3 t t1 X ∧ ino ≠ X ∧ dir ≠ X := by
  obtain ⟨rfl, _, _, i1, i2, hd, _, hnt⟩ := make_zero hr
  have hne : ino ≠ X := fun e => by subst e; rw [h.there] at hnt; cases hnt
  obtain ⟨_, htd, _⟩ := dirE_zero hd
  obtain ⟨b1, b2, _⟩ := thereB_bounds htd
  refine ⟨(same3_ne i1 h.lo hne).trans (same3_add (e := ⟨q, ino⟩) b1 (by rw [setNd_length]; exact b2)), hne, fun e => ?_⟩
  subst e; exact dirE_kept h q hd
theorem kept_hold {t : Tr} {X : Int} {ino : Int} {t1 : Tr} (hr : holdR t ino = (0, t1)) : Same3 t t1 X := by
  unfold holdR at hr
  split at hr
  · injection hr with hr _; exact absurd hr (by assumption)
  · rename_i hf
    injection hr with _ hr
    subst hr
    obtain ⟨b1, b2, _⟩ := thereB_bounds (fileE_zero (by omega : fileE t ino = 0)).1
    exact same3_set (by omega) rfl (by show _ ≤ (ndAt t ino).held + 1; omega)
theorem kept_link {t : Tr} {X : Int} (h : Kept t X) {dir : Int} {q : ByteArray} {ino : Int} {t1 : Tr} (hr : linkR t dir q ino = (0, t1)) : Same3 t t1 X ∧ dir ≠ X := by
  unfold linkR at hr
  split at hr
  · injection hr with hr _; omega
  · split at hr
    · injection hr with hr _; omega
    · rename_i hth
      split at hr
      · injection hr with hr _; omega
      · rename_i hk
        split at hr
        · injection hr with hr _; omega
        · split at hr
          · injection hr with hr _; omega
          · split at hr
            · injection hr with hr _; omega
            · injection hr with _ hr
              subst hr
              have h1 : thereB t dir = true := by cases hh : thereB t dir with
                | true => rfl
                | false => exact absurd (.inl hh) hth
              obtain ⟨b1, b2, _⟩ := thereB_bounds h1
              refine ⟨same3_add b1 b2 _, fun e => ?_⟩
              subst e
              rw [h.kind] at hk
              exact hk rfl
theorem kept_look {t : Tr} {X : Int} (h : Kept t X) {dir : Int} {q : ByteArray} {v : Int} (hl : lookR t dir q = (v, 0)) : dir ≠ X ∧ 1 ≤ dir ∧ dir ≤ t.length := by
  obtain ⟨hd, _⟩ := look_ok hl
  obtain ⟨_, ht, _⟩ := dirE_zero hd
  obtain ⟨b1, b2, _⟩ := thereB_bounds ht
  exact ⟨fun e => by subst e; exact dirE_kept h q hd, b1, b2⟩
theorem kept_delfree {t : Tr} {X : Int} (h : Kept t X) {dir a : Int} (b1 : 1 ≤ dir) (b2 : dir ≤ t.length) (a1 : 1 ≤ a) (q : ByteArray) : Same3 t (freeT (delS t dir q) a) X :=
  (same3_del b1 b2 q).trans (same3_free (h.same (same3_del b1 b2 q)) a1)
theorem kept_unlinkP {t : Tr} {X : Int} (h : Kept t X) (hg : GoodE t) {r : R} {t1 : Tr} (hr : unlinkP t r = (0, t1)) : Same3 t t1 X ∧ r.dir ≠ X := by
  unfold unlinkP at hr
  obtain ⟨v, e, hl⟩ : ∃ v e, lookR t r.dir r.name = (v, e) := ⟨_, _, rfl⟩
  rw [hl] at hr
  simp only [] at hr
  split at hr
  · injection hr with hr _; exact absurd hr (by assumption)
  · rename_i he
    obtain rfl : e = 0 := by simpa using he
    obtain ⟨k1, k2, k3⟩ := kept_look h hl
    obtain ⟨i1, _⟩ := look_good hg hl
    refine ⟨?_, k1⟩
    split at hr
    · injection hr with hr _; omega
    · split at hr
      · injection hr with _ hr
        subst hr
        unfold rmdirR
        rw [hl]
        simp only []
        split
        · exact Same3.refl _ _
        · split
          · exact Same3.refl _ _
          · split
            · exact Same3.refl _ _
            · exact kept_delfree h k2 k3 i1 _
      · injection hr with _ hr
        subst hr
        unfold unlinkR
        rw [hl]
        simp only []
        split
        · exact Same3.refl _ _
        · split
          · exact Same3.refl _ _
          · exact kept_delfree h k2 k3 i1 _
theorem kept_renameC {t : Tr} {X : Int} (h : Kept t X) {dir to ino old : Int} {q p : ByteArray} (b1 : 1 ≤ dir) (b2 : dir ≤ t.length) (c1 : 1 ≤ to) (c2 : to ≤ t.length) (o1 : 1 ≤ old) {e : Int} {t1 : Tr} (hr : renameC t dir q to p ino old = (e, t1)) : Same3 t t1 X := by
  unfold renameC at hr
  split at hr
  · injection hr with _ hr; subst hr; exact Same3.refl _ _
  · split at hr
    · injection hr with _ hr; subst hr; exact Same3.refl _ _
    · split at hr
      · injection hr with _ hr; subst hr; exact Same3.refl _ _
      · split at hr
        · injection hr with _ hr; subst hr; exact Same3.refl _ _
        · injection hr with _ hr
          subst hr
          have s1 := kept_delfree h c1 c2 o1 p
          have l1 : (freeT (delS t to p) old).length = t.length := by rw [freeT_length, delS_length]
          have s2 := same3_del (X := X) b1 (by rw [l1]; exact b2) q
          exact (s1.trans s2).trans (same3_add c1 (by rw [delS_length, l1]; exact c2) _)
theorem kept_renameR {t : Tr} {X : Int} (h : Kept t X) (hg : GoodE t) {dir to : Int} {q p : ByteArray} {t1 : Tr} (hr : renameR t dir q to p = (0, t1)) : Same3 t t1 X ∧ dir ≠ X ∧ to ≠ X := by
  unfold renameR at hr
  split at hr
  · injection hr with hr _; omega
  · split at hr
    · injection hr with hr _; omega
    · rename_i hth
      split at hr
      · injection hr with hr _; omega
      · rename_i hk
        have h1 : thereB t dir = true := by cases hh : thereB t dir with
          | true => rfl
          | false => exact absurd (.inl hh) hth
        have h2 : thereB t to = true := by cases hh : thereB t to with
          | true => rfl
          | false => exact absurd (.inr hh) hth
        obtain ⟨b1, b2, _⟩ := thereB_bounds h1
        obtain ⟨c1, c2, _⟩ := thereB_bounds h2
        refine ⟨?_, fun e => ?_, fun e => ?_⟩
        · obtain ⟨v, e, hl⟩ : ∃ v e, lookR t dir q = (v, e) := ⟨_, _, rfl⟩
          rw [hl] at hr
          simp only [] at hr
          split at hr
          · injection hr with hr _; exact absurd hr (by assumption)
          · unfold renameB at hr
            split at hr
            · injection hr with hr _; omega
            · split at hr
              · rename_i h0
                obtain ⟨old, e2, hl2⟩ : ∃ v e, lookR t to p = (v, e) := ⟨_, _, rfl⟩
                rw [hl2] at h0 hr
                simp only [] at h0 hr
                subst h0
                exact kept_renameC h b1 b2 c1 c2 (look_good hg hl2).1 hr
              · injection hr with _ hr
                subst hr
                exact (same3_del b1 b2 q).trans (same3_add c1 (by rw [delS_length]; exact c2) _)
        · subst e; exact hk (.inl (by rw [h.kind]; rfl))
        · subst e; exact hk (.inr (by rw [h.kind]; rfl))
theorem kept_renameP {t : Tr} {X : Int} (h : Kept t X) (hg : GoodE t) {r : R} {t1 : Tr} (hr : renameP t r = (0, t1)) : Same3 t t1 X ∧ r.dir ≠ X ∧ r.dir2 ≠ X := by
  unfold renameP at hr
  split at hr
  · injection hr with hr _; exact absurd hr (by assumption)
  · split at hr
    · injection hr with hr _; omega
    · split at hr
      · injection hr with hr _; omega
      · split at hr
        · injection hr with hr _; omega
        · exact kept_renameR h hg hr
theorem kept_resize {t : Tr} {X : Int} {ino size : Int} {t1 : Tr} {e : Int} (hr : resizeR t ino size = (e, t1)) : Same3 t t1 X := by
  unfold resizeR at hr
  split at hr
  · injection hr with _ hr; subst hr; exact Same3.refl _ _
  · rename_i hf
    split at hr
    · injection hr with _ hr; subst hr; exact Same3.refl _ _
    · injection hr with _ hr
      subst hr
      obtain ⟨b1, b2, _⟩ := thereB_bounds (fileE_zero (by omega : fileE t ino = 0)).1
      exact same3_set (by omega) rfl (Int.le_refl _)
theorem kept_write {t : Tr} {X : Int} {ino page : Int} {d : ByteArray} {t1 : Tr} {e : Int} (hr : writeR t ino page d = (e, t1)) : Same3 t t1 X := by
  unfold writeR at hr
  split at hr
  · injection hr with _ hr; subst hr; exact Same3.refl _ _
  · rename_i hf
    split at hr
    · injection hr with _ hr; subst hr; exact Same3.refl _ _
    · injection hr with _ hr
      subst hr
      obtain ⟨b1, b2, _⟩ := thereB_bounds (fileE_zero (by omega : fileE t ino = 0)).1
      exact same3_set (by omega) rfl (Int.le_refl _)
theorem kept_drop {t : Tr} {X : Int} (h : Kept t X) {ino : Int} (hne : ino ≠ X) {t1 : Tr} {e : Int} (hr : dropR t ino = (e, t1)) : Same3 t t1 X := by
  unfold dropR at hr
  split at hr
  · injection hr with _ hr; subst hr; exact Same3.refl _ _
  · rename_i hth
    split at hr
    · injection hr with _ hr; subst hr; exact Same3.refl _ _
    · injection hr with _ hr
      subst hr
      obtain ⟨b1, b2, _⟩ := thereB_bounds (t := t) (ino := ino) (by simpa using hth)
      have s1 : Same3 t (dropT t ino) X := same3_ne b1 h.lo hne
      exact s1.trans (same3_free (h.same s1) b1)
/-- What is played, where a file is held: it stays; nothing makes it, or names it as a directory. -/
theorem kept_play {t : Tr} {X : Int} (h : Kept t X) (hg : GoodE t) {r : R} (hm : mayB r = true) {t1 : Tr} (hr : playR t r = (0, t1)) :
    (¬ (r.act = 7 ∧ r.ino = X) → Kept t1 X) ∧ (r.act = 1 → r.ino ≠ X) ∧ r.dir ≠ X ∧ r.dir2 ≠ X := by
  have hX := h.lo
  have d0 : ¬ (r.act = 1 ∨ r.act = 2 ∨ r.act = 3 ∨ r.act = 4) → r.dir = 0 := fun hn => by
    unfold mayB at hm; simp only [Bool.and_eq_true] at hm
    have := hm.1.1.1.1.2
    rw [if_neg hn] at this
    simp at this; exact this.1
  have d20 : r.act ≠ 4 → r.dir2 = 0 := fun hn => by
    unfold mayB at hm; simp only [Bool.and_eq_true] at hm
    have := hm.1.1.2
    rw [if_neg hn] at this
    simp at this; exact this.1.1
  unfold playR at hr
  split at hr
  · rename_i a1
    have e2 := d20 (by omega)
    split at hr
    · obtain ⟨em, tm, hmk⟩ : ∃ em tm, makeR t r.dir r.name r.kind r.ino = (em, tm) := ⟨_, _, rfl⟩
      rename_i hc
      rw [hmk] at hr hc
      obtain ⟨s1, n1, n2⟩ := kept_make h (by rw [hmk]; rw [show em = 0 from hc.1])
      exact ⟨fun _ => (h.same s1).same (kept_hold hr), fun _ => n1, n2, by omega⟩
    · obtain ⟨s1, n1, n2⟩ := kept_make h hr
      exact ⟨fun _ => h.same s1, fun _ => n1, n2, by omega⟩
  · rename_i a1
    split at hr
    · have e2 := d20 (by omega)
      obtain ⟨s1, n1⟩ := kept_link h hr
      exact ⟨fun _ => h.same s1, fun hh => absurd hh a1, n1, by omega⟩
    · split at hr
      · have e2 := d20 (by omega)
        obtain ⟨s1, n1⟩ := kept_unlinkP h hg hr
        exact ⟨fun _ => h.same s1, fun hh => absurd hh a1, n1, by omega⟩
      · split at hr
        · obtain ⟨s1, n1, n2⟩ := kept_renameP h hg hr
          exact ⟨fun _ => h.same s1, fun hh => absurd hh a1, n1, n2⟩
        · have e1 := d0 (by omega)
          have e2 := d20 (by omega)
          refine ⟨fun hnf => ?_, fun hh => absurd hh a1, by omega, by omega⟩
          split at hr
          · exact h.same (kept_resize hr)
          · split at hr
            · obtain ⟨em, tm, hmk⟩ : ∃ em tm, writeR t r.ino r.page r.data = (em, tm) := ⟨_, _, rfl⟩
              rw [hmk] at hr
              split at hr
              · injection hr with _ hr; subst hr; exact h.same (kept_write hmk)
              · exact (h.same (kept_write hmk)).same (kept_resize hr)
            · split at hr
              · injection hr with hr _; omega
              · split at hr
                · injection hr with hr _; omega
                · have hact : r.act = 7 := by
                    unfold mayB at hm; simp only [Bool.and_eq_true, decide_eq_true_eq] at hm
                    have := hm.1.1.1.1.1.1; omega
                  exact h.same (kept_drop h (fun hh => hnf ⟨hact, hh⟩) hr)
/-- A file that was made is held. -/
theorem made_kept {t : Tr} {r : R} (ha : r.act = 1) (hk : r.kind = 1) {t1 : Tr} (hr : playR t r = (0, t1)) : Kept t1 r.ino := by
  unfold playR at hr
  rw [if_pos ha] at hr
  by_cases hc : (makeR t r.dir r.name r.kind r.ino).1 = 0 ∧ r.kind = 1
  · rw [if_pos hc] at hr
    obtain ⟨em, tm, hmk⟩ : ∃ em tm, makeR t r.dir r.name r.kind r.ino = (em, tm) := ⟨_, _, rfl⟩
    rw [hmk] at hr hc
    obtain rfl : em = 0 := hc.1
    obtain ⟨rfl, _, _, i1, i2, hd, _, hnt⟩ := make_zero hmk
    obtain ⟨_, htd, _⟩ := dirE_zero hd
    obtain ⟨b1, b2, _⟩ := thereB_bounds htd
    have hne : r.dir ≠ r.ino := fun e => by rw [e] at htd; rw [htd] at hnt; cases hnt
    have hat := made_at (s := r.name) (kind := r.kind) b1 b2 i1 i2 hne
    have hlen : (made t r.dir r.name r.kind r.ino).length = t.length := by unfold made; rw [setNd_length, setNd_length]
    simp only [] at hr
    unfold holdR at hr
    split at hr
    · injection hr with hr _; exact absurd hr (by assumption)
    · injection hr with _ hr
      subst hr
      refine ⟨i1, by rw [setNd_length, hlen]; exact i2, ?_, ?_⟩
      · rw [ndAt_set_self _ i1 (by rw [hlen]; exact i2), hat]; exact hk
      · rw [ndAt_set_self _ i1 (by rw [hlen]; exact i2), hat]; simp [noNd]
  · rw [if_neg hc] at hr
    exact absurd ⟨by rw [hr], hk⟩ hc
end Go.Proofs.Ytnnidgjfjgkdpaa
