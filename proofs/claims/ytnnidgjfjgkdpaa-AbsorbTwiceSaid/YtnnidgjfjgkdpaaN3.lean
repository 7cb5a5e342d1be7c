/- Records as the document has them: an entry is taken away, or renamed, by a record. -/
import Derived.Test.YtnnidgjfjgkdpaaN1
namespace Go.Proofs.Ytnnidgjfjgkdpaa
open Go.RowKit

/-- More of a record's numbers fit. -/
structure R.Fit (r : R) : Prop where
  dir2 : 0 ≤ r.dir2
  size : 0 ≤ r.size ∧ r.size ≤ 4294967295
/-- Entries are of inodes that are there. -/
def GoodK (t : Tr) : Prop := ∀ x ∈ t, ∀ e ∈ x.l, (ndAt t e.ino).kind ≠ 0
/-- A tree that is well. -/
structure Fine (t : Tr) : Prop where
  small : Small t
  good : GoodE t
  there : GoodK t
  acc : ∀ x, Acc (Child t) x
  data : ∀ x ∈ t, x.data.size ≤ 100000
  held : ∀ x ∈ t, 0 ≤ x.held ∧ x.held ≤ 100000
theorem Fine.look {t : Tr} (h : Fine t) {dir : Int} {s : ByteArray} {ino : Int} (hl : lookR t dir s = (ino, 0)) : thereB t ino = true := by
  obtain ⟨i1, i2⟩ := look_good h.good hl
  obtain ⟨hd, k, e, _, he, rfl⟩ := look_ok hl
  obtain ⟨_, ht, _⟩ := dirE_zero hd
  obtain ⟨b1, b2, _⟩ := thereB_bounds ht
  have := h.there _ (ndAt_mem b1 b2) _ (List.mem_of_getElem? he)
  unfold thereB
  simp [i1, i2, this]

def unlinkP (t : Tr) (r : R) : Int × Tr :=
  if (lookR t r.dir r.name).2 ≠ 0 then ((lookR t r.dir r.name).2, t) else if ((lookR t r.dir r.name).1 != r.ino) = true then (2, t)
  else if (r.kind == 2) = true then ((rmdirR t r.dir r.name).2.1, (rmdirR t r.dir r.name).2.2) else ((unlinkR t r.dir r.name).2.1, (unlinkR t r.dir r.name).2.2)
noncomputable def renameP (t : Tr) (r : R) : Int × Tr :=
  if (lookR t r.dir r.name).2 ≠ 0 then ((lookR t r.dir r.name).2, t) else if ((lookR t r.dir r.name).1 != r.ino) = true then (2, t)
  else if ((ndAt t (lookR t r.dir r.name).1).kind != r.kind) = true then (2, t) else if ((lookR t r.dir2 r.name2).1 != r.old) = true then (2, t)
  else renameR t r.dir r.name r.dir2 r.name2
set_option maxRecDepth 100000 in
set_option maxHeartbeats 4000000 in
theorem t_unlinkP (P G : Nat) (t : Tr) (r : R) (w : World) (h : TreeAt w P G t) (hf : Fine t) (hok : r.Ok) (e0 : Int) (t' : Tr) (hr : unlinkP t r = (e0, t')) :
    Calls Try.prog 28 #[.pointer (some ⟨P, 0, none⟩), r.val] w fun e w' => e = .returned (.int .i64 e0) ∧ TreeAt w' P G t' ∧ w.grownBy w' (some G) := by
  unfold unlinkP at hr
  unfold R.val
  obtain ⟨st, act, dir, name, ino, kind, dir2, name2, old, size, page, data⟩ := r
  have hs : name.size ≤ maxLen := by have := hok.name; simp only [] at this; unfold maxLen; omega
  have hs2 : name2.size ≤ maxLen := by have := hok.name2; simp only [] at this; unfold maxLen; omega
  have h0 : 0 ≤ dir := hok.dir.1
  have i0 : 0 ≤ ino := hok.ino.1
  simp only [] at hr
  obtain ⟨v, e, hl⟩ : ∃ v e, lookR t dir name = (v, e) := ⟨_, _, rfl⟩
  rw [hl] at hr
  simp only [] at hr
  have HL := Lib.hid hl
  simp only []
  by_cases he : e ≠ 0
  · rw [if_pos he] at hr
    have hne : (e != 0) = true := by simpa using he
    clear he hl
    injection hr with e1 e2
    subst e1
    subst e2
    go_enter Try.func28, Try.ntmps28
    go_wp2_with (first | (go_at_call 45; (with_reducible refine (t_look P G t dir name _ _ HL.out _ (h.alloc _) h0 hs).mono ?_); rintro e w' ⟨rfl, rfl⟩))
    go_ret
    exact ⟨ret_i64 rfl, h.alloc _, grown_of_below ((Below.refl _ _).alloc (Nat.le_refl _) _)⟩
  · rw [if_neg he] at hr
    obtain rfl : e = 0 := by omega
    clear he hl
    cases hv : (v != ino) with
    | true =>
      rw [if_pos hv] at hr
      injection hr with e1 e2
      subst e1
      subst e2
      go_enter Try.func28, Try.ntmps28
      go_wp2_with (first | (go_at_call 45; (with_reducible refine (t_look P G t dir name _ _ HL.out _ (h.alloc _) h0 hs).mono ?_); rintro e w' ⟨rfl, rfl⟩))
      go_ret
      exact ⟨ret_i64 rfl, h.alloc _, grown_of_below ((Below.refl _ _).alloc (Nat.le_refl _) _)⟩
    | false =>
      rw [if_neg (by rw [hv]; simp)] at hr
      cases hk : (kind == 2) with
      | true =>
        rw [if_pos hk] at hr
        obtain ⟨ru, eu, tu, hru⟩ : ∃ ru eu tu, rmdirR t dir name = (ru, eu, tu) := ⟨_, _, _, rfl⟩
        rw [hru] at hr
        have HR := Lib.hid hru
        clear hru
        injection hr with e1 e2
        subst e1
        subst e2
        go_enter Try.func28, Try.ntmps28
        go_wp2_with (first | (go_at_call 45; (with_reducible refine (t_look P G t dir name _ _ HL.out _ (h.alloc _) h0 hs).mono ?_); rintro e w' ⟨rfl, rfl⟩) | (go_at_call 46; refine (t_rmdir P G t dir name _ (h.alloc _) h0 hs hf.small hf.good _ _ _ HR.out).mono ?_; rintro e w3 ⟨rfl, ht3, hg3⟩; have HT3 := Lib.hid ht3; have HG3 := Lib.hid hg3; clear ht3 hg3))
        go_ret
        exact ⟨ret_i64 rfl, HT3.out, grown_trans (grown_of_below ((Below.refl _ _).alloc (Nat.le_refl _) _)) HG3.out⟩
      | false =>
        rw [if_neg (by rw [hk]; simp)] at hr
        obtain ⟨ru, eu, tu, hru⟩ : ∃ ru eu tu, unlinkR t dir name = (ru, eu, tu) := ⟨_, _, _, rfl⟩
        rw [hru] at hr
        have HR := Lib.hid hru
        clear hru
        injection hr with e1 e2
        subst e1
        subst e2
        go_enter Try.func28, Try.ntmps28
        go_wp2_with (first | (go_at_call 45; (with_reducible refine (t_look P G t dir name _ _ HL.out _ (h.alloc _) h0 hs).mono ?_); rintro e w' ⟨rfl, rfl⟩) | (go_at_call 47; refine (t_unlink P G t dir name _ (h.alloc _) h0 hs hf.small hf.good _ _ _ HR.out).mono ?_; rintro e w3 ⟨rfl, ht3, hg3⟩; have HT3 := Lib.hid ht3; have HG3 := Lib.hid hg3; clear ht3 hg3))
        go_ret
        exact ⟨ret_i64 rfl, HT3.out, grown_trans (grown_of_below ((Below.refl _ _).alloc (Nat.le_refl _) _)) HG3.out⟩
end Go.Proofs.Ytnnidgjfjgkdpaa
