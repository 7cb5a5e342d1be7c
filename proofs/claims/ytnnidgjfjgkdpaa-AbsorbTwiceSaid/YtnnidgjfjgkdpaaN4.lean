/- Records as the document has them: an entry is renamed by a record. -/
import Derived.Test.YtnnidgjfjgkdpaaN3
namespace Go.Proofs.Ytnnidgjfjgkdpaa
open Go.RowKit

theorem bcell0 {W w1 : World} (hb : Below W.heap.size W w1) : (∀ b o, b < W.heap.size → w1.cell? ⟨b, o, none⟩ = W.cell? ⟨b, o, none⟩) ∧ (∀ b o, b < W.heap.size → w1.frozen? ⟨b, o, none⟩ = W.frozen? ⟨b, o, none⟩) :=
  ⟨fun b o h => hb.cell (p := ⟨b, o, none⟩) h, fun b o h => hb.frozen (p := ⟨b, o, none⟩) h⟩
theorem grown_cellat {W w1 : World} {G b : Nat} (hg : W.grownBy w1 (some G)) (hb : b < W.heap.size) (hne : b ≠ G) (o : Nat) : w1.cell? ⟨b, o, none⟩ = W.cell? ⟨b, o, none⟩ :=
  World.cell?_of_block (a := ⟨b, o, none⟩) (hg.block b hb (fun e => hne (by injection e)))
set_option maxRecDepth 100000 in
set_option maxHeartbeats 8000000 in
theorem t_renameP (P G : Nat) (t : Tr) (r : R) (w : World) (h : TreeAt w P G t) (hf : Fine t) (hok : r.Ok) (hfit : r.Fit) (e0 : Int) (t' : Tr) (hr : renameP t r = (e0, t')) :
    Calls Try.prog 29 #[.pointer (some ⟨P, 0, none⟩), r.val] w fun e w' => e = .returned (.int .i64 e0) ∧ TreeAt w' P G t' ∧ w.grownBy w' (some G) := by
  unfold renameP at hr
  unfold R.val
  obtain ⟨st, act, dir, name, ino, kind, dir2, name2, old, size, page, data⟩ := r
  have hs : name.size ≤ maxLen := by have := hok.name; simp only [] at this; unfold maxLen; omega
  have hs2 : name2.size ≤ maxLen := by have := hok.name2; simp only [] at this; unfold maxLen; omega
  have h0 : 0 ≤ dir := hok.dir.1
  have i0 : 0 ≤ ino := hok.ino.1
  have d0 : 0 ≤ dir2 := hfit.dir2
  simp only [] at hr
  obtain ⟨v, e, hl⟩ : ∃ v e, lookR t dir name = (v, e) := ⟨_, _, rfl⟩
  rw [hl] at hr
  simp only [] at hr
  have HL := Lib.hid hl
  simp only []
  by_cases he : e ≠ 0
  · rw [if_pos he] at hr
    have hne : (e != 0) = true := by simpa using he
    clear he hl
    injection hr with e1 e2
    subst e1
    subst e2
    go_enter Try.func29, Try.ntmps29
    go_wp2_with (first | (go_at_call 45; (with_reducible refine (t_look P G t dir name _ _ HL.out _ (h.alloc _) h0 hs).mono ?_); rintro e w' ⟨rfl, rfl⟩))
    go_ret
    exact ⟨ret_i64 rfl, h.alloc _, grown_of_below ((Below.refl _ _).alloc (Nat.le_refl _) _)⟩
  · rw [if_neg he] at hr
    obtain rfl : e = 0 := by omega
    have hth := hf.look hl
    obtain ⟨v1, v2, _⟩ := thereB_bounds hth
    have hds : (ndAt t v).data.size ≤ 100000 := hf.data _ (ndAt_mem v1 v2)
    have HTH := Lib.hid hth
    obtain ⟨lv, hlv⟩ : ∃ lv, linksV t v = lv := ⟨_, rfl⟩
    have HLV := Lib.hid hlv
    obtain ⟨o2, f2, hl2⟩ : ∃ o2 f2, lookR t dir2 name2 = (o2, f2) := ⟨_, _, rfl⟩
    rw [hl2] at hr
    simp only [] at hr
    have HL2 := Lib.hid hl2
    clear he hl hth hlv hl2
    cases hv : (v != ino) with
    | true =>
      rw [if_pos hv] at hr
      injection hr with e1 e2
      subst e1
      subst e2
      go_enter Try.func29, Try.ntmps29
      go_wp2_with (first | (go_at_call 45; (with_reducible refine (t_look P G t dir name _ _ HL.out _ (h.alloc _) h0 hs).mono ?_); rintro e w' ⟨rfl, rfl⟩) | (go_at_call 32; refine (t_stat_ok P G t v lv _ (h.alloc _) HTH.out HLV.out hf.small hds).mono ?_; unfold statV; rintro e w1 ⟨rfl, hb1⟩; obtain ⟨hcb, hfb⟩ := bcell0 hb1; have HT1 := Lib.hid ((h.alloc _).below hb1); have HB1 := Lib.hid (((Below.refl _ w).alloc (Nat.le_refl _) _).trans (hb1.mono (by simp))); have hz : w.heap.size < w1.heap.size := (by have := hb1.size; simp at this; omega); clear hb1) | (go_at_call 45; refine (t_look P G t dir2 name2 _ _ HL2.out _ (HT1.out.alloc _) d0 hs2).mono ?_; rintro e w' ⟨rfl, rfl⟩))
      go_ret
      exact ⟨ret_i64 rfl, HT1.out.alloc _, grown_of_below (HB1.out.alloc HB1.out.size _)⟩
    | false =>
      rw [if_neg (by rw [hv]; simp)] at hr
      cases hk : ((ndAt t v).kind != kind) with
      | true =>
        rw [if_pos hk] at hr
        injection hr with e1 e2
        subst e1
        subst e2
        go_enter Try.func29, Try.ntmps29
        go_wp2_with (first | (go_at_call 45; (with_reducible refine (t_look P G t dir name _ _ HL.out _ (h.alloc _) h0 hs).mono ?_); rintro e w' ⟨rfl, rfl⟩) | (go_at_call 32; refine (t_stat_ok P G t v lv _ (h.alloc _) HTH.out HLV.out hf.small hds).mono ?_; unfold statV; rintro e w1 ⟨rfl, hb1⟩; obtain ⟨hcb, hfb⟩ := bcell0 hb1; have HT1 := Lib.hid ((h.alloc _).below hb1); have HB1 := Lib.hid (((Below.refl _ w).alloc (Nat.le_refl _) _).trans (hb1.mono (by simp))); have hz : w.heap.size < w1.heap.size := (by have := hb1.size; simp at this; omega); clear hb1) | (go_at_call 45; refine (t_look P G t dir2 name2 _ _ HL2.out _ (HT1.out.alloc _) d0 hs2).mono ?_; rintro e w' ⟨rfl, rfl⟩))
        go_ret
        exact ⟨ret_i64 rfl, HT1.out.alloc _, grown_of_below (HB1.out.alloc HB1.out.size _)⟩
      | false =>
        rw [if_neg (by rw [hk]; simp)] at hr
        cases ho : (o2 != old) with
        | true =>
          rw [if_pos ho] at hr
          injection hr with e1 e2
          subst e1
          subst e2
          go_enter Try.func29, Try.ntmps29
          go_wp2_with (first | (go_at_call 45; (with_reducible refine (t_look P G t dir name _ _ HL.out _ (h.alloc _) h0 hs).mono ?_); rintro e w' ⟨rfl, rfl⟩) | (go_at_call 32; refine (t_stat_ok P G t v lv _ (h.alloc _) HTH.out HLV.out hf.small hds).mono ?_; unfold statV; rintro e w1 ⟨rfl, hb1⟩; obtain ⟨hcb, hfb⟩ := bcell0 hb1; have HT1 := Lib.hid ((h.alloc _).below hb1); have HB1 := Lib.hid (((Below.refl _ w).alloc (Nat.le_refl _) _).trans (hb1.mono (by simp))); have hz : w.heap.size < w1.heap.size := (by have := hb1.size; simp at this; omega); clear hb1) | (go_at_call 45; refine (t_look P G t dir2 name2 _ _ HL2.out _ (HT1.out.alloc _) d0 hs2).mono ?_; rintro e w' ⟨rfl, rfl⟩))
          go_ret
          exact ⟨ret_i64 rfl, HT1.out.alloc _, grown_of_below (HB1.out.alloc HB1.out.size _)⟩
        | false =>
          rw [if_neg (by rw [ho]; simp)] at hr
          have HR := Lib.hid hr
          clear hr
          go_enter Try.func29, Try.ntmps29
          go_wp2_with (first | (go_at_call 45; (with_reducible refine (t_look P G t dir name _ _ HL.out _ (h.alloc _) h0 hs).mono ?_); rintro e w' ⟨rfl, rfl⟩) | (go_at_call 32; refine (t_stat_ok P G t v lv _ (h.alloc _) HTH.out HLV.out hf.small hds).mono ?_; unfold statV; rintro e w1 ⟨rfl, hb1⟩; obtain ⟨hcb, hfb⟩ := bcell0 hb1; have HT1 := Lib.hid ((h.alloc _).below hb1); have HB1 := Lib.hid (((Below.refl _ w).alloc (Nat.le_refl _) _).trans (hb1.mono (by simp))); have hz : w.heap.size < w1.heap.size := (by have := hb1.size; simp at this; omega); clear hb1) | (go_at_call 45; refine (t_look P G t dir2 name2 _ _ HL2.out _ (HT1.out.alloc _) d0 hs2).mono ?_; rintro e w' ⟨rfl, rfl⟩) | (go_at_call 48; refine (t_rename P G t dir name dir2 name2 _ (HT1.out.alloc _) h0 d0 hs hs2 hf.small hf.good hf.acc _ _ HR.out).mono ?_; rintro e w3 ⟨rfl, ht3, hg3⟩; have HT3 := Lib.hid ht3; have HG3 := Lib.hid hg3; clear ht3 hg3))
          go_ret
          exact ⟨ret_i64 rfl, HT3.out, grown_trans (grown_of_below (HB1.out.alloc HB1.out.size _)) HG3.out⟩
end Go.Proofs.Ytnnidgjfjgkdpaa
