/- The law's own Plays and freed. -/
import Derived.Test.YtnnidgjfjgkdpaaK
import Derived.Test.YtnnidgjfjgkdpaaN2
import Derived.Test.YtnnidgjfjgkdpaaP2
namespace Go.Proofs.Ytnnidgjfjgkdpaa
open Go.RowKit Go.Maps

/-- Can a row be played? -/
noncomputable def playsGo : Tr → List R → Bool
  | _, [] => true
  | t, r :: rs => if mayB r = false then false else if (playR t r).1 ≠ 0 then false else playsGo (playR t r).2 rs
theorem mayB_act {r : R} (h : mayB r = true) : 1 ≤ r.act ∧ r.act ≤ 7 := by
  unfold mayB at h
  simp only [Bool.and_eq_true, decide_eq_true_eq] at h
  exact ⟨h.1.1.1.1.1.1.1, h.1.1.1.1.1.1.2⟩

set_option maxRecDepth 100000 in
set_option maxHeartbeats 8000000 in
theorem plays_any (A : Option Addr) (n c B : Nat) (rs : List R) (w : World) (h : Recs w B A n rs) (hB : B ≤ w.heap.size) (hfit : ∀ r ∈ rs, r.Fit) (hn : n ≤ 1000) (b : Bool) (hb : playsGo (newT 30) rs = b) :
    Calls Try.prog 9 #[.int .i64 30, .slice A n c] w fun e W' => e = .returned (.bool b) ∧ Below w.heap.size w W' := by
  have HB := Lib.hid hb
  have hlen := h.len
  have HLen := Lib.hid hlen
  clear hb hlen
  have HN := fun W => t_new 30 (by omega) (by omega) W
  have HNew := Lib.hid HN
  clear HN
  go_enter Try.func9, Try.ntmps9
  go_wp2_with (first | (go_at_call 15; refine (HNew.out _).mono ?_; rintro e w1 ⟨P, G, rfl, ht1, hb1, hP, hG⟩; have HT1 := Lib.hid ht1; have HB1 := Lib.hid hb1; clear ht1 hb1))
  go_loopw [6] (fun i wr => ∃ (k : Nat) (tk : Tr), k ≤ n ∧ i = .int .i64 k ∧ TreeAt wr P G tk ∧ Well 30 (2 * k) tk ∧ Below w.heap.size w wr ∧ Hid (playsGo tk (rs.drop k) = b)) (fun i _ => n + 1 - (intOf i).toNat)
  case atStart => exact ⟨0, _, Nat.zero_le _, rfl, HT1.out, newT_well 30 (by omega), HB1.out, by simpa using HB⟩
  case round =>
    obtain ⟨k, tk, hk, rfl, htk, hwk, hbk, hpk⟩ := hrel
    have HTk := Lib.hid htk
    have HWk := Lib.hid hwk
    have HBk := Lib.hid hbk
    have hzk := hbk.size
    by_cases hkn : k = n
    · have hlt : ¬ (k : Int) < n := by omega
      have HF : Hid (true = b) := by
        have := hpk.out
        rw [List.drop_eq_nil_of_le (by rw [HLen.out]; omega)] at this
        exact this
      clear htk hwk hbk hkn
      go_wp2_with fail
      go_ret
      exact ⟨ret_bool HF.out, HBk.out⟩
    · have hk1 : k < n := by omega
      have hlt : (k : Int) < n := by omega
      obtain ⟨bb, o, r, rfl, hbb, hr, hat, hok⟩ := (h.below hbk hB (Nat.le_refl B)).get hk1
      have hrm := hfit r (List.mem_of_getElem? hr)
      have hdr : rs.drop k = r :: rs.drop (k + 1) := by
        obtain ⟨hkl, e⟩ := List.getElem?_eq_some_iff.1 hr
        rw [List.drop_eq_getElem_cons hkl, e]
      have hgo := hpk.out
      rw [hdr] at hgo
      have hbl : bb < wr.heap.size := by omega
      obtain ⟨c0, c1, c2, c3, c4, c5, c6, c7, c8, c9, c10, c11⟩ := hat
      have HOk := Lib.hid hok
      have HFit := Lib.hid hrm
      cases hm : mayB r with
      | false =>
        have HF : Hid (false = b) := by
          unfold playsGo at hgo
          rw [if_pos hm] at hgo
          exact hgo
        have HM := Lib.hid (t_may r wr hok)
        rw [hm] at HM
        clear htk hwk hbk hkn hok hrm hdr hgo hm hr
        go_wp2_with (first | (go_at_call 16; refine HM.out.mono ?_; rintro e w2 ⟨rfl, hb2⟩; have HB2 := Lib.hid (HBk.out.trans (hb2.mono HBk.out.size)); clear hb2))
        go_ret
        exact ⟨ret_bool HF.out, HB2.out⟩
      | true =>
        obtain ⟨e0, t', hpl⟩ : ∃ e0 t', playR tk r = (e0, t') := ⟨_, _, rfl⟩
        have HM := Lib.hid (t_may r wr hok)
        rw [hm] at HM
        have HAct := Lib.hid (mayB_act hm)
        have HW' := Lib.hid (hwk.play hpl)
        unfold playsGo at hgo
        rw [if_neg (by rw [hm]; simp), hpl] at hgo
        have HPl := Lib.hid hpl
        have HFine := Lib.hid (hwk.fine (by omega))
        cases he : (e0 != 0) with
        | true =>
          have HF : Hid (false = b) := by
            rw [if_pos (by simpa using he)] at hgo
            exact hgo
          clear htk hwk hbk hkn hok hrm hdr hgo hm hr hpl
          go_wp2_with (first | (go_at_call 16; refine HM.out.mono ?_; rintro e w2 ⟨rfl, hb2⟩; obtain ⟨hcb, hfb⟩ := bcell0 hb2; have HT2 := Lib.hid (HTk.out.below hb2); have HB2 := Lib.hid (HBk.out.trans (hb2.mono HBk.out.size)); clear hb2) | (go_at_call 17; refine (t_play P G tk r _ HT2.out HFine.out HOk.out HFit.out HAct.out _ _ HPl.out).mono ?_; rintro e w3 ⟨rfl, ht3, hg3⟩; have HB3 := Lib.hid (HB2.out.grown hg3 HB2.out.size (fun q hq => by injection hq with hq; omega)); clear ht3 hg3))
          go_ret
          exact ⟨ret_bool HF.out, HB3.out⟩
        | false =>
          have HF : Hid (playsGo t' (rs.drop (k + 1)) = b) := by
            rw [if_neg (by simpa using he)] at hgo
            exact hgo
          clear htk hwk hbk hkn hok hrm hdr hgo hm hr hpl
          go_wp2_with (first | (go_at_call 16; refine HM.out.mono ?_; rintro e w2 ⟨rfl, hb2⟩; obtain ⟨hcb, hfb⟩ := bcell0 hb2; have HT2 := Lib.hid (HTk.out.below hb2); have HB2 := Lib.hid (HBk.out.trans (hb2.mono HBk.out.size)); clear hb2) | (go_at_call 17; refine (t_play P G tk r _ HT2.out HFine.out HOk.out HFit.out HAct.out _ _ HPl.out).mono ?_; rintro e w3 ⟨rfl, ht3, hg3⟩; have HT3 := Lib.hid ht3; have HB3 := Lib.hid (HB2.out.grown hg3 HB2.out.size (fun q hq => by injection hq with hq; omega)); clear ht3 hg3))
          go_roundw
          case rel => exact ⟨k + 1, t', by omega, by go_num, HT3.out, HW'.out.mono (by omega), HB3.out, HF⟩
          case measure => simp [intOf]; omega
end Go.Proofs.Ytnnidgjfjgkdpaa
