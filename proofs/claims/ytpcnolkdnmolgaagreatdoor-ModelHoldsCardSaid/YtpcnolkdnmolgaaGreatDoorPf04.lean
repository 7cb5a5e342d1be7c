/- Sorting a row of uint32: partition. -/
import Derived.Test.YtpcnolkdnmolgaaGreatDoorPf03
import Derived.Deep.DeepCutAuto
import Derived.Deep.CutBlock
namespace Go.Proofs.YtpcnolkdnmolgaaGreatDoor
section
open Go.RowKit Go.Sort
section
variable {α : Type} [Inhabited α]
theorem k_up_go (p : α → Bool) (d : Array α) (j i : Nat) (h1 : i ≤ j) (h2 : p d[i]! = true) : scanUp p d j i = scanUp p d j (i + 1) := by
 conv => lhs; rw [scanUp]
 rw [if_pos (by simp [h1, h2])]
theorem k_up_end (p : α → Bool) (d : Array α) (j i : Nat) (h : ¬ i ≤ j ∨ p d[i]! = false) : scanUp p d j i = i := by
 rw [scanUp, if_neg]
 rcases h with h | h <;> simp [h]
theorem k_down_go (p : α → Bool) (d : Array α) (i j : Nat) (h1 : i ≤ j + 1) (h2 : p d[j + 1]! = true) : scanDown p d i (j + 1) = scanDown p d i j := by
 rw [scanDown, if_pos (by simp [h1, h2])]
theorem k_down_end (p : α → Bool) (d : Array α) (i j : Nat) (h : ¬ i ≤ j ∨ p d[j]! = false) : scanDown p d i j = j := by
 cases j with
 | zero => rw [scanDown]
 | succ j =>
  rw [scanDown, if_neg]
  rcases h with h | h <;> simp [h]
end
def Parted (w : World) (blk off m : Nat) (d : Array Int) (e : Ending) (w' : World) : Prop := ∃ c, e = .returned (.tuple #[.int .i64 (m : Int), .bool c]) ∧ RowU w w' blk off d
set_option maxRecDepth 100000 in
set_option maxHeartbeats 16000000 in
theorem u_part (blk off n cap a b q m : Nat) (d d' : Array Int) (w : World) (hH : Holds (Value.int .u32) w blk off d) (hn : d.size = n) (haq : a ≤ q) (hqb : q < b) (hb : b ≤ n) (hsz : n ≤ 60000) (hm : (partition ltInt d a b q).1 = m) (hd : (partition ltInt d a b q).2.2 = d') :
  Calls Tryz.prog 217 #[.slice (some ⟨blk, off, none⟩) n cap, .int .i64 a, .int .i64 b, .int .i64 q] w (Parted w blk off m d') := by
 have HR := zz (RowU.start hH)
 have HS : Hid (d.size = n) := hn
 rw [partition_fst] at hm
 rw [partition_arr, hm] at hd
 obtain ⟨j0, hj0⟩ : ∃ j0, b - 1 = j0 := ⟨_, rfl⟩
 rw [hj0] at hm hd
 obtain ⟨dL, hdL⟩ : ∃ dL, partLoop ltInt a (a + 1) j0 (swp d a q) = (m, dL) := ⟨_, Prod.ext hm rfl⟩
 have HD : Hid (swp dL m a = d') := by show _ = _; rw [← hd, hdL]
 have HG : Hid (partLoop ltInt a (a + 1) j0 (swp d a q) = (m, dL)) := hdL
 clear hH hn hm hd hdL
 obtain ⟨dk, hdk⟩ : ∃ dk, d = dk := ⟨_, rfl⟩
 subst hdk
 go_enter Tryz.func217, Tryz.ntmps217
 have hcw : ∀ t, t < n → w.cell? ⟨blk, off + t, none⟩ = some (.int .u32 (gA d t)) := fun t ht => HR.out.cell HS.out ht
 have hfw : ∀ t, t < n → w.frozen? ⟨blk, off + t, none⟩ = false := fun t ht => HR.out.frozen HS.out ht
 have hxI : (a : Int) < (n : Int) := by omega
 have hyI : (q : Int) < (n : Int) := by omega
 obtain ⟨v', hv'⟩ := cell?_setCell_some (w := w) (p := ⟨blk, off + a, none⟩) (x := .int .u32 (gA d q)) (q := ⟨blk, off + q, none⟩) (v := .int .u32 (gA d q)) (hcw q (by omega))
 go_upto_region 1 with fail
 go_cut [] (fun wx => Hid (RowU w wx blk off (swp d a q)))
 case first =>
  go_region
  all_goals go_wp2_with fail
  go_meet
  have hh := HR.out.swap 1 a q (by rw [HS.out]; omega) (by rw [HS.out]; omega)
  exact hh
 case rest =>
 have HS1 : Hid ((swp d a q).size = n) := (size_swp _ _ _).trans HS.out
 clear HR HS
 generalize swp d a q = dk at *
 have HR := hcut
 have HS := HS1
 clear hcut HS1
 clear hcw hfw hxI hyI hv'
 obtain ⟨i, hi⟩ : ∃ i, a + 1 = i := ⟨_, rfl⟩
 obtain ⟨j, hj⟩ : ∃ j, j0 = j := ⟨_, rfl⟩
 rw [hi, hj] at HG
 have hai : a < i := by omega
 have hij : i ≤ j + 1 := by omega
 have hjn : j < n := by omega
 have hjb : j < b := by omega
 have HI : Hid ((a : Int) + 1 = (i : Int)) := by show _ = _; omega
 have HJ : Hid ((b : Int) - 1 = (j : Int)) := by show _ = _; omega
 clear hi hj hj0
 go_upto_region 2 with fail
 go_cut [10, 11] (fun vi vj wx => vi = .int .i64 (i : Int) ∧ vj = .int .i64 (j : Int) ∧ Hid (RowU w wx blk off dk))
 case first =>
  go_wp2_with fail
  go_meet
  exact ⟨by rw [HI.out], by rw [HJ.out], HR⟩
 case rest =>
 obtain ⟨rfl, rfl, HR⟩ := hcut
 clear HI HJ
 obtain ⟨i2, hi2⟩ : ∃ i2, scanUp (fun x => ltInt x dk[a]!) dk j i = i2 := ⟨_, rfl⟩
 obtain ⟨j2, hj2⟩ : ∃ j2, scanDown (fun x => !ltInt x dk[a]!) dk i2 j = j2 := ⟨_, rfl⟩
 obtain ⟨f1, f2, f3, f4, _, _, f5⟩ := round_facts (fun x => ltInt x dk[a]!) (fun x => !ltInt x dk[a]!) (fun x => by cases h : ltInt x dk[a]! <;> simp) dk (i - 1) (j + 1) i j (by omega) hij (fun t h1 h2 => by omega) (fun t h1 h2 => by omega)
 rw [hi2, hj2] at f3 f4 f5
 rw [hi2] at f1 f2
 have f5 : ¬ i2 > j2 → i2 < j2 := fun h => (f5 h).2.2
 have HT1 := zz hi2
 have HT2 := zz hj2
 clear hi2 hj2
 go_upto_block 0 with fail
 go_cut [10] (fun v wx => v = .int .i64 (i2 : Int) ∧ Hid (RowU w wx blk off dk))
 case first =>
  go_wp2_with fail
  go_loopw [10] (fun v wx => ∃ t : Nat, v = .int .i64 (t : Int) ∧ i ≤ t ∧ t ≤ j + 1 ∧ Hid (RowU w wx blk off dk) ∧ Hid (scanUp (fun x => ltInt x dk[a]!) dk j t = i2)) (fun v _ => j + 1 - (intOf v).toNat)
  case atStart => exact ⟨i, by first | rfl | (congr 1; omega), Nat.le_refl _, hij, HR, HT1⟩
  case round =>
   obtain ⟨t, rfl, h1, h2, HR, HT⟩ := hrel
   have hcw : ∀ t, t < n → wr.cell? ⟨blk, off + t, none⟩ = some (.int .u32 (gA dk t)) := fun t ht => HR.out.cell HS.out ht
   have hfw : ∀ t, t < n → wr.frozen? ⟨blk, off + t, none⟩ = false := fun t ht => HR.out.frozen HS.out ht
   by_cases hle : t ≤ j
   · have hleI : (t : Int) ≤ (j : Int) := by omega
     have htn : (t : Int) < (n : Int) := by omega
     have han : (a : Int) < (n : Int) := by omega
     obtain ⟨b1, hb1⟩ : ∃ b1, ltInt (gA dk t) (gA dk a) = b1 := ⟨_, rfl⟩
     have H1 := zz hb1
     clear hb1
     cases b1 with
     | true =>
      go_wp2_with fail
      go_quiet ((go_at_call 215; exact quiet_eq (u_lessB _ _ _ H1.out _)))
      go_wp2_with fail
      go_roundw
      case rel => exact ⟨t + 1, by go_num, by omega, by omega, HR.out.drewN nq, (k_up_go (fun x => ltInt x dk[a]!) dk j t hle H1.out).symm.trans HT.out⟩
      case measure => simp [intOf] <;> omega
     | false =>
      go_wp2_with fail
      go_quiet ((go_at_call 215; exact quiet_eq (u_lessB _ _ _ H1.out _)))
      go_wp2_with fail
      go_meet
      exact ⟨by rw [← (k_up_end (fun x => ltInt x dk[a]!) dk j t (.inr H1.out)).symm.trans HT.out], HR.out.drewN nq⟩
   · have hleI : (j : Int) < (t : Int) := by omega
     have hleD : decide ((t : Int) ≤ (j : Int)) = false := by simp; omega
     go_wp2_with fail
     go_quiet ((go_at_call 215; exact quiet_eq (u_less _ _ _)))
     go_wp2_with fail
     go_meet
     exact ⟨by rw [← (k_up_end (fun x => ltInt x dk[a]!) dk j t (.inl hle)).symm.trans HT.out], HR.out.drewN nq⟩
 case rest =>
  obtain ⟨rfl, HR⟩ := hcut
  go_upto_block 2 with fail
  go_cut [11] (fun v wx => v = .int .i64 (j2 : Int) ∧ Hid (RowU w wx blk off dk))
  case first =>
   go_wp2_with fail
   go_loopw [11] (fun v wx => ∃ t : Nat, v = .int .i64 (t : Int) ∧ t ≤ j ∧ i2 ≤ t + 1 ∧ Hid (RowU w wx blk off dk) ∧ Hid (scanDown (fun x => !ltInt x dk[a]!) dk i2 t = j2)) (fun v _ => (intOf v).toNat)
   case atStart => exact ⟨j, by first | rfl | (congr 1; omega), Nat.le_refl _, by omega, HR, HT2⟩
   case round =>
    obtain ⟨t, rfl, h1, h2, HR, HT⟩ := hrel
    have hcw : ∀ t, t < n → wr.cell? ⟨blk, off + t, none⟩ = some (.int .u32 (gA dk t)) := fun t ht => HR.out.cell HS.out ht
    have hfw : ∀ t, t < n → wr.frozen? ⟨blk, off + t, none⟩ = false := fun t ht => HR.out.frozen HS.out ht
    by_cases hle : i2 ≤ t
    · obtain ⟨t, rfl⟩ : ∃ t' : Nat, t = t' + 1 := ⟨t - 1, by omega⟩
      have hleI : (i2 : Int) ≤ (t : Int) + 1 := by omega
      have htn : (t : Int) + 1 < (n : Int) := by omega
      have han : (a : Int) < (n : Int) := by omega
      obtain ⟨b1, hb1⟩ : ∃ b1, ltInt (gA dk (t + 1)) (gA dk a) = b1 := ⟨_, rfl⟩
      have H1 := zz hb1
      clear hb1
      cases b1 with
      | true =>
       go_wp2_with fail
       go_quiet ((go_at_call 215; exact quiet_eq (u_lessB _ _ _ H1.out _)))
       go_wp2_with fail
       go_meet
       exact ⟨by rw [← (k_down_end (fun x => !ltInt x dk[a]!) dk i2 (t + 1) (.inr (by show (!_) = _; rw [show ltInt (dk[(t + 1)]!) (dk[a]!) = _ from H1.out]; rfl))).symm.trans HT.out], HR.out.drewN nq⟩
      | false =>
       go_wp2_with fail
       go_quiet ((go_at_call 215; exact quiet_eq (u_lessB _ _ _ H1.out _)))
       go_wp2_with fail
       go_roundw
       case rel => exact ⟨t, by first | rfl | (congr 1; omega), by omega, by omega, HR.out.drewN nq, (k_down_go (fun x => !ltInt x dk[a]!) dk i2 t hle (by show (!_) = _; rw [show ltInt (dk[(t + 1)]!) (dk[a]!) = _ from H1.out]; rfl)).symm.trans HT.out⟩
       case measure => simp [intOf] <;> omega
    · have hleI : (t : Int) < (i2 : Int) := by omega
      have hleD : decide ((i2 : Int) ≤ (t : Int)) = false := by simp; omega
      go_wp2_with fail
      go_quiet ((go_at_call 215; exact quiet_eq (u_less _ _ _)))
      go_wp2_with fail
      go_meet
      exact ⟨by rw [← (k_down_end (fun x => !ltInt x dk[a]!) dk i2 t (.inl hle)).symm.trans HT.out], HR.out.drewN nq⟩
  case rest =>
   obtain ⟨rfl, HR⟩ := hcut
   by_cases hgt : j2 < i2
   · have hgtI : (j2 : Int) < (i2 : Int) := by omega
     have HM : Hid (j2 = m ∧ dk = dL) := by
      have e := HG.out
      rw [partLoop_eq, HT1.out, HT2.out, if_pos hgt] at e
      injection e with e1 e2
      exact ⟨e1, e2⟩
     have hcw : ∀ t, t < n → wc.cell? ⟨blk, off + t, none⟩ = some (.int .u32 (gA dk t)) := fun t ht => HR.out.cell HS.out ht
     have hfw : ∀ t, t < n → wc.frozen? ⟨blk, off + t, none⟩ = false := fun t ht => HR.out.frozen HS.out ht
     have hxI : (j2 : Int) < (n : Int) := by omega
     have hyI : (a : Int) < (n : Int) := by omega
     obtain ⟨v', hv'⟩ := cell?_setCell_some (w := wc) (p := ⟨blk, off + j2, none⟩) (x := .int .u32 (gA dk a)) (q := ⟨blk, off + a, none⟩) (v := .int .u32 (gA dk a)) (hcw a (by omega))
     have hh := zz (HR.out.swap 1 j2 a (by rw [HS.out]; omega) (by rw [HS.out]; omega))
     go_wp2_with fail
     go_region
     all_goals go_wp2_with fail
     go_ret2
     obtain ⟨rfl, rfl⟩ := HM.out
     exact ⟨_, rfl, by rw [← HD.out]; exact hh.out⟩
   · have hgtI : (i2 : Int) ≤ (j2 : Int) := by omega
     have hlt := f5 hgt
     have HG2 : Hid (partLoop ltInt a (i2 + 1) (j2 - 1) (swp dk i2 j2) = (m, dL)) := by
      have e := HG.out
      rw [partLoop_eq, HT1.out, HT2.out, if_neg hgt] at e
      exact e
     have hcw : ∀ t, t < n → wc.cell? ⟨blk, off + t, none⟩ = some (.int .u32 (gA dk t)) := fun t ht => HR.out.cell HS.out ht
     have hfw : ∀ t, t < n → wc.frozen? ⟨blk, off + t, none⟩ = false := fun t ht => HR.out.frozen HS.out ht
     have hxI : (i2 : Int) < (n : Int) := by omega
     have hyI : (j2 : Int) < (n : Int) := by omega
     obtain ⟨v', hv'⟩ := cell?_setCell_some (w := wc) (p := ⟨blk, off + i2, none⟩) (x := .int .u32 (gA dk j2)) (q := ⟨blk, off + j2, none⟩) (v := .int .u32 (gA dk j2)) (hcw j2 (by omega))
     go_upto_region 10 with fail
     go_cut [] (fun wx => Hid (RowU w wx blk off (swp dk i2 j2)))
     case first =>
      go_region
      all_goals go_wp2_with fail
      go_meet
      have hh := HR.out.swap 1 i2 j2 (by rw [HS.out]; omega) (by rw [HS.out]; omega)
      exact hh
     case rest =>
     have HS1 : Hid ((swp dk i2 j2).size = n) := (size_swp _ _ _).trans HS.out
     clear HR HS HT1 HT2 HG f5
     clear hcw hfw hv'
     generalize swp dk i2 j2 = dk2 at *
     have HR := hcut
     have HS := HS1
     clear hcut HS1
     obtain ⟨j3, rfl⟩ : ∃ j3, j2 = j3 + 1 := ⟨j2 - 1, by omega⟩
     have hz3 : ((j3 + 1 : Nat) : Int) - 1 = (j3 : Int) := by omega
     rw [Nat.add_sub_cancel] at HG2
     have hi3 : a < i2 + 1 := by omega
     have hij3 : i2 + 1 ≤ j3 + 1 := by omega
     have hjb3 : j3 < b := by omega
     clear hxI hyI hlt hgt hgtI hai hij hjn hjb
     go_upto_block 4 with fail
     clear hz3
     go_wp2_with fail
     go_loopw [10, 11] (fun vi vj wx => ∃ (i j : Nat) (dk : Array Int), vi = .int .i64 (i : Int) ∧ vj = .int .i64 (j : Int) ∧ a < i ∧ i ≤ j + 1 ∧ j < b ∧ Hid (dk.size = n) ∧ Hid (RowU w wx blk off dk) ∧ Hid (partLoop ltInt a i j dk = (m, dL))) (fun vi vj _ => (intOf vj + 1 - intOf vi).toNat)
     case atStart => exact ⟨i2 + 1, j3, dk2, by first | rfl | (congr 1; omega), by first | rfl | (congr 1; omega), hi3, hij3, hjb3, HS, HR, HG2⟩
     case round =>
      clear hi3 hij3 hjb3 HG2 HS HR
      obtain ⟨i, j, dk, rfl, rfl, hai, hij, hjb, HS, HR, HG⟩ := hrel
      have hjn : j < n := by omega
      obtain ⟨i2, hi2⟩ : ∃ i2, scanUp (fun x => ltInt x dk[a]!) dk j i = i2 := ⟨_, rfl⟩
      obtain ⟨j2, hj2⟩ : ∃ j2, scanDown (fun x => !ltInt x dk[a]!) dk i2 j = j2 := ⟨_, rfl⟩
      obtain ⟨f1, f2, f3, f4, _, _, f5⟩ := round_facts (fun x => ltInt x dk[a]!) (fun x => !ltInt x dk[a]!) (fun x => by cases h : ltInt x dk[a]! <;> simp) dk (i - 1) (j + 1) i j (by omega) hij (fun t h1 h2 => by omega) (fun t h1 h2 => by omega)
      rw [hi2, hj2] at f3 f4 f5
      rw [hi2] at f1 f2
      have f5 : ¬ i2 > j2 → i2 < j2 := fun h => (f5 h).2.2
      have HT1 := zz hi2
      have HT2 := zz hj2
      clear hi2 hj2
      go_upto_block 6 with fail
      go_cut [10] (fun v wx => v = .int .i64 (i2 : Int) ∧ Hid (RowU w wx blk off dk))
      case first =>
       go_wp2_with fail
       go_loopw [10] (fun v wx => ∃ t : Nat, v = .int .i64 (t : Int) ∧ i ≤ t ∧ t ≤ j + 1 ∧ Hid (RowU w wx blk off dk) ∧ Hid (scanUp (fun x => ltInt x dk[a]!) dk j t = i2)) (fun v _ => j + 1 - (intOf v).toNat)
       case atStart => exact ⟨i, by first | rfl | (congr 1; omega), Nat.le_refl _, hij, HR, HT1⟩
       case round =>
        obtain ⟨t, rfl, h1, h2, HR, HT⟩ := hrel
        have hcw : ∀ t, t < n → wr.cell? ⟨blk, off + t, none⟩ = some (.int .u32 (gA dk t)) := fun t ht => HR.out.cell HS.out ht
        have hfw : ∀ t, t < n → wr.frozen? ⟨blk, off + t, none⟩ = false := fun t ht => HR.out.frozen HS.out ht
        by_cases hle : t ≤ j
        · have hleI : (t : Int) ≤ (j : Int) := by omega
          have htn : (t : Int) < (n : Int) := by omega
          have han : (a : Int) < (n : Int) := by omega
          obtain ⟨b1, hb1⟩ : ∃ b1, ltInt (gA dk t) (gA dk a) = b1 := ⟨_, rfl⟩
          have H1 := zz hb1
          clear hb1
          cases b1 with
          | true =>
           go_wp2_with fail
           go_quiet ((go_at_call 215; exact quiet_eq (u_lessB _ _ _ H1.out _)))
           go_wp2_with fail
           go_roundw
           case rel => exact ⟨t + 1, by go_num, by omega, by omega, HR.out.drewN nq, (k_up_go (fun x => ltInt x dk[a]!) dk j t hle H1.out).symm.trans HT.out⟩
           case measure => simp [intOf] <;> omega
          | false =>
           go_wp2_with fail
           go_quiet ((go_at_call 215; exact quiet_eq (u_lessB _ _ _ H1.out _)))
           go_wp2_with fail
           go_meet
           exact ⟨by rw [← (k_up_end (fun x => ltInt x dk[a]!) dk j t (.inr H1.out)).symm.trans HT.out], HR.out.drewN nq⟩
        · have hleI : (j : Int) < (t : Int) := by omega
          have hleD : decide ((t : Int) ≤ (j : Int)) = false := by simp; omega
          go_wp2_with fail
          go_quiet ((go_at_call 215; exact quiet_eq (u_less _ _ _)))
          go_wp2_with fail
          go_meet
          exact ⟨by rw [← (k_up_end (fun x => ltInt x dk[a]!) dk j t (.inl hle)).symm.trans HT.out], HR.out.drewN nq⟩
      case rest =>
       obtain ⟨rfl, HR⟩ := hcut
       go_upto_block 8 with fail
       go_cut [11] (fun v wx => v = .int .i64 (j2 : Int) ∧ Hid (RowU w wx blk off dk))
       case first =>
        go_wp2_with fail
        go_loopw [11] (fun v wx => ∃ t : Nat, v = .int .i64 (t : Int) ∧ t ≤ j ∧ i2 ≤ t + 1 ∧ Hid (RowU w wx blk off dk) ∧ Hid (scanDown (fun x => !ltInt x dk[a]!) dk i2 t = j2)) (fun v _ => (intOf v).toNat)
        case atStart => exact ⟨j, by first | rfl | (congr 1; omega), Nat.le_refl _, by omega, HR, HT2⟩
        case round =>
         obtain ⟨t, rfl, h1, h2, HR, HT⟩ := hrel
         have hcw : ∀ t, t < n → wr.cell? ⟨blk, off + t, none⟩ = some (.int .u32 (gA dk t)) := fun t ht => HR.out.cell HS.out ht
         have hfw : ∀ t, t < n → wr.frozen? ⟨blk, off + t, none⟩ = false := fun t ht => HR.out.frozen HS.out ht
         by_cases hle : i2 ≤ t
         · obtain ⟨t, rfl⟩ : ∃ t' : Nat, t = t' + 1 := ⟨t - 1, by omega⟩
           have hleI : (i2 : Int) ≤ (t : Int) + 1 := by omega
           have htn : (t : Int) + 1 < (n : Int) := by omega
           have han : (a : Int) < (n : Int) := by omega
           obtain ⟨b1, hb1⟩ : ∃ b1, ltInt (gA dk (t + 1)) (gA dk a) = b1 := ⟨_, rfl⟩
           have H1 := zz hb1
           clear hb1
           cases b1 with
           | true =>
            go_wp2_with fail
            go_quiet ((go_at_call 215; exact quiet_eq (u_lessB _ _ _ H1.out _)))
            go_wp2_with fail
            go_meet
            exact ⟨by rw [← (k_down_end (fun x => !ltInt x dk[a]!) dk i2 (t + 1) (.inr (by show (!_) = _; rw [show ltInt (dk[(t + 1)]!) (dk[a]!) = _ from H1.out]; rfl))).symm.trans HT.out], HR.out.drewN nq⟩
           | false =>
            go_wp2_with fail
            go_quiet ((go_at_call 215; exact quiet_eq (u_lessB _ _ _ H1.out _)))
            go_wp2_with fail
            go_roundw
            case rel => exact ⟨t, by first | rfl | (congr 1; omega), by omega, by omega, HR.out.drewN nq, (k_down_go (fun x => !ltInt x dk[a]!) dk i2 t hle (by show (!_) = _; rw [show ltInt (dk[(t + 1)]!) (dk[a]!) = _ from H1.out]; rfl)).symm.trans HT.out⟩
            case measure => simp [intOf] <;> omega
         · have hleI : (t : Int) < (i2 : Int) := by omega
           have hleD : decide ((i2 : Int) ≤ (t : Int)) = false := by simp; omega
           go_wp2_with fail
           go_quiet ((go_at_call 215; exact quiet_eq (u_less _ _ _)))
           go_wp2_with fail
           go_meet
           exact ⟨by rw [← (k_down_end (fun x => !ltInt x dk[a]!) dk i2 t (.inl hle)).symm.trans HT.out], HR.out.drewN nq⟩
       case rest =>
        obtain ⟨rfl, HR⟩ := hcut
        by_cases hgt : j2 < i2
        · have hgtI : (j2 : Int) < (i2 : Int) := by omega
          have HM : Hid (j2 = m ∧ dk = dL) := by
           have e := HG.out
           rw [partLoop_eq, HT1.out, HT2.out, if_pos hgt] at e
           injection e with e1 e2
           exact ⟨e1, e2⟩
          have hcw : ∀ t, t < n → wc.cell? ⟨blk, off + t, none⟩ = some (.int .u32 (gA dk t)) := fun t ht => HR.out.cell HS.out ht
          have hfw : ∀ t, t < n → wc.frozen? ⟨blk, off + t, none⟩ = false := fun t ht => HR.out.frozen HS.out ht
          have hxI : (j2 : Int) < (n : Int) := by omega
          have hyI : (a : Int) < (n : Int) := by omega
          obtain ⟨v', hv'⟩ := cell?_setCell_some (w := wc) (p := ⟨blk, off + j2, none⟩) (x := .int .u32 (gA dk a)) (q := ⟨blk, off + a, none⟩) (v := .int .u32 (gA dk a)) (hcw a (by omega))
          have hh := zz (HR.out.swap 1 j2 a (by rw [HS.out]; omega) (by rw [HS.out]; omega))
          go_wp2_with fail
          go_region
          all_goals go_wp2_with fail
          go_ret2
          obtain ⟨rfl, rfl⟩ := HM.out
          exact ⟨_, rfl, by rw [← HD.out]; exact hh.out⟩
        · have hgtI : (i2 : Int) ≤ (j2 : Int) := by omega
          have hlt := f5 hgt
          have HG2 : Hid (partLoop ltInt a (i2 + 1) (j2 - 1) (swp dk i2 j2) = (m, dL)) := by
           have e := HG.out
           rw [partLoop_eq, HT1.out, HT2.out, if_neg hgt] at e
           exact e
          have hcw : ∀ t, t < n → wc.cell? ⟨blk, off + t, none⟩ = some (.int .u32 (gA dk t)) := fun t ht => HR.out.cell HS.out ht
          have hfw : ∀ t, t < n → wc.frozen? ⟨blk, off + t, none⟩ = false := fun t ht => HR.out.frozen HS.out ht
          have hxI : (i2 : Int) < (n : Int) := by omega
          have hyI : (j2 : Int) < (n : Int) := by omega
          obtain ⟨v', hv'⟩ := cell?_setCell_some (w := wc) (p := ⟨blk, off + i2, none⟩) (x := .int .u32 (gA dk j2)) (q := ⟨blk, off + j2, none⟩) (v := .int .u32 (gA dk j2)) (hcw j2 (by omega))
          have hh := zz (HR.out.swap 1 i2 j2 (by rw [HS.out]; omega) (by rw [HS.out]; omega))
          go_wp2_with fail
          go_region
          all_goals go_wp2_with fail
          go_roundw
          case rel => exact ⟨i2 + 1, j2 - 1, swp dk i2 j2, by go_num, by congr 1; omega, by omega, by omega, by omega, (size_swp _ _ _).trans HS.out, hh.out, HG2⟩
          case measure => simp [intOf] <;> omega
end
section
open Go.RowKit Go.Sort
def PartEq (w : World) (blk off m : Nat) (d : Array Int) (e : Ending) (w' : World) : Prop := e = .returned (.int .i64 (m : Int)) ∧ RowU w w' blk off d
set_option maxRecDepth 100000 in
set_option maxHeartbeats 16000000 in
theorem u_peq (blk off n cap a b q m : Nat) (d d' : Array Int) (w : World) (hH : Holds (Value.int .u32) w blk off d) (hn : d.size = n) (haq : a ≤ q) (hqb : q < b) (hb : b ≤ n) (hsz : n ≤ 60000) (hr : partitionEqual ltInt d a b q = (m, d')) :
  Calls Tryz.prog 216 #[.slice (some ⟨blk, off, none⟩) n cap, .int .i64 a, .int .i64 b, .int .i64 q] w (PartEq w blk off m d') := by
 have HR := zz (RowU.start hH)
 have HS : Hid (d.size = n) := hn
 unfold partitionEqual at hr
 obtain ⟨j0, hj0⟩ : ∃ j0, b - 1 = j0 := ⟨_, rfl⟩
 rw [hj0] at hr
 have HG : Hid (partEqLoop ltInt a (a + 1) j0 (swp d a q) = (m, d')) := hr
 clear hH hn hr
 go_enter Tryz.func216, Tryz.ntmps216
 have hcw : ∀ t, t < n → w.cell? ⟨blk, off + t, none⟩ = some (.int .u32 (gA d t)) := fun t ht => HR.out.cell HS.out ht
 have hfw : ∀ t, t < n → w.frozen? ⟨blk, off + t, none⟩ = false := fun t ht => HR.out.frozen HS.out ht
 have hxI : (a : Int) < (n : Int) := by omega
 have hyI : (q : Int) < (n : Int) := by omega
 obtain ⟨v', hv'⟩ := cell?_setCell_some (w := w) (p := ⟨blk, off + a, none⟩) (x := .int .u32 (gA d q)) (q := ⟨blk, off + q, none⟩) (v := .int .u32 (gA d q)) (hcw q (by omega))
 go_upto_region 1 with fail
 go_cut [] (fun wx => Hid (RowU w wx blk off (swp d a q)))
 case first =>
  go_region
  all_goals go_wp2_with fail
  go_meet
  have hh := HR.out.swap 1 a q (by rw [HS.out]; omega) (by rw [HS.out]; omega)
  exact hh
 case rest =>
 have HS1 : Hid ((swp d a q).size = n) := (size_swp _ _ _).trans HS.out
 clear HR HS
 generalize swp d a q = dk0 at *
 have HR0 := hcut
 clear hcut hcw hfw hxI hyI hv'
 have hj0n : j0 < n := by omega
 have hj0b : j0 < b := by omega
 have haj : a + 1 ≤ j0 + 1 := by omega
 have HJ : Hid ((b : Int) - 1 = (j0 : Int)) := by show _ = _; omega
 have HI : Hid ((a : Int) + 1 = ((a + 1 : Nat) : Int)) := by show _ = _; omega
 clear hj0
 go_upto_region 2 with fail
 go_cut [9, 10] (fun vi vj wx => vi = .int .i64 ((a + 1 : Nat) : Int) ∧ vj = .int .i64 (j0 : Int) ∧ Hid (RowU w wx blk off dk0))
 case first =>
  go_wp2_with fail
  go_meet
  exact ⟨by rw [← HI.out], by rw [HJ.out], HR0⟩
 case rest =>
 obtain ⟨rfl, rfl, HR0⟩ := hcut
 clear HI HJ
 go_upto_block 0 with fail
 go_wp2_with fail
 go_loopw [9, 10] (fun vi vj wx => ∃ (i j : Nat) (dk : Array Int), vi = .int .i64 (i : Int) ∧ vj = .int .i64 (j : Int) ∧ a < i ∧ i ≤ j + 1 ∧ j < b ∧ Hid (dk.size = n) ∧ Hid (RowU w wx blk off dk) ∧ Hid (partEqLoop ltInt a i j dk = (m, d'))) (fun vi vj _ => (intOf vj + 1 - intOf vi).toNat)
 case atStart => exact ⟨a + 1, j0, dk0, by first | rfl | (congr 1; omega), by first | rfl | (congr 1; omega), by omega, haj, hj0b, HS1, HR0, HG⟩
 case round =>
  clear HR0 HS1 HG hj0n hj0b haj
  obtain ⟨i, j, dk, rfl, rfl, hai, hij, hjb, HS, HR, HG⟩ := hrel
  have hjn : j < n := by omega
  obtain ⟨i2, hi2⟩ : ∃ i2, scanUp (fun x => !ltInt dk[a]! x) dk j i = i2 := ⟨_, rfl⟩
  obtain ⟨j2, hj2⟩ : ∃ j2, scanDown (fun x => ltInt dk[a]! x) dk i2 j = j2 := ⟨_, rfl⟩
  obtain ⟨f1, f2, f3, f4, _, _, f5⟩ := round_facts (fun x => !ltInt dk[a]! x) (fun x => ltInt dk[a]! x) (fun x => by cases h : ltInt dk[a]! x <;> simp) dk (i - 1) (j + 1) i j (by omega) hij (fun t h1 h2 => by omega) (fun t h1 h2 => by omega)
  rw [hi2, hj2] at f3 f4 f5
  rw [hi2] at f1 f2
  have f5 : ¬ i2 > j2 → i2 < j2 := fun h => (f5 h).2.2
  have HT1 := zz hi2
  have HT2 := zz hj2
  clear hi2 hj2
  go_upto_block 2 with fail
  go_cut [9] (fun v wx => v = .int .i64 (i2 : Int) ∧ Hid (RowU w wx blk off dk))
  case first =>
   go_wp2_with fail
   go_loopw [9] (fun v wx => ∃ t : Nat, v = .int .i64 (t : Int) ∧ i ≤ t ∧ t ≤ j + 1 ∧ Hid (RowU w wx blk off dk) ∧ Hid (scanUp (fun x => !ltInt dk[a]! x) dk j t = i2)) (fun v _ => j + 1 - (intOf v).toNat)
   case atStart => exact ⟨i, by first | rfl | (congr 1; omega), Nat.le_refl _, hij, HR, HT1⟩
   case round =>
    obtain ⟨t, rfl, h1, h2, HR, HT⟩ := hrel
    have hcw : ∀ t, t < n → wr.cell? ⟨blk, off + t, none⟩ = some (.int .u32 (gA dk t)) := fun t ht => HR.out.cell HS.out ht
    have hfw : ∀ t, t < n → wr.frozen? ⟨blk, off + t, none⟩ = false := fun t ht => HR.out.frozen HS.out ht
    by_cases hle : t ≤ j
    · have hleI : (t : Int) ≤ (j : Int) := by omega
      have htn : (t : Int) < (n : Int) := by omega
      have han : (a : Int) < (n : Int) := by omega
      obtain ⟨b1, hb1⟩ : ∃ b1, ltInt (gA dk a) (gA dk t) = b1 := ⟨_, rfl⟩
      have H1 := zz hb1
      clear hb1
      cases b1 with
      | true =>
       go_wp2_with fail
       go_quiet ((go_at_call 215; exact quiet_eq (u_lessB _ _ _ H1.out _)))
       go_wp2_with fail
       go_meet
       exact ⟨by rw [← (k_up_end (fun x => !ltInt dk[a]! x) dk j t (.inr (by show (!_) = _; rw [show ltInt (dk[a]!) (dk[t]!) = _ from H1.out]; rfl))).symm.trans HT.out], HR.out.drewN nq⟩
      | false =>
       go_wp2_with fail
       go_quiet ((go_at_call 215; exact quiet_eq (u_lessB _ _ _ H1.out _)))
       go_wp2_with fail
       go_roundw
       case rel => exact ⟨t + 1, by go_num, by omega, by omega, HR.out.drewN nq, (k_up_go (fun x => !ltInt dk[a]! x) dk j t hle (by show (!_) = _; rw [show ltInt (dk[a]!) (dk[t]!) = _ from H1.out]; rfl)).symm.trans HT.out⟩
       case measure => simp [intOf] <;> omega
    · have hleI : (j : Int) < (t : Int) := by omega
      have hleD : decide ((t : Int) ≤ (j : Int)) = false := by simp; omega
      go_wp2_with fail
      go_quiet ((go_at_call 215; exact quiet_eq (u_less _ _ _)))
      go_wp2_with fail
      go_meet
      exact ⟨by rw [← (k_up_end (fun x => !ltInt dk[a]! x) dk j t (.inl hle)).symm.trans HT.out], HR.out.drewN nq⟩
  case rest =>
   obtain ⟨rfl, HR⟩ := hcut
   go_upto_block 4 with fail
   go_cut [10] (fun v wx => v = .int .i64 (j2 : Int) ∧ Hid (RowU w wx blk off dk))
   case first =>
    go_wp2_with fail
    go_loopw [10] (fun v wx => ∃ t : Nat, v = .int .i64 (t : Int) ∧ t ≤ j ∧ i2 ≤ t + 1 ∧ Hid (RowU w wx blk off dk) ∧ Hid (scanDown (fun x => ltInt dk[a]! x) dk i2 t = j2)) (fun v _ => (intOf v).toNat)
    case atStart => exact ⟨j, by first | rfl | (congr 1; omega), Nat.le_refl _, by omega, HR, HT2⟩
    case round =>
     obtain ⟨t, rfl, h1, h2, HR, HT⟩ := hrel
     have hcw : ∀ t, t < n → wr.cell? ⟨blk, off + t, none⟩ = some (.int .u32 (gA dk t)) := fun t ht => HR.out.cell HS.out ht
     have hfw : ∀ t, t < n → wr.frozen? ⟨blk, off + t, none⟩ = false := fun t ht => HR.out.frozen HS.out ht
     by_cases hle : i2 ≤ t
     · obtain ⟨t, rfl⟩ : ∃ t' : Nat, t = t' + 1 := ⟨t - 1, by omega⟩
       have hleI : (i2 : Int) ≤ (t : Int) + 1 := by omega
       have htn : (t : Int) + 1 < (n : Int) := by omega
       have han : (a : Int) < (n : Int) := by omega
       obtain ⟨b1, hb1⟩ : ∃ b1, ltInt (gA dk a) (gA dk (t + 1)) = b1 := ⟨_, rfl⟩
       have H1 := zz hb1
       clear hb1
       cases b1 with
       | true =>
        go_wp2_with fail
        go_quiet ((go_at_call 215; exact quiet_eq (u_lessB _ _ _ H1.out _)))
        go_wp2_with fail
        go_roundw
        case rel => exact ⟨t, by first | rfl | (congr 1; omega), by omega, by omega, HR.out.drewN nq, (k_down_go (fun x => ltInt dk[a]! x) dk i2 t hle H1.out).symm.trans HT.out⟩
        case measure => simp [intOf] <;> omega
       | false =>
        go_wp2_with fail
        go_quiet ((go_at_call 215; exact quiet_eq (u_lessB _ _ _ H1.out _)))
        go_wp2_with fail
        go_meet
        exact ⟨by rw [← (k_down_end (fun x => ltInt dk[a]! x) dk i2 (t + 1) (.inr H1.out)).symm.trans HT.out], HR.out.drewN nq⟩
     · have hleI : (t : Int) < (i2 : Int) := by omega
       have hleD : decide ((i2 : Int) ≤ (t : Int)) = false := by simp; omega
       go_wp2_with fail
       go_quiet ((go_at_call 215; exact quiet_eq (u_less _ _ _)))
       go_wp2_with fail
       go_meet
       exact ⟨by rw [← (k_down_end (fun x => ltInt dk[a]! x) dk i2 t (.inl hle)).symm.trans HT.out], HR.out.drewN nq⟩
   case rest =>
    obtain ⟨rfl, HR⟩ := hcut
    by_cases hgt : j2 < i2
    · have hgtI : (j2 : Int) < (i2 : Int) := by omega
      have HM : Hid (i2 = m ∧ dk = d') := by
       have e := HG.out
       rw [partEqLoop_eq, HT1.out, HT2.out, if_pos hgt] at e
       injection e with e1 e2
       exact ⟨e1, e2⟩
      go_wp2_with fail
      go_ret
      obtain ⟨rfl, rfl⟩ := HM.out
      exact ⟨rfl, HR.out⟩
    · have hgtI : (i2 : Int) ≤ (j2 : Int) := by omega
      have hlt := f5 hgt
      have HG2 : Hid (partEqLoop ltInt a (i2 + 1) (j2 - 1) (swp dk i2 j2) = (m, d')) := by
       have e := HG.out
       rw [partEqLoop_eq, HT1.out, HT2.out, if_neg hgt] at e
       exact e
      have hcw : ∀ t, t < n → wc.cell? ⟨blk, off + t, none⟩ = some (.int .u32 (gA dk t)) := fun t ht => HR.out.cell HS.out ht
      have hfw : ∀ t, t < n → wc.frozen? ⟨blk, off + t, none⟩ = false := fun t ht => HR.out.frozen HS.out ht
      have hxI : (i2 : Int) < (n : Int) := by omega
      have hyI : (j2 : Int) < (n : Int) := by omega
      obtain ⟨v', hv'⟩ := cell?_setCell_some (w := wc) (p := ⟨blk, off + i2, none⟩) (x := .int .u32 (gA dk j2)) (q := ⟨blk, off + j2, none⟩) (v := .int .u32 (gA dk j2)) (hcw j2 (by omega))
      have hh := zz (HR.out.swap 1 i2 j2 (by rw [HS.out]; omega) (by rw [HS.out]; omega))
      go_wp2_with fail
      go_region
      all_goals go_wp2_with fail
      go_roundw
      case rel => exact ⟨i2 + 1, j2 - 1, swp dk i2 j2, by go_num, by congr 1; omega, by omega, by omega, by omega, (size_swp _ _ _).trans HS.out, hh.out, HG2⟩
      case measure => simp [intOf] <;> omega
end
end Go.Proofs.YtpcnolkdnmolgaaGreatDoor
