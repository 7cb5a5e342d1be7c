/- Sorting a row of uint32: insertion, a few steps. -/
import Derived.Test.YtpcjbfhgmcioaaaGreatKF
namespace Go.Proofs.YtpcjbfhgmcioaaaGreat
open Go.RowKit Go.Sort

section
variable {α : Type} [Inhabited α] (lt : α → α → Bool)
theorem k_sorted_go (d : Array α) (b i : Nat) (h1 : i < b) (h2 : lt d[i]! d[i - 1]! = false) : scanSorted lt d b i = scanSorted lt d b (i + 1) := by
  conv => lhs; rw [scanSorted]
  rw [if_pos (by simp [h1, h2])]
theorem k_sorted_end (d : Array α) (b i : Nat) (h : ¬ i < b ∨ lt d[i]! d[i - 1]! = true) : scanSorted lt d b i = i := by
  rw [scanSorted, if_neg]
  rcases h with h | h <;> simp [h]
theorem k_sorted_range (d : Array α) (b : Nat) : ∀ (k i : Nat), b - i ≤ k → i ≤ b → i ≤ scanSorted lt d b i ∧ scanSorted lt d b i ≤ b
  | 0, i, hk, hi => by rw [k_sorted_end lt d b i (.inl (by omega))]; omega
  | k + 1, i, hk, hi => by
    by_cases h : i < b
    · cases hl : lt d[i]! d[i - 1]! with
      | false =>
        rw [k_sorted_go lt d b i h hl]
        have := k_sorted_range d b k (i + 1) (by omega) (by omega)
        omega
      | true => rw [k_sorted_end lt d b i (.inr hl)]; omega
    · rw [k_sorted_end lt d b i (.inl h)]; omega
theorem k_up_go2 (b j : Nat) (d : Array α) (h1 : j < b) (h2 : lt d[j]! d[j - 1]! = true) : shiftUp lt b j d = shiftUp lt b (j + 1) (swp d j (j - 1)) := by
  conv => lhs; rw [shiftUp]
  rw [if_pos h1, h2]
  simp
theorem k_up_end2 (b j : Nat) (d : Array α) (h : ¬ j < b ∨ lt d[j]! d[j - 1]! = false) : shiftUp lt b j d = d := by
  rw [shiftUp]
  split
  · rcases h with h | h
    · contradiction
    · rw [h]; simp
  · rfl
theorem k_dn_go2 (t : Nat) (d : Array α) (h2 : lt d[t + 1]! d[t]! = true) : shiftDown lt (t + 1) d = shiftDown lt t (swp d (t + 1) t) := by
  rw [shiftDown, h2]
  simp
theorem k_dn_end2 (t : Nat) (d : Array α) (h2 : lt d[t + 1]! d[t]! = false) : shiftDown lt (t + 1) d = d := by
  rw [shiftDown, h2]
  simp
end
def Inserted (w : World) (blk off : Nat) (d : Array Int) (r : Bool) (e : Ending) (w' : World) : Prop := e = .returned (.bool r) ∧ RowU w w' blk off d
set_option maxRecDepth 100000 in
set_option maxHeartbeats 16000000 in
theorem u_pins (blk off n cap a b : Nat) (d d' : Array Int) (r : Bool) (w : World) (hH : Holds (Value.int .u32) w blk off d) (hn : d.size = n) (hab : a < b) (hb : b ≤ n) (hsz : n ≤ 60000) (hr : partialInsertionSort ltInt d a b = (d', r)) :
    Calls Tryz.prog 142 #[.slice (some ⟨blk, off, none⟩) n cap, .int .i64 a, .int .i64 b] w (Inserted w blk off d' r) := by
  have HR := Lib.hid (RowU.start hH)
  have HS : Hid (d.size = n) := hn
  unfold partialInsertionSort at hr
  have HG : Hid (partialIns ltInt a b 5 (a + 1) d = (d', r)) := hr
  clear hH hn hr
  go_enter Tryz.func142, Tryz.ntmps142
  go_upto_block 0 with fail
  go_wp2_with fail
  go_loopw [7, 8] (fun vi vk wx => ∃ (i k s : Nat) (dk : Array Int), vi = .int .i64 (i : Int) ∧ vk = .int .i64 (k : Int) ∧ k + s = 5 ∧ a < i ∧ i ≤ b ∧ Hid (dk.size = n) ∧ Hid (RowU w wx blk off dk) ∧ Hid (partialIns ltInt a b s i dk = (d', r))) (fun _ vk _ => (5 - intOf vk).toNat)
  case atStart => exact ⟨a + 1, 0, 5, d, by first | rfl | (congr 1; omega), rfl, rfl, by omega, by omega, HS, HR, HG⟩
  case round =>
    clear HR HS HG
    obtain ⟨i, k, s, dk, rfl, rfl, hks, hai, hib, HS, HR, HG⟩ := hrel
    cases s with
    | zero =>
      obtain rfl : k = 5 := by omega
      have HM : Hid (dk = d' ∧ false = r) := by
        have e := HG.out
        rw [partialIns] at e
        injection e with e1 e2
        exact ⟨e1, e2⟩
      go_wp2_with fail
      go_ret
      obtain ⟨rfl, rfl⟩ := HM.out
      exact ⟨rfl, HR.out⟩
    | succ s =>
      have hk5 : (k : Int) < 5 := by omega
      obtain ⟨i2, hi2⟩ : ∃ i2, scanSorted ltInt dk b i = i2 := ⟨_, rfl⟩
      have hrg := k_sorted_range ltInt dk b (b - i) i (Nat.le_refl _) hib
      rw [hi2] at hrg
      obtain ⟨hr1, hr2⟩ := hrg
      have HT := Lib.hid hi2
      clear hi2
      go_upto_block 2 with fail
      go_cut [7] (fun v wx => v = .int .i64 (i2 : Int) ∧ Hid (RowU w wx blk off dk))
      case first =>
        go_wp2_with fail
        go_loopw [7] (fun v wx => ∃ t : Nat, v = .int .i64 (t : Int) ∧ i ≤ t ∧ t ≤ b ∧ Hid (RowU w wx blk off dk) ∧ Hid (scanSorted ltInt dk b t = i2)) (fun v _ => b - (intOf v).toNat)
        case atStart => exact ⟨i, rfl, Nat.le_refl _, hib, HR, HT⟩
        case round =>
          obtain ⟨t, rfl, h1, h2, HR, HT⟩ := hrel
          have hcw : ∀ t, t < n → wr.cell? ⟨blk, off + t, none⟩ = some (.int .u32 (gA dk t)) := fun t ht => HR.out.cell HS.out ht
          by_cases hle : t < b
          · have hleI : (t : Int) < (b : Int) := by omega
            have htn : (t : Int) < (n : Int) := by omega
            have htn1 : (t : Int) - 1 < (n : Int) := by omega
            have ht1 : 1 ≤ (t : Int) := by omega
            have htz : ((t : Int) - 1).toNat = t - 1 := by omega
            have hwr : IntKind.i64.wrap ((t : Int) - 1) = (t : Int) - 1 := IntWalk.i64_in _ (by omega)
            obtain ⟨b1, hb1⟩ : ∃ b1, ltInt (gA dk t) (gA dk (t - 1)) = b1 := ⟨_, rfl⟩
            have H1 := Lib.hid hb1
            clear hb1
            cases b1 with
            | false =>
              go_wp2_with fail
              go_quiet ((go_at_call 143; exact quiet_eq (u_lessB _ _ _ H1.out _)))
              go_wp2_with fail
              go_roundw
              case rel => exact ⟨t + 1, by go_num, by omega, by omega, HR.out.drewN nq, (k_sorted_go ltInt dk b t hle H1.out).symm.trans HT.out⟩
              case measure => simp [intOf] <;> omega
            | true =>
              go_wp2_with fail
              go_quiet ((go_at_call 143; exact quiet_eq (u_lessB _ _ _ H1.out _)))
              go_wp2_with fail
              go_meet
              exact ⟨by rw [← (k_sorted_end ltInt dk b t (.inr H1.out)).symm.trans HT.out], HR.out.drewN nq⟩
          · have hleI : (b : Int) ≤ (t : Int) := by omega
            have hleD : decide ((t : Int) < (b : Int)) = false := by simp; omega
            go_wp2_with fail
            go_quiet ((go_at_call 143; exact quiet_eq (u_less _ _ _)))
            go_wp2_with fail
            go_meet
            exact ⟨by rw [← (k_sorted_end ltInt dk b t (.inl hle)).symm.trans HT.out], HR.out.drewN nq⟩
      case rest =>
      obtain ⟨rfl, HR⟩ := hcut
      have HG2 : Hid ((if i2 = b then (dk, true) else if b - a < 50 then (dk, false) else partialIns ltInt a b s i2 (fixUp ltInt b i2 (fixDown ltInt a i2 (swp dk i2 (i2 - 1))))) = (d', r)) := by
        have e := HG.out
        rw [partialIns_succ, HT.out] at e
        exact e
      clear HG HT
      by_cases he : i2 = b
      · have HM : Hid (dk = d' ∧ true = r) := by
          have e := HG2.out
          rw [if_pos he] at e
          injection e with e1 e2
          exact ⟨e1, e2⟩
        have heI : ((i2 : Int) == (b : Int)) = true := by simp; omega
        subst he
        go_wp2_with fail
        go_ret
        obtain ⟨rfl, rfl⟩ := HM.out
        exact ⟨rfl, HR.out⟩
      · have heI : ((i2 : Int) == (b : Int)) = false := by simp; omega
        by_cases h50 : b - a < 50
        · have HM : Hid (dk = d' ∧ false = r) := by
            have e := HG2.out
            rw [if_neg he, if_pos h50] at e
            injection e with e1 e2
            exact ⟨e1, e2⟩
          have h50I : (b : Int) - (a : Int) < 50 := by omega
          go_wp2_with fail
          go_ret
          obtain ⟨rfl, rfl⟩ := HM.out
          exact ⟨rfl, HR.out⟩
        · have HG3 : Hid (partialIns ltInt a b s i2 (fixUp ltInt b i2 (fixDown ltInt a i2 (swp dk i2 (i2 - 1)))) = (d', r)) := by
            have e := HG2.out
            rw [if_neg he, if_neg h50] at e
            exact e
          have h50I : (50 : Int) ≤ (b : Int) - (a : Int) := by omega
          have hi2n : i2 < b := by omega
          clear HG2
          have hcw : ∀ t, t < n → wc.cell? ⟨blk, off + t, none⟩ = some (.int .u32 (gA dk t)) := fun t ht => HR.out.cell HS.out ht
          have hfw : ∀ t, t < n → wc.frozen? ⟨blk, off + t, none⟩ = false := fun t ht => HR.out.frozen HS.out ht
          have htn : (i2 : Int) < (n : Int) := by omega
          have htn1 : (i2 : Int) - 1 < (n : Int) := by omega
          have ht1 : 1 ≤ (i2 : Int) := by omega
          have htz : ((i2 : Int) - 1).toNat = i2 - 1 := by omega
          go_upto_region 11 with fail
          go_cut [] (fun wx => Hid (RowU w wx blk off (swp dk i2 (i2 - 1))))
          case first =>
            go_region
            all_goals go_wp2_with fail
            go_meet
            have hh := HR.out.swap 1 i2 (i2 - 1) (by rw [HS.out]; omega) (by rw [HS.out]; omega)
            exact hh
          case rest =>
          have HS1 : Hid ((swp dk i2 (i2 - 1)).size = n) := (size_swp _ _ _).trans HS.out
          clear HR HS hcw hfw
          generalize swp dk i2 (i2 - 1) = dk2 at *
          have HR := hcut
          have HS := HS1
          clear hcut HS1
          go_upto_if 61 with fail
          go_cut [] (fun wx => Hid (RowU w wx blk off (fixDown ltInt a i2 dk2)) ∧ Hid ((fixDown ltInt a i2 dk2).size = n))
          case first =>
            by_cases h2 : 2 ≤ i2 - a
            · have h2I : (2 : Int) ≤ (i2 : Int) - (a : Int) := by omega
              have HF : Hid (fixDown ltInt a i2 dk2 = shiftDown ltInt (i2 - 1) dk2) := by show _ = _; unfold fixDown; rw [if_pos h2]
              go_wp2_with fail
              go_loopw [9] (fun v wx => ∃ (j : Nat) (dj : Array Int), v = .int .i64 (j : Int) ∧ j < i2 ∧ Hid (dj.size = n) ∧ Hid (RowU w wx blk off dj) ∧ Hid (shiftDown ltInt j dj = fixDown ltInt a i2 dk2)) (fun v _ => (intOf v).toNat)
              case atStart => exact ⟨i2 - 1, dk2, by first | rfl | (congr 1; omega), by omega, HS, HR, HF.out.symm⟩
              case round =>
                obtain ⟨j, dj, rfl, hj, HS2, HR2, HQ⟩ := hrel
                have hcw : ∀ t, t < n → wr.cell? ⟨blk, off + t, none⟩ = some (.int .u32 (gA dj t)) := fun t ht => HR2.out.cell HS2.out ht
                have hfw : ∀ t, t < n → wr.frozen? ⟨blk, off + t, none⟩ = false := fun t ht => HR2.out.frozen HS2.out ht
                cases j with
                | zero =>
                  go_wp2_with fail
                  go_meet
                  have e : dj = fixDown ltInt a i2 dk2 := HQ.out
                  rw [← e]
                  exact ⟨HR2, HS2⟩
                | succ t =>
                  have hjn : (t : Int) + 1 < (n : Int) := by omega
                  have hjn2 : (t : Int) < (n : Int) := by omega
                  obtain ⟨b1, hb1⟩ : ∃ b1, ltInt (gA dj (t + 1)) (gA dj t) = b1 := ⟨_, rfl⟩
                  have H1 := Lib.hid hb1
                  clear hb1
                  cases b1 with
                  | false =>
                    go_wp2_with fail
                    go_quiet ((go_at_call 143; exact quiet_eq (u_lessB _ _ _ H1.out _)))
                    go_wp2_with fail
                    go_meet
                    have e : dj = fixDown ltInt a i2 dk2 := (k_dn_end2 ltInt t dj H1.out).symm.trans HQ.out
                    rw [← e]
                    exact ⟨HR2.out.drewN nq, HS2⟩
                  | true =>
                    go_wp2_with fail
                    go_quiet ((go_at_call 143; exact quiet_eq (u_lessB _ _ _ H1.out _)))
                    have HR3 := Lib.hid (HR2.out.drewN nq)
                    generalize wr.drewN nq = w2 at *
                    have hcw : ∀ t, t < n → w2.cell? ⟨blk, off + t, none⟩ = some (.int .u32 (gA dj t)) := fun t ht => HR3.out.cell HS2.out ht
                    have hfw : ∀ t, t < n → w2.frozen? ⟨blk, off + t, none⟩ = false := fun t ht => HR3.out.frozen HS2.out ht
                    have hh := Lib.hid (HR3.out.swap 1 (t + 1) t (by rw [HS2.out]; omega) (by rw [HS2.out]; omega))
                    go_wp2_with fail
                    go_region
                    all_goals go_wp2_with fail
                    go_roundw
                    case rel => exact ⟨t, swp dj (t + 1) t, by first | rfl | (congr 1; omega), by omega, (size_swp _ _ _).trans HS2.out, hh.out, (k_dn_go2 ltInt t dj H1.out).symm.trans HQ.out⟩
                    case measure => simp [intOf] <;> omega
            · have h2I : (i2 : Int) - (a : Int) < 2 := by omega
              have HF : Hid (fixDown ltInt a i2 dk2 = dk2) := by show _ = _; unfold fixDown; rw [if_neg h2]
              go_wp2_with fail
              go_meet
              rw [HF.out]
              exact ⟨HR, HS⟩
          case rest =>
          clear HR HS
          generalize fixDown ltInt a i2 dk2 = dk3 at *
          obtain ⟨HR, HS⟩ := hcut
          by_cases h2 : 2 ≤ b - i2
          · have h2I : (2 : Int) ≤ (b : Int) - (i2 : Int) := by omega
            have HF : Hid (fixUp ltInt b i2 dk3 = shiftUp ltInt b (i2 + 1) dk3) := by show _ = _; unfold fixUp; rw [if_pos h2]
            go_wp2_with fail
            go_loopw [10] (fun v wx => ∃ (j : Nat) (dj : Array Int), v = .int .i64 (j : Int) ∧ i2 < j ∧ j ≤ b ∧ Hid (dj.size = n) ∧ Hid (RowU w wx blk off dj) ∧ Hid (shiftUp ltInt b j dj = fixUp ltInt b i2 dk3)) (fun v _ => b - (intOf v).toNat)
            case atStart => exact ⟨i2 + 1, dk3, by first | rfl | (congr 1; omega), by omega, by omega, HS, HR, HF.out.symm⟩
            case round =>
              obtain ⟨j, dj, rfl, hj1, hj2, HS2, HR2, HQ⟩ := hrel
              have hcw : ∀ t, t < n → wr.cell? ⟨blk, off + t, none⟩ = some (.int .u32 (gA dj t)) := fun t ht => HR2.out.cell HS2.out ht
              have hfw : ∀ t, t < n → wr.frozen? ⟨blk, off + t, none⟩ = false := fun t ht => HR2.out.frozen HS2.out ht
              by_cases hjb : j < b
              · have hjbI : (j : Int) < (b : Int) := by omega
                have hjn : (j : Int) < (n : Int) := by omega
                have hjn1 : (j : Int) - 1 < (n : Int) := by omega
                have hj0 : 1 ≤ (j : Int) := by omega
                have hjz : ((j : Int) - 1).toNat = j - 1 := by omega
                obtain ⟨b1, hb1⟩ : ∃ b1, ltInt (gA dj j) (gA dj (j - 1)) = b1 := ⟨_, rfl⟩
                have H1 := Lib.hid hb1
                clear hb1
                have hwr : IntKind.i64.wrap ((j : Int) - 1) = (j : Int) - 1 := IntWalk.i64_in _ (by omega)
                cases b1 with
                | false =>
                  go_wp2_with fail
                  go_quiet ((go_at_call 143; exact quiet_eq (u_lessB _ _ _ H1.out _)))
                  have e : dj = fixUp ltInt b i2 dk3 := (k_up_end2 ltInt b j dj (.inr H1.out)).symm.trans HQ.out
                  have HG4 : Hid (partialIns ltInt a b s i2 dj = (d', r)) := by rw [e]; exact HG3
                  clear e
                  go_wp2_with fail
                  go_roundw
                  case rel => exact ⟨i2, k + 1, s, dj, rfl, by go_num, by omega, by omega, hr2, HS2, HR2.out.drewN nq, HG4⟩
                  case measure => simp [intOf] <;> omega
                | true =>
                  go_wp2_with fail
                  go_quiet ((go_at_call 143; exact quiet_eq (u_lessB _ _ _ H1.out _)))
                  clear hwr
                  have HR3 := Lib.hid (HR2.out.drewN nq)
                  generalize wr.drewN nq = w2 at *
                  have hcw : ∀ t, t < n → w2.cell? ⟨blk, off + t, none⟩ = some (.int .u32 (gA dj t)) := fun t ht => HR3.out.cell HS2.out ht
                  have hfw : ∀ t, t < n → w2.frozen? ⟨blk, off + t, none⟩ = false := fun t ht => HR3.out.frozen HS2.out ht
                  have hh := Lib.hid (HR3.out.swap 1 j (j - 1) (by rw [HS2.out]; omega) (by rw [HS2.out]; omega))
                  go_wp2_with fail
                  go_region
                  all_goals go_wp2_with fail
                  go_roundw
                  case rel => exact ⟨j + 1, swp dj j (j - 1), by go_num, by omega, by omega, (size_swp _ _ _).trans HS2.out, hh.out, (k_up_go2 ltInt b j dj hjb H1.out).symm.trans HQ.out⟩
                  case measure => simp [intOf] <;> omega
              · have hjbI : (b : Int) ≤ (j : Int) := by omega
                have e : dj = fixUp ltInt b i2 dk3 := (k_up_end2 ltInt b j dj (.inl hjb)).symm.trans HQ.out
                have HG4 : Hid (partialIns ltInt a b s i2 dj = (d', r)) := by rw [e]; exact HG3
                clear e
                go_wp2_with fail
                go_roundw
                case rel => exact ⟨i2, k + 1, s, dj, rfl, by go_num, by omega, by omega, hr2, HS2, HR2, HG4⟩
                case measure => simp [intOf] <;> omega
          · have h2I : (b : Int) - (i2 : Int) < 2 := by omega
            have HF : Hid (fixUp ltInt b i2 dk3 = dk3) := by show _ = _; unfold fixUp; rw [if_neg h2]
            have HG4 : Hid (partialIns ltInt a b s i2 dk3 = (d', r)) := by rw [← HF.out]; exact HG3
            go_wp2_with fail
            go_roundw
            case rel => exact ⟨i2, k + 1, s, dk3, rfl, by go_num, by omega, by omega, hr2, HS, HR, HG4⟩
            case measure => simp [intOf] <;> omega
end Go.Proofs.YtpcjbfhgmcioaaaGreat
