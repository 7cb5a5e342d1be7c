/- Sorting a row of uint32: insertion, a few steps. -/
import Derived.Test.YtogljgiefmfafaaGreatPa21
namespace Go.Proofs.YtogljgiefmfafaaGreat
open Go.RowKit Go.Sort
section
variable {α : Type} [Inhabited α] (lt : α → α → Bool)
theorem k_sorted_go (d : Array α) (b i : Nat) (h1 : i < b) (h2 : lt d[i]! d[i - 1]! = false) : scanSorted lt d b i = scanSorted lt d b (i + 1) := by
  conv => lhs; rw [scanSorted]
  rw [if_pos (by simp [h1, h2])]
theorem k_sorted_end (d : Array α) (b i : Nat) (h : ¬ i < b ∨ lt d[i]! d[i - 1]! = true) : scanSorted lt d b i = i := by
  rw [scanSorted, if_neg]
  rcases h with h | h <;> simp [h]
theorem k_sorted_range (d : Array α) (b : Nat) : ∀ (k i : Nat), b - i ≤ k → i ≤ b → i ≤ scanSorted lt d b i ∧ scanSorted lt d b i ≤ b
  | 0, i, hk, hi => by rw [k_sorted_end lt d b i (.inl (by omega))]; omega
  | k + 1, i, hk, hi => by
    by_cases h : i < b
    · cases hl : lt d[i]! d[i - 1]! with
      | false =>
        rw [k_sorted_go lt d b i h hl]
        have := k_sorted_range d b k (i + 1) (by omega) (by omega)
        omega
      | true => rw [k_sorted_end lt d b i (.inr hl)]; omega
    · rw [k_sorted_end lt d b i (.inl h)]; omega
theorem k_up_go2 (b j : Nat) (d : Array α) (h1 : j < b) (h2 : lt d[j]! d[j - 1]! = true) : shiftUp lt b j d = shiftUp lt b (j + 1) (swp d j (j - 1)) := by
  conv => lhs; rw [shiftUp]
  rw [if_pos h1, h2]
  simp
theorem k_up_end2 (b j : Nat) (d : Array α) (h : ¬ j < b ∨ lt d[j]! d[j - 1]! = false) : shiftUp lt b j d = d := by
  rw [shiftUp]
  split
  · rcases h with h | h
    · contradiction
    · rw [h]; simp
  · rfl
theorem k_dn_go2 (t : Nat) (d : Array α) (h2 : lt d[t + 1]! d[t]! = true) : shiftDown lt (t + 1) d = shiftDown lt t (swp d (t + 1) t) := by
  rw [shiftDown, h2]
  simp
theorem k_dn_end2 (t : Nat) (d : Array α) (h2 : lt d[t + 1]! d[t]! = false) : shiftDown lt (t + 1) d = d := by
  rw [shiftDown, h2]
  simp
end
def Inserted (w : World) (blk off : Nat) (d : Array Int) (r : Bool) (e : Ending) (w' : World) : Prop := e = .returned (.bool r) ∧ RowU w w' blk off d
set_option maxRecDepth 100000 in
set_option maxHeartbeats 16000000 in
theorem u_pins (blk off n cap a b : Nat) (d d' : Array Int) (r : Bool) (w : World) (hH : Holds (Value.int .u32) w blk off d) (hn : d.size = n) (hab : a < b) (hb : b ≤ n) (hsz : n ≤ 60000) (hr : partialInsertionSort ltInt d a b = (d', r)) :
    Calls Tryz.prog 237 #[.slice (some ⟨blk, off, none⟩) n cap, .int .i64 a, .int .i64 b] w (Inserted w blk off d' r) := by
  have HR := Lib.hid (RowU.start hH)
  have HS : Hid (d.size = n) := hn
  unfold partialInsertionSort at hr
  have HG : Hid (partialIns ltInt a b 5 (a + 1) d = (d', r)) := hr
  clear hH hn hr
  go_enter Tryz.func237, Tryz.ntmps237
  go_upto_block 0 with fail
  go_wp2_with fail
  go_loopw [7, 8] (fun vi vk wx => ∃ (i k s : Nat) (dk : Array Int), vi = .int .i64 (i : Int) ∧ vk = .int .i64 (k : Int) ∧ k + s = 5 ∧ a < i ∧ i ≤ b ∧ Hid (dk.size = n) ∧ Hid (RowU w wx blk off dk) ∧ Hid (partialIns ltInt a b s i dk = (d', r))) (fun _ vk _ => (5 - intOf vk).toNat)
  case atStart => exact ⟨a + 1, 0, 5, d, by first | rfl | (congr 1; omega), rfl, rfl, by omega, by omega, HS, HR, HG⟩
  case round =>
    clear HR HS HG
    obtain ⟨i, k, s, dk, rfl, rfl, hks, hai, hib, HS, HR, HG⟩ := hrel
    cases s with
    | zero =>
      obtain rfl : k = 5 := by omega
      have HM : Hid (dk = d' ∧ false = r) := by
        have e := HG.out
        rw [partialIns] at e
        injection e with e1 e2
        exact ⟨e1, e2⟩
      go_wp2_with fail
      go_ret
      obtain ⟨rfl, rfl⟩ := HM.out
      exact ⟨rfl, HR.out⟩
    | succ s =>
      have hk5 : (k : Int) < 5 := by omega
      obtain ⟨i2, hi2⟩ : ∃ i2, scanSorted ltInt dk b i = i2 := ⟨_, rfl⟩
      have hrg := k_sorted_range ltInt dk b (b - i) i (Nat.le_refl _) hib
      rw [hi2] at hrg
      obtain ⟨hr1, hr2⟩ := hrg
      have HT := Lib.hid hi2
      clear hi2
      go_upto_block 2 with fail
      go_cut [7] (fun v wx => v = .int .i64 (i2 : Int) ∧ Hid (RowU w wx blk off dk))
      case first =>
        go_wp2_with fail
        go_loopw [7] (fun v wx => ∃ t : Nat, v = .int .i64 (t : Int) ∧ i ≤ t ∧ t ≤ b ∧ Hid (RowU w wx blk off dk) ∧ Hid (scanSorted ltInt dk b t = i2)) (fun v _ => b - (intOf v).toNat)
        case atStart => exact ⟨i, rfl, Nat.le_refl _, hib, HR, HT⟩
        case round =>
          obtain ⟨t, rfl, h1, h2, HR, HT⟩ := hrel
          have hcw : ∀ t, t < n → wr.cell? ⟨blk, off + t, none⟩ = some (.int .u32 (gA dk t)) := fun t ht => HR.out.cell HS.out ht
          by_cases hle : t < b
          · have hleI : (t : Int) < (b : Int) := by omega
            have htn : (t : Int) < (n : Int) := by omega
            have htn1 : (t : Int) - 1 < (n : Int) := by omega
            have ht1 : 1 ≤ (t : Int) := by omega
            have htz : ((t : Int) - 1).toNat = t - 1 := by omega
            have hwr : IntKind.i64.wrap ((t : Int) - 1) = (t : Int) - 1 := IntWalk.i64_in _ (by omega)
            obtain ⟨b1, hb1⟩ : ∃ b1, ltInt (gA dk t) (gA dk (t - 1)) = b1 := ⟨_, rfl⟩
            have H1 := Lib.hid hb1
            clear hb1
            cases b1 with
            | false =>
              go_wp2_with fail
              go_quiet ((go_at_call 238; exact quiet_eq (u_lessB _ _ _ H1.out _)))
              go_wp2_with fail
              go_roundw
              case rel => exact ⟨t + 1, by go_num, by omega, by omega, HR.out.drewN nq, (k_sorted_go ltInt dk b t hle H1.out).symm.trans HT.out⟩
              case measure => simp [intOf] <;> omega
            | true =>
              go_wp2_with fail
              go_quiet ((go_at_call 238; exact quiet_eq (u_lessB _ _ _ H1.out _)))
              go_wp2_with fail
              go_meet
              exact ⟨by rw [← (k_sorted_end ltInt dk b t (.inr H1.out)).symm.trans HT.out], HR.out.drewN nq⟩
          · have hleI : (b : Int) ≤ (t : Int) := by omega
            have hleD : decide ((t : Int) < (b : Int)) = false := by simp; omega
            go_wp2_with fail
            go_quiet ((go_at_call 238; exact quiet_eq (u_less _ _ _)))
            go_wp2_with fail
            go_meet
            exact ⟨by rw [← (k_sorted_end ltInt dk b t (.inl hle)).symm.trans HT.out], HR.out.drewN nq⟩
      case rest =>
      obtain ⟨rfl, HR⟩ := hcut
      have HG2 : Hid ((if i2 = b then (dk, true) else if b - a < 50 then (dk, false) else partialIns ltInt a b s i2 (fixUp ltInt b i2 (fixDown ltInt a i2 (swp dk i2 (i2 - 1))))) = (d', r)) := by
        have e := HG.out
        rw [partialIns_succ, HT.out] at e
        exact e
      clear HG HT
      by_cases he : i2 = b
      · have HM : Hid (dk = d' ∧ true = r) := by
          have e := HG2.out
          rw [if_pos he] at e
          injection e with e1 e2
          exact ⟨e1, e2⟩
        have heI : ((i2 : Int) == (b : Int)) = true := by simp; omega
        subst he
        go_wp2_with fail
        go_ret
        obtain ⟨rfl, rfl⟩ := HM.out
        exact ⟨rfl, HR.out⟩
      · have heI : ((i2 : Int) == (b : Int)) = false := by simp; omega
        by_cases h50 : b - a < 50
        · have HM : Hid (dk = d' ∧ false = r) := by
            have e := HG2.out
            rw [if_neg he, if_pos h50] at e
            injection e with e1 e2
            exact ⟨e1, e2⟩
          have h50I : (b : Int) - (a : Int) < 50 := by omega
          go_wp2_with fail
          go_ret
          obtain ⟨rfl, rfl⟩ := HM.out
          exact ⟨rfl, HR.out⟩
        · have HG3 : Hid (partialIns ltInt a b s i2 (fixUp ltInt b i2 (fixDown ltInt a i2 (swp dk i2 (i2 - 1)))) = (d', r)) := by
            have e := HG2.out
            rw [if_neg he, if_neg h50] at e
            exact e
          have h50I : (50 : Int) ≤ (b : Int) - (a : Int) := by omega
          have hi2n : i2 < b := by omega
          clear HG2
          have hcw : ∀ t, t < n → wc.cell? ⟨blk, off + t, none⟩ = some (.int .u32 (gA dk t)) := fun t ht => HR.out.cell HS.out ht
          have hfw : ∀ t, t < n → wc.frozen? ⟨blk, off + t, none⟩ = false := fun t ht => HR.out.frozen HS.out ht
          have htn : (i2 : Int) < (n : Int) := by omega
          have htn1 : (i2 : Int) - 1 < (n : Int) := by omega
          have ht1 : 1 ≤ (i2 : Int) := by omega
          have htz : ((i2 : Int) - 1).toNat = i2 - 1 := by omega
          go_upto_region 11 with fail
          go_cut [] (fun wx => Hid (RowU w wx blk off (swp dk i2 (i2 - 1))))
          case first =>
            go_region
            all_goals go_wp2_with fail
            go_meet
            have hh := HR.out.swap 1 i2 (i2 - 1) (by rw [HS.out]; omega) (by rw [HS.out]; omega)
            exact hh
          case rest =>
          have HS1 : Hid ((swp dk i2 (i2 - 1)).size = n) := (size_swp _ _ _).trans HS.out
          clear HR HS hcw hfw
          generalize swp dk i2 (i2 - 1) = dk2 at *
          have HR := hcut
          have HS := HS1
          clear hcut HS1
          go_upto_if 61 with fail
          go_cut [] (fun wx => Hid (RowU w wx blk off (fixDown ltInt a i2 dk2)) ∧ Hid ((fixDown ltInt a i2 dk2).size = n))
          case first =>
            by_cases h2 : 2 ≤ i2 - a
            · have h2I : (2 : Int) ≤ (i2 : Int) - (a : Int) := by omega
              have HF : Hid (fixDown ltInt a i2 dk2 = shiftDown ltInt (i2 - 1) dk2) := by show _ = _; unfold fixDown; rw [if_pos h2]
              go_wp2_with fail
              go_loopw [9] (fun v wx => ∃ (j : Nat) (dj : Array Int), v = .int .i64 (j : Int) ∧ j < i2 ∧ Hid (dj.size = n) ∧ Hid (RowU w wx blk off dj) ∧ Hid (shiftDown ltInt j dj = fixDown ltInt a i2 dk2)) (fun v _ => (intOf v).toNat)
              case atStart => exact ⟨i2 - 1, dk2, by first | rfl | (congr 1; omega), by omega, HS, HR, HF.out.symm⟩
              case round =>
                obtain ⟨j, dj, rfl, hj, HS2, HR2, HQ⟩ := hrel
                have hcw : ∀ t, t < n → wr.cell? ⟨blk, off + t, none⟩ = some (.int .u32 (gA dj t)) := fun t ht => HR2.out.cell HS2.out ht
                have hfw : ∀ t, t < n → wr.frozen? ⟨blk, off + t, none⟩ = false := fun t ht => HR2.out.frozen HS2.out ht
                cases j with
                | zero =>
                  go_wp2_with fail
                  go_meet
                  have e : dj = fixDown ltInt a i2 dk2 := HQ.out
                  rw [← e]
                  exact ⟨HR2, HS2⟩
                | succ t =>
                  have hjn : (t : Int) + 1 < (n : Int) := by omega
                  have hjn2 : (t : Int) < (n : Int) := by omega
                  obtain ⟨b1, hb1⟩ : ∃ b1, ltInt (gA dj (t + 1)) (gA dj t) = b1 := ⟨_, rfl⟩
                  have H1 := Lib.hid hb1
                  clear hb1
                  cases b1 with
                  | false =>
                    go_wp2_with fail
                    go_quiet ((go_at_call 238; exact quiet_eq (u_lessB _ _ _ H1.out _)))
                    go_wp2_with fail
                    go_meet
                    have e : dj = fixDown ltInt a i2 dk2 := (k_dn_end2 ltInt t dj H1.out).symm.trans HQ.out
                    rw [← e]
                    exact ⟨HR2.out.drewN nq, HS2⟩
                  | true =>
                    go_wp2_with fail
                    go_quiet ((go_at_call 238; exact quiet_eq (u_lessB _ _ _ H1.out _)))
                    have HR3 := Lib.hid (HR2.out.drewN nq)
                    generalize wr.drewN nq = w2 at *
                    have hcw : ∀ t, t < n → w2.cell? ⟨blk, off + t, none⟩ = some (.int .u32 (gA dj t)) := fun t ht => HR3.out.cell HS2.out ht
                    have hfw : ∀ t, t < n → w2.frozen? ⟨blk, off + t, none⟩ = false := fun t ht => HR3.out.frozen HS2.out ht
                    have hh := Lib.hid (HR3.out.swap 1 (t + 1) t (by rw [HS2.out]; omega) (by rw [HS2.out]; omega))
                    go_wp2_with fail
                    go_region
                    all_goals go_wp2_with fail
                    go_roundw
                    case rel => exact ⟨t, swp dj (t + 1) t, by first | rfl | (congr 1; omega), by omega, (size_swp _ _ _).trans HS2.out, hh.out, (k_dn_go2 ltInt t dj H1.out).symm.trans HQ.out⟩
                    case measure => simp [intOf] <;> omega
            · have h2I : (i2 : Int) - (a : Int) < 2 := by omega
              have HF : Hid (fixDown ltInt a i2 dk2 = dk2) := by show _ = _; unfold fixDown; rw [if_neg h2]
              go_wp2_with fail
              go_meet
              rw [HF.out]
              exact ⟨HR, HS⟩
          case rest =>
          clear HR HS
          generalize fixDown ltInt a i2 dk2 = dk3 at *
          obtain ⟨HR, HS⟩ := hcut
          by_cases h2 : 2 ≤ b - i2
          · have h2I : (2 : Int) ≤ (b : Int) - (i2 : Int) := by omega
            have HF : Hid (fixUp ltInt b i2 dk3 = shiftUp ltInt b (i2 + 1) dk3) := by show _ = _; unfold fixUp; rw [if_pos h2]
            go_wp2_with fail
            go_loopw [10] (fun v wx => ∃ (j : Nat) (dj : Array Int), v = .int .i64 (j : Int) ∧ i2 < j ∧ j ≤ b ∧ Hid (dj.size = n) ∧ Hid (RowU w wx blk off dj) ∧ Hid (shiftUp ltInt b j dj = fixUp ltInt b i2 dk3)) (fun v _ => b - (intOf v).toNat)
            case atStart => exact ⟨i2 + 1, dk3, by first | rfl | (congr 1; omega), by omega, by omega, HS, HR, HF.out.symm⟩
            case round =>
              obtain ⟨j, dj, rfl, hj1, hj2, HS2, HR2, HQ⟩ := hrel
              have hcw : ∀ t, t < n → wr.cell? ⟨blk, off + t, none⟩ = some (.int .u32 (gA dj t)) := fun t ht => HR2.out.cell HS2.out ht
              have hfw : ∀ t, t < n → wr.frozen? ⟨blk, off + t, none⟩ = false := fun t ht => HR2.out.frozen HS2.out ht
              by_cases hjb : j < b
              · have hjbI : (j : Int) < (b : Int) := by omega
                have hjn : (j : Int) < (n : Int) := by omega
                have hjn1 : (j : Int) - 1 < (n : Int) := by omega
                have hj0 : 1 ≤ (j : Int) := by omega
                have hjz : ((j : Int) - 1).toNat = j - 1 := by omega
                obtain ⟨b1, hb1⟩ : ∃ b1, ltInt (gA dj j) (gA dj (j - 1)) = b1 := ⟨_, rfl⟩
                have H1 := Lib.hid hb1
                clear hb1
                have hwr : IntKind.i64.wrap ((j : Int) - 1) = (j : Int) - 1 := IntWalk.i64_in _ (by omega)
                cases b1 with
                | false =>
                  go_wp2_with fail
                  go_quiet ((go_at_call 238; exact quiet_eq (u_lessB _ _ _ H1.out _)))
                  have e : dj = fixUp ltInt b i2 dk3 := (k_up_end2 ltInt b j dj (.inr H1.out)).symm.trans HQ.out
                  have HG4 : Hid (partialIns ltInt a b s i2 dj = (d', r)) := by rw [e]; exact HG3
                  clear e
                  go_wp2_with fail
                  go_roundw
                  case rel => exact ⟨i2, k + 1, s, dj, rfl, by go_num, by omega, by omega, hr2, HS2, HR2.out.drewN nq, HG4⟩
                  case measure => simp [intOf] <;> omega
                | true =>
                  go_wp2_with fail
                  go_quiet ((go_at_call 238; exact quiet_eq (u_lessB _ _ _ H1.out _)))
                  clear hwr
                  have HR3 := Lib.hid (HR2.out.drewN nq)
                  generalize wr.drewN nq = w2 at *
                  have hcw : ∀ t, t < n → w2.cell? ⟨blk, off + t, none⟩ = some (.int .u32 (gA dj t)) := fun t ht => HR3.out.cell HS2.out ht
                  have hfw : ∀ t, t < n → w2.frozen? ⟨blk, off + t, none⟩ = false := fun t ht => HR3.out.frozen HS2.out ht
                  have hh := Lib.hid (HR3.out.swap 1 j (j - 1) (by rw [HS2.out]; omega) (by rw [HS2.out]; omega))
                  go_wp2_with fail
                  go_region
                  all_goals go_wp2_with fail
                  go_roundw
                  case rel => exact ⟨j + 1, swp dj j (j - 1), by go_num, by omega, by omega, (size_swp _ _ _).trans HS2.out, hh.out, (k_up_go2 ltInt b j dj hjb H1.out).symm.trans HQ.out⟩
                  case measure => simp [intOf] <;> omega
              · have hjbI : (b : Int) ≤ (j : Int) := by omega
                have e : dj = fixUp ltInt b i2 dk3 := (k_up_end2 ltInt b j dj (.inl hjb)).symm.trans HQ.out
                have HG4 : Hid (partialIns ltInt a b s i2 dj = (d', r)) := by rw [e]; exact HG3
                clear e
                go_wp2_with fail
                go_roundw
                case rel => exact ⟨i2, k + 1, s, dj, rfl, by go_num, by omega, by omega, hr2, HS2, HR2, HG4⟩
                case measure => simp [intOf] <;> omega
          · have h2I : (b : Int) - (i2 : Int) < 2 := by omega
            have HF : Hid (fixUp ltInt b i2 dk3 = dk3) := by show _ = _; unfold fixUp; rw [if_neg h2]
            have HG4 : Hid (partialIns ltInt a b s i2 dk3 = (d', r)) := by rw [← HF.out]; exact HG3
            go_wp2_with fail
            go_roundw
            case rel => exact ⟨i2, k + 1, s, dk3, rfl, by go_num, by omega, by omega, hr2, HS, HR, HG4⟩
            case measure => simp [intOf] <;> omega
end Go.Proofs.YtogljgiefmfafaaGreat
namespace Go.Proofs.YtogljgiefmfafaaGreat
open Go.RowKit Go.Sort
theorem RowU.below {w w1 w2 : World} {blk off : Nat} {d : Array Int} (h : RowU w w1 blk off d) (hb : RowKit.Below w1.heap.size w1 w2) (hlt : blk < w.heap.size) : RowU w w2 blk off d := by
  have hl1 : blk < w1.heap.size := Nat.lt_of_lt_of_le hlt h.grown.size
  refine ⟨fun j hj => ?_, pgrown_trans h.grown (pgrown_below hb _)⟩
  obtain ⟨h1, h2⟩ := h.holds j hj
  have e := hb.block blk hl1
  exact ⟨(World.cell?_of_block e).trans h1, by
    unfold World.frozen? at h2 ⊢
    rw [e]
    exact h2⟩
/-- What is sorted between a and b. -/
def SortPost (w : World) (blk off : Nat) (d : Array Int) (a b : Nat) (e : Ending) (w' : World) : Prop := ∃ d', e = .returned (.tuple #[]) ∧ RowU w w' blk off d' ∧ PermIn a b d d' ∧ SortedIn ltInt a b d'
/-- What a part that is sorted makes of the whole. -/
def Rest (a b : Nat) (dk : Array Int) (a0 b0 : Nat) (d : Array Int) : Prop := ∀ R, PermIn a b dk R → SortedIn ltInt a b R → PermIn a0 b0 d R ∧ SortedIn ltInt a0 b0 R
theorem Rest.perm {a b a0 b0 : Nat} {dk d2 d : Array Int} (h : Rest a b dk a0 b0 d) (hp : PermIn a b dk d2) : Rest a b d2 a0 b0 d := fun R h1 h2 => h R (permIn_trans _ _ _ _ _ hp h1) h2
/-- A row as it stands within [a, b). -/
structure At (w wr : World) (blk off n a b : Nat) (dk : Array Int) (a0 b0 : Nat) (d : Array Int) : Prop where
  size : dk.size = n
  row : RowU w wr blk off dk
  low : Go.Sort.Below ltInt a b dk
  rest : Rest a b dk a0 b0 d
theorem At.perm {w wr wr2 : World} {blk off n a b a0 b0 : Nat} {dk d2 d : Array Int} (h : At w wr blk off n a b dk a0 b0 d) (hb : b ≤ n) (hr : RowU wr wr2 blk off d2) (hp : PermIn a b dk d2) : At w wr2 blk off n a b d2 a0 b0 d :=
  ⟨hp.1.trans h.size, h.row.trans hr, h.low.perm (by rw [h.size]; exact hb) hp, h.rest.perm hp⟩
theorem At.finish {w wr wr2 : World} {blk off n a b a0 b0 : Nat} {dk d2 d : Array Int} (h : At w wr blk off n a b dk a0 b0 d) (hr : RowU wr wr2 blk off d2) (hp : PermIn a b dk d2) (hs : SortedIn ltInt a b d2) : SortPost w blk off d a0 b0 (.returned (.tuple #[])) wr2 := by
  obtain ⟨h1, h2⟩ := h.rest d2 hp hs
  exact ⟨d2, rfl, h.row.trans hr, h1, h2⟩
set_option maxRecDepth 100000 in
set_option maxHeartbeats 32000000 in
theorem u_pdq (blk off n cap : Nat) (hsz : n ≤ 60000) : ∀ (K a0 b0 l0 : Nat) (d : Array Int) (w : World), b0 - a0 ≤ K → Holds (Value.int .u32) w blk off d → d.size = n → a0 ≤ b0 → b0 ≤ n → l0 ≤ 100 → Go.Sort.Below ltInt a0 b0 d → blk < w.heap.size →
    Calls Tryz.prog 182 #[.slice (some ⟨blk, off, none⟩) n cap, .int .i64 a0, .int .i64 b0, .int .i64 l0] w (SortPost w blk off d a0 b0) := by
  intro K
  induction K using Nat.strongRecOn with
  | ind K ih =>
    intro a0 b0 l0 d w hK hH hn hab hb hl hB hlt
    have IH := Lib.hid ih
    have HA0 : Hid (At w w blk off n a0 b0 d a0 b0 d) := ⟨hn, RowU.start hH, hB, fun R h1 h2 => ⟨h1, h2⟩⟩
    clear ih hH hn hB
    go_enter Tryz.func182, Tryz.ntmps182
    go_upto_block 0 with fail
    go_wp2_with fail
    go_loopw [1, 2, 3, 8, 9] (fun va vb vl v8 v9 wx => ∃ (a b l : Nat) (wb wp : Bool) (dk : Array Int), va = .int .i64 (a : Int) ∧ vb = .int .i64 (b : Int) ∧ vl = .int .i64 (l : Int) ∧ v8 = .bool wb ∧ v9 = .bool wp ∧ a ≤ b ∧ b ≤ n ∧ b - a ≤ K ∧ l ≤ 100 ∧ Hid (At w wx blk off n a b dk a0 b0 d)) (fun va vb _ _ _ _ => (intOf vb - intOf va).toNat)
    case atStart => exact ⟨a0, b0, l0, true, true, d, rfl, rfl, rfl, rfl, rfl, hab, hb, hK, hl, HA0⟩
    case round =>
      clear HA0 hK hab hb hl
      obtain ⟨a, b, l, wb, wp, dk, rfl, rfl, rfl, rfl, rfl, hab, hb, hK, hl, HA⟩ := hrel
      by_cases h12 : b - a ≤ 12
      · have h12I : (b : Int) - (a : Int) ≤ 12 := by omega
        have C := Lib.hid (u_ins blk off n cap a b dk wr HA.out.row.holds HA.out.size hab hb (by omega))
        have HP := Lib.hid (insertionSort_holds swo_ltInt dk a b hab (by rw [HA.out.size]; exact hb))
        go_wp2_with (go_at_call 232; (with_reducible refine C.out.mono ?_); rintro e w2 ⟨rfl, hr⟩; have HR := Lib.hid hr; clear hr)
        go_end0
        exact HA.out.finish HR.out HP.out.1 HP.out.2
      · have h12I : (12 : Int) < (b : Int) - (a : Int) := by omega
        by_cases hl0 : l = 0
        · subst hl0
          have C0 := u_heap blk off n cap a (b - a) dk wr HA.out.row.holds HA.out.size (by omega) (by omega) hsz
          rw [show (a : Int) + ((b - a : Nat) : Int) = (b : Int) by omega, show a + (b - a) = b by omega] at C0
          have C := Lib.hid C0
          clear C0
          have HP := Lib.hid (heapSort_holds swo_ltInt dk a b hab (by rw [HA.out.size]; exact hb))
          go_wp2_with (go_at_call 233; (with_reducible refine C.out.mono ?_); rintro e w2 ⟨rfl, hr⟩; have HR := Lib.hid hr; clear hr)
          go_end0
          exact HA.out.finish HR.out HP.out.1 HP.out.2
        · have hl0I : ((l : Int) == 0) = false := by simp; omega
          have hl1 : 1 ≤ (l : Int) := by omega
          go_upto_if 35 with fail
          go_cut [3] (fun vl wx => ∃ (l2 : Nat) (d1 : Array Int), vl = .int .i64 (l2 : Int) ∧ l2 ≤ 100 ∧ Hid (At w wx blk off n a b d1 a0 b0 d))
          case first =>
            cases wb with
            | true =>
              go_wp2_with fail
              go_meet
              exact ⟨l, dk, rfl, hl, HA⟩
            | false =>
              have C0 := u_break blk off n cap a (b - a) dk wr HA.out.row.holds HA.out.size (by omega) (by omega) hsz (Nat.lt_of_lt_of_le hlt HA.out.row.grown.size)
              rw [show (a : Int) + ((b - a : Nat) : Int) = (b : Int) by omega, show a + (b - a) = b by omega] at C0
              have C := Lib.hid C0
              clear C0
              go_wp2_with (go_at_call 234; (with_reducible refine C.out.mono ?_); rintro e w2 ⟨d1, rfl, hr, hp⟩; have HA1 := Lib.hid (HA.out.perm hb hr hp); clear hr hp)
              go_meet
              exact ⟨l - 1, d1, by congr 1; omega, by omega, HA1⟩
          case rest =>
          clear HA hl hl0 hl0I hl1
          obtain ⟨l2, d1, rfl, hl2, HA⟩ := hcut
          obtain ⟨x, h, hx⟩ : ∃ x h, choosePivot ltInt d1 a b = (x, h) := ⟨_, _, rfl⟩
          have hxr := choosePivot_holds ltInt d1 a b (by omega)
          rw [hx] at hxr
          obtain ⟨hx1, hx2⟩ := hxr
          simp only at hx1 hx2
          obtain ⟨hc, hhc, hcc⟩ : ∃ hc : Int, hintCode h = hc ∧ (hc = 0 ∨ hc = 1 ∨ hc = 2) := ⟨_, rfl, by cases h <;> simp [hintCode]⟩
          have CP0 := u_pivot blk off n cap a b d1 wc HA.out.row.holds HA.out.size (by omega) hb (by omega) (Nat.lt_of_lt_of_le hlt HA.out.row.grown.size) x h hx
          rw [hhc] at CP0
          have CP := Lib.hid CP0
          clear CP0 hhc hx
          go_upto_if 50 with (go_at_call 235; (with_reducible refine CP.out.mono ?_); rintro e w2 ⟨rfl, hbl⟩; have HA2 : Hid (At w w2 blk off n a b d1 a0 b0 d) := ⟨HA.out.size, HA.out.row.below hbl hlt, HA.out.low, HA.out.rest⟩; clear hbl)
          go_cut [11, 12] (fun vp vh wx => ∃ (p : Nat) (hc : Int) (d2 : Array Int), vp = .int .i64 (p : Int) ∧ vh = .int .i64 hc ∧ a ≤ p ∧ p < b ∧ Hid (At w wx blk off n a b d2 a0 b0 d))
          case first =>
            by_cases hc2 : hc = 2
            · subst hc2
              have C := Lib.hid (u_rev blk off n cap a b d1 w2 HA2.out.row.holds HA2.out.size (by omega) hb (by omega))
              go_wp2_with (go_at_call 236; (with_reducible refine C.out.mono ?_); rintro e w3 ⟨d2, rfl, hr, hp⟩; have HA3 := Lib.hid (HA2.out.perm hb hr hp); clear hr hp)
              go_meet
              exact ⟨b - 1 - (x - a), 1, d2, by congr 1; omega, rfl, by omega, by omega, HA3⟩
            · have hc2I : (hc == 2) = false := by simpa using hc2
              go_wp2_with fail
              go_meet
              exact ⟨x, hc, d1, rfl, rfl, hx1, hx2, HA2⟩
          case rest =>
          clear HA HA2 CP hx1 hx2 hcc
          obtain ⟨p, hc, d2, rfl, rfl, hp1, hp2, HA⟩ := hcut
          go_upto_region 15 with fail
          go_cut [68] (fun v wx => ∃ c : Bool, v = .bool c ∧ Hid (At w wx blk off n a b d2 a0 b0 d))
          case first =>
            cases wb <;> cases wp
            all_goals go_wp2_with fail
            all_goals go_meet
            all_goals exact ⟨_, rfl, HA⟩
          case rest =>
          clear HA
          obtain ⟨c, rfl, HA⟩ := hcut
          go_upto_if 68 with fail
          go_cut [] (fun wx => ∃ d3 : Array Int, Hid (At w wx blk off n a b d3 a0 b0 d))
          case first =>
            cases c with
            | false =>
              go_wp2_with fail
              go_meet
              exact ⟨d2, HA⟩
            | true =>
              obtain ⟨d3, r, hr⟩ : ∃ d3 r, partialInsertionSort ltInt d2 a b = (d3, r) := ⟨_, _, rfl⟩
              have hpi := partialInsertionSort_holds swo_ltInt d2 a b (by omega) (by rw [HA.out.size]; exact hb) HA.out.low
              rw [hr] at hpi
              have HPI := Lib.hid hpi
              have C := Lib.hid (u_pins blk off n cap a b d2 d3 r wc HA.out.row.holds HA.out.size (by omega) hb hsz hr)
              clear hpi hr
              cases r with
              | true =>
                go_wp2_with (go_at_call 237; (with_reducible refine C.out.mono ?_); rintro e w2 ⟨rfl, hr⟩; have HR := Lib.hid hr; clear hr)
                go_end0
                exact HA.out.finish HR.out HPI.out.1 (HPI.out.2 (by simp))
              | false =>
                go_wp2_with (go_at_call 237; (with_reducible refine C.out.mono ?_); rintro e w2 ⟨rfl, hr⟩; have HR := Lib.hid hr; clear hr)
                go_meet
                exact ⟨d3, HA.out.perm hb HR.out HPI.out.1⟩
          case rest =>
          clear HA
          obtain ⟨d3, HA⟩ := hcut
          go_upto_region 17 with fail
          go_cut [87] (fun v wx => ∃ c : Bool, v = .bool c ∧ Hid (c = true → 0 < a ∧ ltInt d3[a - 1]! d3[p]! = false) ∧ Hid (At w wx blk off n a b d3 a0 b0 d))
          case first =>
            have hcw : ∀ t, t < n → wc.cell? ⟨blk, off + t, none⟩ = some (.int .u32 (gA d3 t)) := fun t ht => HA.out.row.cell HA.out.size ht
            by_cases ha0 : 0 < a
            · have ha0I : (0 : Int) < (a : Int) := by omega
              have haI : (a : Int) - 1 < (n : Int) := by omega
              have ha1I : 1 ≤ (a : Int) := by omega
              have hpI : (p : Int) < (n : Int) := by omega
              have haz : ((a : Int) - 1).toNat = a - 1 := by omega
              have hwr : IntKind.i64.wrap ((a : Int) - 1) = (a : Int) - 1 := IntWalk.i64_in _ (by omega)
              obtain ⟨b1, hb1⟩ : ∃ b1, ltInt (gA d3 (a - 1)) (gA d3 p) = b1 := ⟨_, rfl⟩
              have H1 := Lib.hid hb1
              clear hb1
              go_wp2_with fail
              go_quiet ((go_at_call 238; exact quiet_eq (u_lessB _ _ _ H1.out _)))
              go_wp2_with fail
              go_meet
              refine ⟨!b1, rfl, fun hh => ⟨ha0, H1.out.trans (by simpa using hh)⟩, HA.out.size, HA.out.row.drewN nq, HA.out.low, HA.out.rest⟩
            · have ha0I : ¬ (0 : Int) < (a : Int) := by omega
              have ha0D : decide ((0 : Int) < (a : Int)) = false := by simp; omega
              go_wp2_with fail
              go_quiet ((go_at_call 238; exact quiet_eq (u_less _ _ _)))
              go_wp2_with fail
              go_meet
              refine ⟨false, rfl, fun hh => (by cases hh), HA.out.size, HA.out.row.drewN nq, HA.out.low, HA.out.rest⟩
          case rest =>
          clear HA
          obtain ⟨c, rfl, HC, HA⟩ := hcut
          have hs3 : b ≤ d3.size := by rw [HA.out.size]; exact hb
          cases c with
          | true =>
            obtain ⟨mid, d4, hq⟩ : ∃ mid d4, partitionEqual ltInt d3 a b p = (mid, d4) := ⟨_, _, rfl⟩
            obtain ⟨g1, g2, g3, g4, g5⟩ := round_eq swo_ltInt (partitionEqual_holds ltInt) (HC.out rfl).1 hp1 hp2 hs3 HA.out.low (HC.out rfl).2 hq
            have C := Lib.hid (u_peq blk off n cap a b p mid d3 d4 wc HA.out.row.holds HA.out.size hp1 hp2 hb hsz hq)
            have HG := Lib.hid (show d4.size = d3.size ∧ Go.Sort.Below ltInt mid b d4 ∧ ∀ R, PermIn mid b d4 R → SortedIn ltInt mid b R → PermIn a b d3 R ∧ SortedIn ltInt a b R from ⟨g3, g4, g5⟩)
            clear hq g3 g4 g5 hs3
            go_wp2_with (go_at_call 239; (with_reducible refine C.out.mono ?_); rintro e w2 ⟨rfl, hr⟩; have HR := Lib.hid hr; clear hr)
            go_roundw
            case rel => exact ⟨mid, b, l2, wb, wp, d4, rfl, rfl, rfl, rfl, rfl, g2, hb, by omega, hl2, HG.out.1.trans HA.out.size, HA.out.row.trans HR.out, HG.out.2.1, fun R h1 h2 => (fun q => HA.out.rest R q.1 q.2) (HG.out.2.2 R h1 h2)⟩
            case measure => simp [intOf] <;> omega
          | false =>
            obtain ⟨mid, ap, d4, hq⟩ : ∃ mid ap d4, partition ltInt d3 a b p = (mid, ap, d4) := ⟨_, _, _, rfl⟩
            obtain ⟨g1, g2, g3, g4, g5, g6, g7⟩ := round_part swo_ltInt (partition_holds ltInt) hp1 hp2 hs3 HA.out.low hq
            have C := Lib.hid (u_part blk off n cap a b p mid d3 d4 wc HA.out.row.holds HA.out.size hp1 hp2 hb hsz (by rw [hq]) (by rw [hq]))
            have HG3 := Lib.hid g3
            have HG4 := Lib.hid g4
            have HG5 := Lib.hid g5
            have HG6 := Lib.hid g6
            have HG7 := Lib.hid g7
            clear hq g3 g4 g5 g6 g7 hs3
            by_cases hll : (mid : Int) - (a : Int) < (b : Int) - (mid : Int)
            · go_wp2_with (first
                | (go_at_call 240; (with_reducible refine C.out.mono ?_); rintro e w2 ⟨ap2, rfl, hr⟩; have HR := Lib.hid (HA.out.row.trans hr); clear hr)
                | (go_at_call 182; refine (IH.out (mid - a) (by omega) a mid l2 d4 w2 (Nat.le_refl _) HR.out.holds (HG3.out.trans HA.out.size) g1 (by omega) hl2 HG4.out (Nat.lt_of_lt_of_le hlt HR.out.grown.size)).mono ?_; rintro e w3 ⟨L, rfl, hr, hp, hs⟩; have HR3 := Lib.hid (HR.out.trans hr); have HL := Lib.hid (HG6.out L hp hs); have HLs := Lib.hid (hp.1.trans (HG3.out.trans HA.out.size)); clear hr hp hs))
              go_roundw
              case rel => exact ⟨mid + 1, b, l2, _, _, L, by go_num, rfl, rfl, rfl, rfl, by omega, hb, by omega, hl2, HLs.out, HR3.out, HL.out.1, fun R h1 h2 => (fun q => HA.out.rest R q.1 q.2) (HL.out.2 R h1 h2)⟩
              case measure => simp [intOf] <;> omega
            · go_wp2_with (first
                | (go_at_call 240; (with_reducible refine C.out.mono ?_); rintro e w2 ⟨ap2, rfl, hr⟩; have HR := Lib.hid (HA.out.row.trans hr); clear hr)
                | (go_at_call 182; refine (IH.out (b - (mid + 1)) (by omega) (mid + 1) b l2 d4 w2 (Nat.le_refl _) HR.out.holds (HG3.out.trans HA.out.size) (by omega) hb hl2 HG5.out (Nat.lt_of_lt_of_le hlt HR.out.grown.size)).mono ?_; rintro e w3 ⟨L, rfl, hr, hp, hs⟩; have HR3 := Lib.hid (HR.out.trans hr); have HL := Lib.hid (HG7.out L hp hs); have HLs := Lib.hid (hp.1.trans (HG3.out.trans HA.out.size)); clear hr hp hs))
              go_roundw
              case rel => exact ⟨a, mid, l2, _, _, L, rfl, rfl, rfl, rfl, rfl, g1, by omega, by omega, hl2, HLs.out, HR3.out, HL.out.1, fun R h1 h2 => (fun q => HA.out.rest R q.1 q.2) (HL.out.2 R h1 h2)⟩
              case measure => simp [intOf] <;> omega
end Go.Proofs.YtogljgiefmfafaaGreat
