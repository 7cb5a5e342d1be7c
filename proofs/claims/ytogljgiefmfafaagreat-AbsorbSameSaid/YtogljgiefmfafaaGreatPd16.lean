/- Sorting a row of uint32: insertion, a few steps. -/
import Derived.Test.YtogljgiefmfafaaGreatPd03
import Derived.Test.YtogljgiefmfafaaGreatPd15
import Derived.Sort.MapsRangeIn
import Derived.RangeFuncNested
import Derived.RangeFuncBound
import Derived.RangeFuncLeaves
import Derived.RangeFuncBox
import Derived.RangeFuncFrom
import Derived.RangeFuncOne
import Derived.Maps.AppendAt
import Derived.Shelf.Abstract
import Derived.Shelf.RegionOpen
import Derived.OwnWalkIn
import Derived.TacticsInMore
import Derived.LoopNIn
import Derived.LoopIn
namespace Go.Proofs.YtogljgiefmfafaaGreat
open Go.RowKit Go.Sort
section
variable {α : Type} [Inhabited α] (lt : α → α → Bool)
theorem k_sorted_go (d : Array α) (b i : Nat) (h1 : i < b) (h2 : lt d[i]! d[i - 1]! = false) : scanSorted lt d b i = scanSorted lt d b (i + 1) := by
 conv => lhs; rw [scanSorted]
 rw [if_pos (by simp [h1, h2])]
theorem k_sorted_end (d : Array α) (b i : Nat) (h : ¬ i < b ∨ lt d[i]! d[i - 1]! = true) : scanSorted lt d b i = i := by
 rw [scanSorted, if_neg]
 rcases h with h | h <;> simp [h]
theorem k_sorted_range (d : Array α) (b : Nat) : ∀ (k i : Nat), b - i ≤ k → i ≤ b → i ≤ scanSorted lt d b i ∧ scanSorted lt d b i ≤ b
 | 0, i, hk, hi => by rw [k_sorted_end lt d b i (.inl (by omega))]; omega
 | k + 1, i, hk, hi => by
  by_cases h : i < b
  · cases hl : lt d[i]! d[i - 1]! with
    | false =>
     rw [k_sorted_go lt d b i h hl]
     have := k_sorted_range d b k (i + 1) (by omega) (by omega)
     omega
    | true => rw [k_sorted_end lt d b i (.inr hl)]; omega
  · rw [k_sorted_end lt d b i (.inl h)]; omega
theorem k_up_go2 (b j : Nat) (d : Array α) (h1 : j < b) (h2 : lt d[j]! d[j - 1]! = true) : shiftUp lt b j d = shiftUp lt b (j + 1) (swp d j (j - 1)) := by
 conv => lhs; rw [shiftUp]
 rw [if_pos h1, h2]
 simp
theorem k_up_end2 (b j : Nat) (d : Array α) (h : ¬ j < b ∨ lt d[j]! d[j - 1]! = false) : shiftUp lt b j d = d := by
 rw [shiftUp]
 split
 · rcases h with h | h
   · contradiction
   · rw [h]; simp
 · rfl
theorem k_dn_go2 (t : Nat) (d : Array α) (h2 : lt d[t + 1]! d[t]! = true) : shiftDown lt (t + 1) d = shiftDown lt t (swp d (t + 1) t) := by
 rw [shiftDown, h2]
 simp
theorem k_dn_end2 (t : Nat) (d : Array α) (h2 : lt d[t + 1]! d[t]! = false) : shiftDown lt (t + 1) d = d := by
 rw [shiftDown, h2]
 simp
end
def Inserted (w : World) (blk off : Nat) (d : Array Int) (r : Bool) (e : Ending) (w' : World) : Prop := e = .returned (.bool r) ∧ RowU w w' blk off d
set_option maxRecDepth 100000 in
set_option maxHeartbeats 16000000 in
theorem u_pins (blk off n cap a b : Nat) (d d' : Array Int) (r : Bool) (w : World) (hH : Holds (Value.int .u32) w blk off d) (hn : d.size = n) (hab : a < b) (hb : b ≤ n) (hsz : n ≤ 60000) (hr : partialInsertionSort ltInt d a b = (d', r)) :
  Calls Tryz.prog 237 #[.slice (some ⟨blk, off, none⟩) n cap, .int .i64 a, .int .i64 b] w (Inserted w blk off d' r) := by
 have HR := Lib.hid (RowU.start hH)
 have HS : Hid (d.size = n) := hn
 unfold partialInsertionSort at hr
 have HG : Hid (partialIns ltInt a b 5 (a + 1) d = (d', r)) := hr
 clear hH hn hr
 go_enter Tryz.func237, Tryz.ntmps237
 go_upto_block 0 with fail
 go_wp2_with fail
 go_loopw [7, 8] (fun vi vk wx => ∃ (i k s : Nat) (dk : Array Int), vi = .int .i64 (i : Int) ∧ vk = .int .i64 (k : Int) ∧ k + s = 5 ∧ a < i ∧ i ≤ b ∧ Hid (dk.size = n) ∧ Hid (RowU w wx blk off dk) ∧ Hid (partialIns ltInt a b s i dk = (d', r))) (fun _ vk _ => (5 - intOf vk).toNat)
 case atStart => exact ⟨a + 1, 0, 5, d, by first | rfl | (congr 1; omega), rfl, rfl, by omega, by omega, HS, HR, HG⟩
 case round =>
  clear HR HS HG
  obtain ⟨i, k, s, dk, rfl, rfl, hks, hai, hib, HS, HR, HG⟩ := hrel
  cases s with
  | zero =>
   obtain rfl : k = 5 := by omega
   have HM : Hid (dk = d' ∧ false = r) := by
    have e := HG.out
    rw [partialIns] at e
    injection e with e1 e2
    exact ⟨e1, e2⟩
   go_wp2_with fail
   go_ret
   obtain ⟨rfl, rfl⟩ := HM.out
   exact ⟨rfl, HR.out⟩
  | succ s =>
   have hk5 : (k : Int) < 5 := by omega
   obtain ⟨i2, hi2⟩ : ∃ i2, scanSorted ltInt dk b i = i2 := ⟨_, rfl⟩
   have hrg := k_sorted_range ltInt dk b (b - i) i (Nat.le_refl _) hib
   rw [hi2] at hrg
   obtain ⟨hr1, hr2⟩ := hrg
   have HT := Lib.hid hi2
   clear hi2
   go_upto_block 2 with fail
   go_cut [7] (fun v wx => v = .int .i64 (i2 : Int) ∧ Hid (RowU w wx blk off dk))
   case first =>
    go_wp2_with fail
    go_loopw [7] (fun v wx => ∃ t : Nat, v = .int .i64 (t : Int) ∧ i ≤ t ∧ t ≤ b ∧ Hid (RowU w wx blk off dk) ∧ Hid (scanSorted ltInt dk b t = i2)) (fun v _ => b - (intOf v).toNat)
    case atStart => exact ⟨i, rfl, Nat.le_refl _, hib, HR, HT⟩
    case round =>
     obtain ⟨t, rfl, h1, h2, HR, HT⟩ := hrel
     have hcw : ∀ t, t < n → wr.cell? ⟨blk, off + t, none⟩ = some (.int .u32 (gA dk t)) := fun t ht => HR.out.cell HS.out ht
     by_cases hle : t < b
     · have hleI : (t : Int) < (b : Int) := by omega
       have htn : (t : Int) < (n : Int) := by omega
       have htn1 : (t : Int) - 1 < (n : Int) := by omega
       have ht1 : 1 ≤ (t : Int) := by omega
       have htz : ((t : Int) - 1).toNat = t - 1 := by omega
       have hwr : IntKind.i64.wrap ((t : Int) - 1) = (t : Int) - 1 := IntWalk.i64_in _ (by omega)
       obtain ⟨b1, hb1⟩ : ∃ b1, ltInt (gA dk t) (gA dk (t - 1)) = b1 := ⟨_, rfl⟩
       have H1 := Lib.hid hb1
       clear hb1
       cases b1 with
       | false =>
        go_wp2_with fail
        go_quiet ((go_at_call 238; exact quiet_eq (u_lessB _ _ _ H1.out _)))
        go_wp2_with fail
        go_roundw
        case rel => exact ⟨t + 1, by go_num, by omega, by omega, HR.out.drewN nq, (k_sorted_go ltInt dk b t hle H1.out).symm.trans HT.out⟩
        case measure => simp [intOf] <;> omega
       | true =>
        go_wp2_with fail
        go_quiet ((go_at_call 238; exact quiet_eq (u_lessB _ _ _ H1.out _)))
        go_wp2_with fail
        go_meet
        exact ⟨by rw [← (k_sorted_end ltInt dk b t (.inr H1.out)).symm.trans HT.out], HR.out.drewN nq⟩
     · have hleI : (b : Int) ≤ (t : Int) := by omega
       have hleD : decide ((t : Int) < (b : Int)) = false := by simp; omega
       go_wp2_with fail
       go_quiet ((go_at_call 238; exact quiet_eq (u_less _ _ _)))
       go_wp2_with fail
       go_meet
       exact ⟨by rw [← (k_sorted_end ltInt dk b t (.inl hle)).symm.trans HT.out], HR.out.drewN nq⟩
   case rest =>
   obtain ⟨rfl, HR⟩ := hcut
   have HG2 : Hid ((if i2 = b then (dk, true) else if b - a < 50 then (dk, false) else partialIns ltInt a b s i2 (fixUp ltInt b i2 (fixDown ltInt a i2 (swp dk i2 (i2 - 1))))) = (d', r)) := by
    have e := HG.out
    rw [partialIns_succ, HT.out] at e
    exact e
   clear HG HT
   by_cases he : i2 = b
   · have HM : Hid (dk = d' ∧ true = r) := by
      have e := HG2.out
      rw [if_pos he] at e
      injection e with e1 e2
      exact ⟨e1, e2⟩
     have heI : ((i2 : Int) == (b : Int)) = true := by simp; omega
     subst he
     go_wp2_with fail
     go_ret
     obtain ⟨rfl, rfl⟩ := HM.out
     exact ⟨rfl, HR.out⟩
   · have heI : ((i2 : Int) == (b : Int)) = false := by simp; omega
     by_cases h50 : b - a < 50
     · have HM : Hid (dk = d' ∧ false = r) := by
        have e := HG2.out
        rw [if_neg he, if_pos h50] at e
        injection e with e1 e2
        exact ⟨e1, e2⟩
       have h50I : (b : Int) - (a : Int) < 50 := by omega
       go_wp2_with fail
       go_ret
       obtain ⟨rfl, rfl⟩ := HM.out
       exact ⟨rfl, HR.out⟩
     · have HG3 : Hid (partialIns ltInt a b s i2 (fixUp ltInt b i2 (fixDown ltInt a i2 (swp dk i2 (i2 - 1)))) = (d', r)) := by
        have e := HG2.out
        rw [if_neg he, if_neg h50] at e
        exact e
       have h50I : (50 : Int) ≤ (b : Int) - (a : Int) := by omega
       have hi2n : i2 < b := by omega
       clear HG2
       have hcw : ∀ t, t < n → wc.cell? ⟨blk, off + t, none⟩ = some (.int .u32 (gA dk t)) := fun t ht => HR.out.cell HS.out ht
       have hfw : ∀ t, t < n → wc.frozen? ⟨blk, off + t, none⟩ = false := fun t ht => HR.out.frozen HS.out ht
       have htn : (i2 : Int) < (n : Int) := by omega
       have htn1 : (i2 : Int) - 1 < (n : Int) := by omega
       have ht1 : 1 ≤ (i2 : Int) := by omega
       have htz : ((i2 : Int) - 1).toNat = i2 - 1 := by omega
       go_upto_region 11 with fail
       go_cut [] (fun wx => Hid (RowU w wx blk off (swp dk i2 (i2 - 1))))
       case first =>
        go_region
        all_goals go_wp2_with fail
        go_meet
        have hh := HR.out.swap 1 i2 (i2 - 1) (by rw [HS.out]; omega) (by rw [HS.out]; omega)
        exact hh
       case rest =>
       have HS1 : Hid ((swp dk i2 (i2 - 1)).size = n) := (size_swp _ _ _).trans HS.out
       clear HR HS hcw hfw
       generalize swp dk i2 (i2 - 1) = dk2 at *
       have HR := hcut
       have HS := HS1
       clear hcut HS1
       go_upto_if 61 with fail
       go_cut [] (fun wx => Hid (RowU w wx blk off (fixDown ltInt a i2 dk2)) ∧ Hid ((fixDown ltInt a i2 dk2).size = n))
       case first =>
        by_cases h2 : 2 ≤ i2 - a
        · have h2I : (2 : Int) ≤ (i2 : Int) - (a : Int) := by omega
          have HF : Hid (fixDown ltInt a i2 dk2 = shiftDown ltInt (i2 - 1) dk2) := by show _ = _; unfold fixDown; rw [if_pos h2]
          go_wp2_with fail
          go_loopw [9] (fun v wx => ∃ (j : Nat) (dj : Array Int), v = .int .i64 (j : Int) ∧ j < i2 ∧ Hid (dj.size = n) ∧ Hid (RowU w wx blk off dj) ∧ Hid (shiftDown ltInt j dj = fixDown ltInt a i2 dk2)) (fun v _ => (intOf v).toNat)
          case atStart => exact ⟨i2 - 1, dk2, by first | rfl | (congr 1; omega), by omega, HS, HR, HF.out.symm⟩
          case round =>
           obtain ⟨j, dj, rfl, hj, HS2, HR2, HQ⟩ := hrel
           have hcw : ∀ t, t < n → wr.cell? ⟨blk, off + t, none⟩ = some (.int .u32 (gA dj t)) := fun t ht => HR2.out.cell HS2.out ht
           have hfw : ∀ t, t < n → wr.frozen? ⟨blk, off + t, none⟩ = false := fun t ht => HR2.out.frozen HS2.out ht
           cases j with
           | zero =>
            go_wp2_with fail
            go_meet
            have e : dj = fixDown ltInt a i2 dk2 := HQ.out
            rw [← e]
            exact ⟨HR2, HS2⟩
           | succ t =>
            have hjn : (t : Int) + 1 < (n : Int) := by omega
            have hjn2 : (t : Int) < (n : Int) := by omega
            obtain ⟨b1, hb1⟩ : ∃ b1, ltInt (gA dj (t + 1)) (gA dj t) = b1 := ⟨_, rfl⟩
            have H1 := Lib.hid hb1
            clear hb1
            cases b1 with
            | false =>
             go_wp2_with fail
             go_quiet ((go_at_call 238; exact quiet_eq (u_lessB _ _ _ H1.out _)))
             go_wp2_with fail
             go_meet
             have e : dj = fixDown ltInt a i2 dk2 := (k_dn_end2 ltInt t dj H1.out).symm.trans HQ.out
             rw [← e]
             exact ⟨HR2.out.drewN nq, HS2⟩
            | true =>
             go_wp2_with fail
             go_quiet ((go_at_call 238; exact quiet_eq (u_lessB _ _ _ H1.out _)))
             have HR3 := Lib.hid (HR2.out.drewN nq)
             generalize wr.drewN nq = w2 at *
             have hcw : ∀ t, t < n → w2.cell? ⟨blk, off + t, none⟩ = some (.int .u32 (gA dj t)) := fun t ht => HR3.out.cell HS2.out ht
             have hfw : ∀ t, t < n → w2.frozen? ⟨blk, off + t, none⟩ = false := fun t ht => HR3.out.frozen HS2.out ht
             have hh := Lib.hid (HR3.out.swap 1 (t + 1) t (by rw [HS2.out]; omega) (by rw [HS2.out]; omega))
             go_wp2_with fail
             go_region
             all_goals go_wp2_with fail
             go_roundw
             case rel => exact ⟨t, swp dj (t + 1) t, by first | rfl | (congr 1; omega), by omega, (size_swp _ _ _).trans HS2.out, hh.out, (k_dn_go2 ltInt t dj H1.out).symm.trans HQ.out⟩
             case measure => simp [intOf] <;> omega
        · have h2I : (i2 : Int) - (a : Int) < 2 := by omega
          have HF : Hid (fixDown ltInt a i2 dk2 = dk2) := by show _ = _; unfold fixDown; rw [if_neg h2]
          go_wp2_with fail
          go_meet
          rw [HF.out]
          exact ⟨HR, HS⟩
       case rest =>
       clear HR HS
       generalize fixDown ltInt a i2 dk2 = dk3 at *
       obtain ⟨HR, HS⟩ := hcut
       by_cases h2 : 2 ≤ b - i2
       · have h2I : (2 : Int) ≤ (b : Int) - (i2 : Int) := by omega
         have HF : Hid (fixUp ltInt b i2 dk3 = shiftUp ltInt b (i2 + 1) dk3) := by show _ = _; unfold fixUp; rw [if_pos h2]
         go_wp2_with fail
         go_loopw [10] (fun v wx => ∃ (j : Nat) (dj : Array Int), v = .int .i64 (j : Int) ∧ i2 < j ∧ j ≤ b ∧ Hid (dj.size = n) ∧ Hid (RowU w wx blk off dj) ∧ Hid (shiftUp ltInt b j dj = fixUp ltInt b i2 dk3)) (fun v _ => b - (intOf v).toNat)
         case atStart => exact ⟨i2 + 1, dk3, by first | rfl | (congr 1; omega), by omega, by omega, HS, HR, HF.out.symm⟩
         case round =>
          obtain ⟨j, dj, rfl, hj1, hj2, HS2, HR2, HQ⟩ := hrel
          have hcw : ∀ t, t < n → wr.cell? ⟨blk, off + t, none⟩ = some (.int .u32 (gA dj t)) := fun t ht => HR2.out.cell HS2.out ht
          have hfw : ∀ t, t < n → wr.frozen? ⟨blk, off + t, none⟩ = false := fun t ht => HR2.out.frozen HS2.out ht
          by_cases hjb : j < b
          · have hjbI : (j : Int) < (b : Int) := by omega
            have hjn : (j : Int) < (n : Int) := by omega
            have hjn1 : (j : Int) - 1 < (n : Int) := by omega
            have hj0 : 1 ≤ (j : Int) := by omega
            have hjz : ((j : Int) - 1).toNat = j - 1 := by omega
            obtain ⟨b1, hb1⟩ : ∃ b1, ltInt (gA dj j) (gA dj (j - 1)) = b1 := ⟨_, rfl⟩
            have H1 := Lib.hid hb1
            clear hb1
            have hwr : IntKind.i64.wrap ((j : Int) - 1) = (j : Int) - 1 := IntWalk.i64_in _ (by omega)
            cases b1 with
            | false =>
             go_wp2_with fail
             go_quiet ((go_at_call 238; exact quiet_eq (u_lessB _ _ _ H1.out _)))
             have e : dj = fixUp ltInt b i2 dk3 := (k_up_end2 ltInt b j dj (.inr H1.out)).symm.trans HQ.out
             have HG4 : Hid (partialIns ltInt a b s i2 dj = (d', r)) := by rw [e]; exact HG3
             clear e
             go_wp2_with fail
             go_roundw
             case rel => exact ⟨i2, k + 1, s, dj, rfl, by go_num, by omega, by omega, hr2, HS2, HR2.out.drewN nq, HG4⟩
             case measure => simp [intOf] <;> omega
            | true =>
             go_wp2_with fail
             go_quiet ((go_at_call 238; exact quiet_eq (u_lessB _ _ _ H1.out _)))
             clear hwr
             have HR3 := Lib.hid (HR2.out.drewN nq)
             generalize wr.drewN nq = w2 at *
             have hcw : ∀ t, t < n → w2.cell? ⟨blk, off + t, none⟩ = some (.int .u32 (gA dj t)) := fun t ht => HR3.out.cell HS2.out ht
             have hfw : ∀ t, t < n → w2.frozen? ⟨blk, off + t, none⟩ = false := fun t ht => HR3.out.frozen HS2.out ht
             have hh := Lib.hid (HR3.out.swap 1 j (j - 1) (by rw [HS2.out]; omega) (by rw [HS2.out]; omega))
             go_wp2_with fail
             go_region
             all_goals go_wp2_with fail
             go_roundw
             case rel => exact ⟨j + 1, swp dj j (j - 1), by go_num, by omega, by omega, (size_swp _ _ _).trans HS2.out, hh.out, (k_up_go2 ltInt b j dj hjb H1.out).symm.trans HQ.out⟩
             case measure => simp [intOf] <;> omega
          · have hjbI : (b : Int) ≤ (j : Int) := by omega
            have e : dj = fixUp ltInt b i2 dk3 := (k_up_end2 ltInt b j dj (.inl hjb)).symm.trans HQ.out
            have HG4 : Hid (partialIns ltInt a b s i2 dj = (d', r)) := by rw [e]; exact HG3
            clear e
            go_wp2_with fail
            go_roundw
            case rel => exact ⟨i2, k + 1, s, dj, rfl, by go_num, by omega, by omega, hr2, HS2, HR2, HG4⟩
            case measure => simp [intOf] <;> omega
       · have h2I : (b : Int) - (i2 : Int) < 2 := by omega
         have HF : Hid (fixUp ltInt b i2 dk3 = dk3) := by show _ = _; unfold fixUp; rw [if_neg h2]
         have HG4 : Hid (partialIns ltInt a b s i2 dk3 = (d', r)) := by rw [← HF.out]; exact HG3
         go_wp2_with fail
         go_roundw
         case rel => exact ⟨i2, k + 1, s, dk3, rfl, by go_num, by omega, by omega, hr2, HS, HR, HG4⟩
         case measure => simp [intOf] <;> omega
end Go.Proofs.YtogljgiefmfafaaGreat
namespace Go.Proofs.YtogljgiefmfafaaGreat
open Go.RowKit Go.Sort
theorem RowU.below {w w1 w2 : World} {blk off : Nat} {d : Array Int} (h : RowU w w1 blk off d) (hb : RowKit.Below w1.heap.size w1 w2) (hlt : blk < w.heap.size) : RowU w w2 blk off d := by
 have hl1 : blk < w1.heap.size := Nat.lt_of_lt_of_le hlt h.grown.size
 refine ⟨fun j hj => ?_, pgrown_trans h.grown (pgrown_below hb _)⟩
 obtain ⟨h1, h2⟩ := h.holds j hj
 have e := hb.block blk hl1
 exact ⟨(World.cell?_of_block e).trans h1, by
  unfold World.frozen? at h2 ⊢
  rw [e]
  exact h2⟩
def SortPost (w : World) (blk off : Nat) (d : Array Int) (a b : Nat) (e : Ending) (w' : World) : Prop := ∃ d', e = .returned (.tuple #[]) ∧ RowU w w' blk off d' ∧ PermIn a b d d' ∧ SortedIn ltInt a b d'
def Rest (a b : Nat) (dk : Array Int) (a0 b0 : Nat) (d : Array Int) : Prop := ∀ R, PermIn a b dk R → SortedIn ltInt a b R → PermIn a0 b0 d R ∧ SortedIn ltInt a0 b0 R
theorem Rest.perm {a b a0 b0 : Nat} {dk d2 d : Array Int} (h : Rest a b dk a0 b0 d) (hp : PermIn a b dk d2) : Rest a b d2 a0 b0 d := fun R h1 h2 => h R (permIn_trans _ _ _ _ _ hp h1) h2
structure At (w wr : World) (blk off n a b : Nat) (dk : Array Int) (a0 b0 : Nat) (d : Array Int) : Prop where
 size : dk.size = n
 row : RowU w wr blk off dk
 low : Go.Sort.Below ltInt a b dk
 rest : Rest a b dk a0 b0 d
theorem At.perm {w wr wr2 : World} {blk off n a b a0 b0 : Nat} {dk d2 d : Array Int} (h : At w wr blk off n a b dk a0 b0 d) (hb : b ≤ n) (hr : RowU wr wr2 blk off d2) (hp : PermIn a b dk d2) : At w wr2 blk off n a b d2 a0 b0 d :=
 ⟨hp.1.trans h.size, h.row.trans hr, h.low.perm (by rw [h.size]; exact hb) hp, h.rest.perm hp⟩
theorem At.finish {w wr wr2 : World} {blk off n a b a0 b0 : Nat} {dk d2 d : Array Int} (h : At w wr blk off n a b dk a0 b0 d) (hr : RowU wr wr2 blk off d2) (hp : PermIn a b dk d2) (hs : SortedIn ltInt a b d2) : SortPost w blk off d a0 b0 (.returned (.tuple #[])) wr2 := by
 obtain ⟨h1, h2⟩ := h.rest d2 hp hs
 exact ⟨d2, rfl, h.row.trans hr, h1, h2⟩
set_option maxRecDepth 100000 in
set_option maxHeartbeats 32000000 in
theorem u_pdq (blk off n cap : Nat) (hsz : n ≤ 60000) : ∀ (K a0 b0 l0 : Nat) (d : Array Int) (w : World), b0 - a0 ≤ K → Holds (Value.int .u32) w blk off d → d.size = n → a0 ≤ b0 → b0 ≤ n → l0 ≤ 100 → Go.Sort.Below ltInt a0 b0 d → blk < w.heap.size →
  Calls Tryz.prog 182 #[.slice (some ⟨blk, off, none⟩) n cap, .int .i64 a0, .int .i64 b0, .int .i64 l0] w (SortPost w blk off d a0 b0) := by
 intro K
 induction K using Nat.strongRecOn with
 | ind K ih =>
  intro a0 b0 l0 d w hK hH hn hab hb hl hB hlt
  have IH := Lib.hid ih
  have HA0 : Hid (At w w blk off n a0 b0 d a0 b0 d) := ⟨hn, RowU.start hH, hB, fun R h1 h2 => ⟨h1, h2⟩⟩
  clear ih hH hn hB
  go_enter Tryz.func182, Tryz.ntmps182
  go_upto_block 0 with fail
  go_wp2_with fail
  go_loopw [1, 2, 3, 8, 9] (fun va vb vl v8 v9 wx => ∃ (a b l : Nat) (wb wp : Bool) (dk : Array Int), va = .int .i64 (a : Int) ∧ vb = .int .i64 (b : Int) ∧ vl = .int .i64 (l : Int) ∧ v8 = .bool wb ∧ v9 = .bool wp ∧ a ≤ b ∧ b ≤ n ∧ b - a ≤ K ∧ l ≤ 100 ∧ Hid (At w wx blk off n a b dk a0 b0 d)) (fun va vb _ _ _ _ => (intOf vb - intOf va).toNat)
  case atStart => exact ⟨a0, b0, l0, true, true, d, rfl, rfl, rfl, rfl, rfl, hab, hb, hK, hl, HA0⟩
  case round =>
   clear HA0 hK hab hb hl
   obtain ⟨a, b, l, wb, wp, dk, rfl, rfl, rfl, rfl, rfl, hab, hb, hK, hl, HA⟩ := hrel
   by_cases h12 : b - a ≤ 12
   · have h12I : (b : Int) - (a : Int) ≤ 12 := by omega
     have C := Lib.hid (u_ins blk off n cap a b dk wr HA.out.row.holds HA.out.size hab hb (by omega))
     have HP := Lib.hid (insertionSort_holds swo_ltInt dk a b hab (by rw [HA.out.size]; exact hb))
     go_wp2_with (go_at_call 232; (with_reducible refine C.out.mono ?_); rintro e w2 ⟨rfl, hr⟩; have HR := Lib.hid hr; clear hr)
     go_end0
     exact HA.out.finish HR.out HP.out.1 HP.out.2
   · have h12I : (12 : Int) < (b : Int) - (a : Int) := by omega
     by_cases hl0 : l = 0
     · subst hl0
       have C0 := u_heap blk off n cap a (b - a) dk wr HA.out.row.holds HA.out.size (by omega) (by omega) hsz
       rw [show (a : Int) + ((b - a : Nat) : Int) = (b : Int) by omega, show a + (b - a) = b by omega] at C0
       have C := Lib.hid C0
       clear C0
       have HP := Lib.hid (heapSort_holds swo_ltInt dk a b hab (by rw [HA.out.size]; exact hb))
       go_wp2_with (go_at_call 233; (with_reducible refine C.out.mono ?_); rintro e w2 ⟨rfl, hr⟩; have HR := Lib.hid hr; clear hr)
       go_end0
       exact HA.out.finish HR.out HP.out.1 HP.out.2
     · have hl0I : ((l : Int) == 0) = false := by simp; omega
       have hl1 : 1 ≤ (l : Int) := by omega
       go_upto_if 35 with fail
       go_cut [3] (fun vl wx => ∃ (l2 : Nat) (d1 : Array Int), vl = .int .i64 (l2 : Int) ∧ l2 ≤ 100 ∧ Hid (At w wx blk off n a b d1 a0 b0 d))
       case first =>
        cases wb with
        | true =>
         go_wp2_with fail
         go_meet
         exact ⟨l, dk, rfl, hl, HA⟩
        | false =>
         have C0 := u_break blk off n cap a (b - a) dk wr HA.out.row.holds HA.out.size (by omega) (by omega) hsz (Nat.lt_of_lt_of_le hlt HA.out.row.grown.size)
         rw [show (a : Int) + ((b - a : Nat) : Int) = (b : Int) by omega, show a + (b - a) = b by omega] at C0
         have C := Lib.hid C0
         clear C0
         go_wp2_with (go_at_call 234; (with_reducible refine C.out.mono ?_); rintro e w2 ⟨d1, rfl, hr, hp⟩; have HA1 := Lib.hid (HA.out.perm hb hr hp); clear hr hp)
         go_meet
         exact ⟨l - 1, d1, by congr 1; omega, by omega, HA1⟩
       case rest =>
       clear HA hl hl0 hl0I hl1
       obtain ⟨l2, d1, rfl, hl2, HA⟩ := hcut
       obtain ⟨x, h, hx⟩ : ∃ x h, choosePivot ltInt d1 a b = (x, h) := ⟨_, _, rfl⟩
       have hxr := choosePivot_holds ltInt d1 a b (by omega)
       rw [hx] at hxr
       obtain ⟨hx1, hx2⟩ := hxr
       simp only at hx1 hx2
       obtain ⟨hc, hhc, hcc⟩ : ∃ hc : Int, hintCode h = hc ∧ (hc = 0 ∨ hc = 1 ∨ hc = 2) := ⟨_, rfl, by cases h <;> simp [hintCode]⟩
       have CP0 := u_pivot blk off n cap a b d1 wc HA.out.row.holds HA.out.size (by omega) hb (by omega) (Nat.lt_of_lt_of_le hlt HA.out.row.grown.size) x h hx
       rw [hhc] at CP0
       have CP := Lib.hid CP0
       clear CP0 hhc hx
       go_upto_if 50 with (go_at_call 235; (with_reducible refine CP.out.mono ?_); rintro e w2 ⟨rfl, hbl⟩; have HA2 : Hid (At w w2 blk off n a b d1 a0 b0 d) := ⟨HA.out.size, HA.out.row.below hbl hlt, HA.out.low, HA.out.rest⟩; clear hbl)
       go_cut [11, 12] (fun vp vh wx => ∃ (p : Nat) (hc : Int) (d2 : Array Int), vp = .int .i64 (p : Int) ∧ vh = .int .i64 hc ∧ a ≤ p ∧ p < b ∧ Hid (At w wx blk off n a b d2 a0 b0 d))
       case first =>
        by_cases hc2 : hc = 2
        · subst hc2
          have C := Lib.hid (u_rev blk off n cap a b d1 w2 HA2.out.row.holds HA2.out.size (by omega) hb (by omega))
          go_wp2_with (go_at_call 236; (with_reducible refine C.out.mono ?_); rintro e w3 ⟨d2, rfl, hr, hp⟩; have HA3 := Lib.hid (HA2.out.perm hb hr hp); clear hr hp)
          go_meet
          exact ⟨b - 1 - (x - a), 1, d2, by congr 1; omega, rfl, by omega, by omega, HA3⟩
        · have hc2I : (hc == 2) = false := by simpa using hc2
          go_wp2_with fail
          go_meet
          exact ⟨x, hc, d1, rfl, rfl, hx1, hx2, HA2⟩
       case rest =>
       clear HA HA2 CP hx1 hx2 hcc
       obtain ⟨p, hc, d2, rfl, rfl, hp1, hp2, HA⟩ := hcut
       go_upto_region 15 with fail
       go_cut [68] (fun v wx => ∃ c : Bool, v = .bool c ∧ Hid (At w wx blk off n a b d2 a0 b0 d))
       case first =>
        cases wb <;> cases wp
        all_goals go_wp2_with fail
        all_goals go_meet
        all_goals exact ⟨_, rfl, HA⟩
       case rest =>
       clear HA
       obtain ⟨c, rfl, HA⟩ := hcut
       go_upto_if 68 with fail
       go_cut [] (fun wx => ∃ d3 : Array Int, Hid (At w wx blk off n a b d3 a0 b0 d))
       case first =>
        cases c with
        | false =>
         go_wp2_with fail
         go_meet
         exact ⟨d2, HA⟩
        | true =>
         obtain ⟨d3, r, hr⟩ : ∃ d3 r, partialInsertionSort ltInt d2 a b = (d3, r) := ⟨_, _, rfl⟩
         have hpi := partialInsertionSort_holds swo_ltInt d2 a b (by omega) (by rw [HA.out.size]; exact hb) HA.out.low
         rw [hr] at hpi
         have HPI := Lib.hid hpi
         have C := Lib.hid (u_pins blk off n cap a b d2 d3 r wc HA.out.row.holds HA.out.size (by omega) hb hsz hr)
         clear hpi hr
         cases r with
         | true =>
          go_wp2_with (go_at_call 237; (with_reducible refine C.out.mono ?_); rintro e w2 ⟨rfl, hr⟩; have HR := Lib.hid hr; clear hr)
          go_end0
          exact HA.out.finish HR.out HPI.out.1 (HPI.out.2 (by simp))
         | false =>
          go_wp2_with (go_at_call 237; (with_reducible refine C.out.mono ?_); rintro e w2 ⟨rfl, hr⟩; have HR := Lib.hid hr; clear hr)
          go_meet
          exact ⟨d3, HA.out.perm hb HR.out HPI.out.1⟩
       case rest =>
       clear HA
       obtain ⟨d3, HA⟩ := hcut
       go_upto_region 17 with fail
       go_cut [87] (fun v wx => ∃ c : Bool, v = .bool c ∧ Hid (c = true → 0 < a ∧ ltInt d3[a - 1]! d3[p]! = false) ∧ Hid (At w wx blk off n a b d3 a0 b0 d))
       case first =>
        have hcw : ∀ t, t < n → wc.cell? ⟨blk, off + t, none⟩ = some (.int .u32 (gA d3 t)) := fun t ht => HA.out.row.cell HA.out.size ht
        by_cases ha0 : 0 < a
        · have ha0I : (0 : Int) < (a : Int) := by omega
          have haI : (a : Int) - 1 < (n : Int) := by omega
          have ha1I : 1 ≤ (a : Int) := by omega
          have hpI : (p : Int) < (n : Int) := by omega
          have haz : ((a : Int) - 1).toNat = a - 1 := by omega
          have hwr : IntKind.i64.wrap ((a : Int) - 1) = (a : Int) - 1 := IntWalk.i64_in _ (by omega)
          obtain ⟨b1, hb1⟩ : ∃ b1, ltInt (gA d3 (a - 1)) (gA d3 p) = b1 := ⟨_, rfl⟩
          have H1 := Lib.hid hb1
          clear hb1
          go_wp2_with fail
          go_quiet ((go_at_call 238; exact quiet_eq (u_lessB _ _ _ H1.out _)))
          go_wp2_with fail
          go_meet
          refine ⟨!b1, rfl, fun hh => ⟨ha0, H1.out.trans (by simpa using hh)⟩, HA.out.size, HA.out.row.drewN nq, HA.out.low, HA.out.rest⟩
        · have ha0I : ¬ (0 : Int) < (a : Int) := by omega
          have ha0D : decide ((0 : Int) < (a : Int)) = false := by simp; omega
          go_wp2_with fail
          go_quiet ((go_at_call 238; exact quiet_eq (u_less _ _ _)))
          go_wp2_with fail
          go_meet
          refine ⟨false, rfl, fun hh => (by cases hh), HA.out.size, HA.out.row.drewN nq, HA.out.low, HA.out.rest⟩
       case rest =>
       clear HA
       obtain ⟨c, rfl, HC, HA⟩ := hcut
       have hs3 : b ≤ d3.size := by rw [HA.out.size]; exact hb
       cases c with
       | true =>
        obtain ⟨mid, d4, hq⟩ : ∃ mid d4, partitionEqual ltInt d3 a b p = (mid, d4) := ⟨_, _, rfl⟩
        obtain ⟨g1, g2, g3, g4, g5⟩ := round_eq swo_ltInt (partitionEqual_holds ltInt) (HC.out rfl).1 hp1 hp2 hs3 HA.out.low (HC.out rfl).2 hq
        have C := Lib.hid (u_peq blk off n cap a b p mid d3 d4 wc HA.out.row.holds HA.out.size hp1 hp2 hb hsz hq)
        have HG := Lib.hid (show d4.size = d3.size ∧ Go.Sort.Below ltInt mid b d4 ∧ ∀ R, PermIn mid b d4 R → SortedIn ltInt mid b R → PermIn a b d3 R ∧ SortedIn ltInt a b R from ⟨g3, g4, g5⟩)
        clear hq g3 g4 g5 hs3
        go_wp2_with (go_at_call 239; (with_reducible refine C.out.mono ?_); rintro e w2 ⟨rfl, hr⟩; have HR := Lib.hid hr; clear hr)
        go_roundw
        case rel => exact ⟨mid, b, l2, wb, wp, d4, rfl, rfl, rfl, rfl, rfl, g2, hb, by omega, hl2, HG.out.1.trans HA.out.size, HA.out.row.trans HR.out, HG.out.2.1, fun R h1 h2 => (fun q => HA.out.rest R q.1 q.2) (HG.out.2.2 R h1 h2)⟩
        case measure => simp [intOf] <;> omega
       | false =>
        obtain ⟨mid, ap, d4, hq⟩ : ∃ mid ap d4, partition ltInt d3 a b p = (mid, ap, d4) := ⟨_, _, _, rfl⟩
        obtain ⟨g1, g2, g3, g4, g5, g6, g7⟩ := round_part swo_ltInt (partition_holds ltInt) hp1 hp2 hs3 HA.out.low hq
        have C := Lib.hid (u_part blk off n cap a b p mid d3 d4 wc HA.out.row.holds HA.out.size hp1 hp2 hb hsz (by rw [hq]) (by rw [hq]))
        have HG3 := Lib.hid g3
        have HG4 := Lib.hid g4
        have HG5 := Lib.hid g5
        have HG6 := Lib.hid g6
        have HG7 := Lib.hid g7
        clear hq g3 g4 g5 g6 g7 hs3
        by_cases hll : (mid : Int) - (a : Int) < (b : Int) - (mid : Int)
        · go_wp2_with (first
           | (go_at_call 240; (with_reducible refine C.out.mono ?_); rintro e w2 ⟨ap2, rfl, hr⟩; have HR := Lib.hid (HA.out.row.trans hr); clear hr)
           | (go_at_call 182; refine (IH.out (mid - a) (by omega) a mid l2 d4 w2 (Nat.le_refl _) HR.out.holds (HG3.out.trans HA.out.size) g1 (by omega) hl2 HG4.out (Nat.lt_of_lt_of_le hlt HR.out.grown.size)).mono ?_; rintro e w3 ⟨L, rfl, hr, hp, hs⟩; have HR3 := Lib.hid (HR.out.trans hr); have HL := Lib.hid (HG6.out L hp hs); have HLs := Lib.hid (hp.1.trans (HG3.out.trans HA.out.size)); clear hr hp hs))
          go_roundw
          case rel => exact ⟨mid + 1, b, l2, _, _, L, by go_num, rfl, rfl, rfl, rfl, by omega, hb, by omega, hl2, HLs.out, HR3.out, HL.out.1, fun R h1 h2 => (fun q => HA.out.rest R q.1 q.2) (HL.out.2 R h1 h2)⟩
          case measure => simp [intOf] <;> omega
        · go_wp2_with (first
           | (go_at_call 240; (with_reducible refine C.out.mono ?_); rintro e w2 ⟨ap2, rfl, hr⟩; have HR := Lib.hid (HA.out.row.trans hr); clear hr)
           | (go_at_call 182; refine (IH.out (b - (mid + 1)) (by omega) (mid + 1) b l2 d4 w2 (Nat.le_refl _) HR.out.holds (HG3.out.trans HA.out.size) (by omega) hb hl2 HG5.out (Nat.lt_of_lt_of_le hlt HR.out.grown.size)).mono ?_; rintro e w3 ⟨L, rfl, hr, hp, hs⟩; have HR3 := Lib.hid (HR.out.trans hr); have HL := Lib.hid (HG7.out L hp hs); have HLs := Lib.hid (hp.1.trans (HG3.out.trans HA.out.size)); clear hr hp hs))
          go_roundw
          case rel => exact ⟨a, mid, l2, _, _, L, rfl, rfl, rfl, rfl, rfl, g1, by omega, by omega, hl2, HLs.out, HR3.out, HL.out.1, fun R h1 h2 => (fun q => HA.out.rest R q.1 q.2) (HL.out.2 R h1 h2)⟩
          case measure => simp [intOf] <;> omega
end Go.Proofs.YtogljgiefmfafaaGreat

namespace Go.Proofs.YtogljgiefmfafaaGreat
open Go.RowKit Go.Maps Go.Shelf
attribute [local go_sem] Oper.semAt_some
def KeysOf (m : Lit → Option Value) (ss : List Int) : Prop := ss.Nodup ∧ ∀ i, i ∈ ss ↔ (m (.int .u32 i)).isSome = true
def Coll (m : Lit → Option Value) (left : Lit → Bool) (ss : List Int) : Prop := ss.Nodup ∧ ∀ i, i ∈ ss ↔ ((m (.int .u32 i)).isSome = true ∧ left (.int .u32 i) = false)
theorem keyOf_u32 {key : Value} {kl : Lit} (h : keyOf Tryz.prog 37 key = some kl) : ∃ x : Int, key = .int .u32 x ∧ kl = .int .u32 x := by
 cases key <;> simp [keyOf, Tryz.underlying37, mapKey] at h
 rename_i q a
 obtain ⟨⟨rfl, _⟩, rfl⟩ := h
 exact ⟨a, rfl, rfl⟩
theorem Coll.step {m : Lit → Option Value} {left : Lit → Bool} {ss : List Int} {x : Int} (h : Coll m left ss) (hl : left (.int .u32 x) = true) (hx : (m (.int .u32 x)).isSome = true) :
  Coll m (fun z => left z && !z.sameKey (.int .u32 x)) (ss ++ [x]) := by
 refine ⟨?_, fun i => ?_⟩
 · rw [List.nodup_append]
   refine ⟨h.1, by simp, fun a ha b hb e => ?_⟩
   simp at hb
   subst hb
   subst e
   have := ((h.2 a).1 ha).2
   rw [hl] at this
   cases this
 · rw [List.mem_append, h.2]
   by_cases e : i = x
   · subst e
     simp [hx, Lit.sameKey]
   · simp [e, Lit.sameKey]
theorem Coll.done {m : Lit → Option Value} {left : Lit → Bool} {ss : List Int} (h : Coll m left ss) (hl : ∀ kl, left kl = false) : KeysOf m ss := ⟨h.1, fun i => by rw [h.2, hl]; simp⟩
set_option maxRecDepth 100000 in
set_option maxHeartbeats 2000000 in
theorem u_keys1 (l Bm b N : Nat) (m : Lit → Option Value) (J Jx : List Int → World → Prop)
  (hY : ∀ pre x W, J pre W → pre.length < N → YieldAt Fence.wide 5 Tryz.prog l #[.int .u32 x] W fun e W' =>
   (e = .returned (.bool true) ∧ J (pre ++ [x]) W' ∧ KeepsWalks W W') ∨ (e = .returned (.bool false) ∧ Jx (pre ++ [x]) W'))
  (W : World) (hJ : AbidesFrom W.heap.size J) (hm : W.cell? ⟨Bm, 0, none⟩ = some (.map (some b))) (hM : MapAt W Tryz.prog 37 b N m) (h0 : J [] W) :
  CallsIn Fence.wide 6 Tryz.prog 141 #[.func (.yield l) #[] #[], .pointer (some ⟨Bm, 0, none⟩)] W fun e W' => (∃ v, e = .returned v) ∧ ((∃ ss, (KeysOf m ss ∧ ss.length ≤ N) ∧ J ss W') ∨ (∃ pre, True ∧ Jx pre W')) := by
 obtain ⟨D, hown, hmD⟩ := hM
 have hsz := hown.size_le
 have hst := fun i => (ofD_has hown law32 (show WideAt.IsKeyLit (Lit.int .u32 i) from trivial)).trans (by rw [hmD (.int .u32 i) trivial])
 refine callsIn_of_wp Tryz.func141 rfl trivial ?_ rfl
 simp only [Tryz.ntmps141, List.size_toArray, List.length_cons, List.length_nil, Nat.reduceAdd, Nat.reduceSub, Array.replicate_succ, Array.replicate_zero, List.push_toArray, List.append_toArray, List.nil_append, List.cons_append]
 have HST := Lib.hid hst
 have HMD := Lib.hid hmD
 clear hst hmD
 gi_wp2_with (first
  | (gi_at_range; refine wpListIn_range_own _ rfl _ 75 rfl 37 78 law32 Tryz.underlying75 _ b N _ rfl hown ?_; intro w0 hrg0 hg0 hs0)
  | gi_in)
 go_frame
 gi_loopw [3] (fun _ wr => ∃ (left : Lit → Bool) (cnt : Nat) (ss : List Int), wr.ranges Tryz.prog 37 anyElem b W.heap.size N D left cnt ∧ ss.length + cnt ≤ N ∧ Hid (Coll m left ss) ∧ J ss wr)
  (fun _ wr => wr.rangeLeft b W.heap.size)
 case atStart =>
  exact ⟨_, _, [], hrg0, by simpa using hsz, ⟨List.nodup_nil, fun i => by rw [HST.out i]; cases (m (.int .u32 i)).isSome <;> simp⟩, hJ [] W w0 none h0 hg0 (fun r e => by cases e)⟩
 case round =>
  obtain ⟨left, cnt, ss, hrg, hcs, HC, hJs⟩ := hrel
  gi_wp2_with (first
   | (gi_at_next; refine wpListIn_next_ranges _ rfl _ rfl 37 law32 anyElem (fun x : Int => Value.int .u32 x) id (fun key kl hk => by obtain ⟨x, hx, _⟩ := keyOf_u32 hk; exact ⟨x, hx⟩) (fun v _ _ => ⟨v, rfl⟩) b W.heap.size N _ _ _ rfl hrg ?_ ?_)
   | gi_in)
  · intro hc0 hl0
    have HF := Lib.hid (HC.out.done hl0)
    clear hl0
    gi_wp2
    go_end0
    exact ⟨⟨_, rfl⟩, .inl ⟨ss, ⟨HF.out, by omega⟩, hJs⟩⟩
  · intro x c kl yd yp w2 cnt2 hkey hlk hv hat hrg2 hlt hg2 hs2 hen
    obtain ⟨x', ex, rfl⟩ := keyOf_u32 hkey
    obtain rfl : x = x' := by injection ex
    have hJ2 : J ss w2 := hJ ss wr w2 (some W.heap.size) hJs hg2 (fun r e => by cases e; exact ⟨Nat.le_refl _, hrg.iter_walk⟩)
    obtain ⟨fn, tmps, assign, body, hy, hR⟩ := hY ss x w2 hJ2 (by omega)
    have hsome : (m (.int .u32 x)).isSome = true := by
     rw [← HMD.out (.int .u32 x) trivial]
     unfold ofD
     rw [hat]
     cases hv
     rfl
    have HC2 := Lib.hid (HC.out.step hlk hsome)
    clear hs2 hsome hat
    gi_wp2
    refine hR.mono ?_
    rintro e W3 (⟨rfl, hJ3, hk3⟩ | ⟨rfl, hJx3⟩)
    · gi_wp2
      have hrg3 := hrg2.of_walks hk3
      go_roundw
      case rel => exact ⟨_, cnt2, ss ++ [x], hrg3, by simp; omega, HC2, hJ3⟩
      case measure => rw [hrg3.left_eq, hrg.left_eq]; exact hlt
    · gi_wp2
      refine bodyPost_ret (results_none rfl _ _ _) rfl ?_
      exact ⟨⟨_, rfl⟩, .inr ⟨_, trivial, hJx3⟩⟩
theorem keys_stops (Bm b N : Nat) (m : Lit → Option Value) (w : World) (hBm : Bm < w.heap.size) (hm : w.cell? ⟨Bm, 0, none⟩ = some (.map (some b))) (hM : MapAt w Tryz.prog 37 b N m) :
  SeqStopsK Fence.wide 6 Tryz.prog 141 #[.pointer (some ⟨Bm, 0, none⟩)] (fun x : Int => #[.int .u32 x]) KeepsWalks (fun ss => KeysOf m ss ∧ ss.length ≤ N) (fun _ => True) N w := by
 intro l J Jx W hW hJ _ hY h0
 exact u_keys1 l Bm b N m J Jx hY W hJ ((hW.cell (p := ⟨Bm, 0, none⟩) hBm).trans hm) (hM.below hW) h0
end Go.Proofs.YtogljgiefmfafaaGreat
namespace Go.Proofs.YtogljgiefmfafaaGreat
open Go.RowKit Go.Maps Go.Shelf
attribute [local go_sem] Oper.semAt_some
theorem infoU : (Tryz.prog.info? 37).map (fun i => (i.zero, i.size, i.bytes)) = some (some (.int .u32 0), 1, 4) := by kernel_rfl
abbrev u32V : Int → Value := Value.int .u32
def Collected (w : World) (S : List Int → Prop) (e : Ending) (w' : World) : Prop := ∃ (v : Value) (ss : List Int), e = .returned v ∧ S ss ∧ w'.ownsRow w.heap.size 37 1 v ss.length (ss.map u32V) ∧ Below w.heap.size w w'
set_option maxRecDepth 100000 in
set_option maxHeartbeats 2000000 in
theorem u_appendSeq (g : Nat) (lb : Array Value) (eg : Enters g) (S : List Int → Prop) (N : Nat) (hN : N ≤ 60000) (w : World)
  (hseq : SeqStopsK Fence.wide 6 Tryz.prog g lb (fun x : Int => #[.int .u32 x]) KeepsWalks S (fun _ => True) N w) :
  CallsIn Fence.wide 7 Tryz.prog 181 #[.slice none 0 0, .func (.func g) #[] lb] w (Collected w S) := by
 obtain ⟨i0, hi, hz0, hz1, hz2⟩ := info_parts infoU
 refine callsIn_of_wp_marks Tryz.func181 rfl trivial ?_ rfl
 simp only [Tryz.ntmps181, List.size_toArray, List.length_cons, List.length_nil, Nat.reduceAdd, Nat.reduceSub, Array.replicate_succ, Array.replicate_zero, List.push_toArray, List.append_toArray, List.nil_append, List.cons_append]
 gi_wp2
 have bO := Boxed.new w 31 (.slice none 0 0)
 have hB0 : Below w.heap.size w (w.alloc (.cells #[.slice none 0 0] 31)) := u_alloc1 w _
 have hsz : (w.alloc (.cells #[.slice none 0 0] 31)).heap.size = w.heap.size + 1 := by simp
 have hnil := World.ownsRow_nil (w.alloc (.cells #[.slice none 0 0] 31)) w.heap.size 37 1
 obtain ⟨W0, hW0⟩ : ∃ W0, w.alloc (.cells #[.slice none 0 0] 31) = W0 := ⟨_, rfl⟩
 rw [hW0] at bO hB0 hsz hnil ⊢
 clear hW0
 refine wpIn_rangeFunc_ownF rfl (by omega) (gf := g) (lb := lb) rfl trivial eg hseq walksK_t (walksK_b) hB0 (fun _ => rfl)
  (fun pre W => (∃ v, Boxed W w.heap.size 31 v ∧ W.ownsRow w.heap.size 37 1 v pre.length (pre.map u32V) ∧ True) ∧ Below w.heap.size w W)
  (fun _ _ _ => False)
  (OwnFrom.and (Own.from (holdsRow_own w.heap.size w.heap.size 31 37 1 (fun pre : List Int => pre.length) (fun pre => pre.map u32V) (fun _ _ => True)) _) (ownFrom_below (Nat.le_refl _) (by omega)))
  (fun _ _ _ _ _ hs _ _ => hs)
  ⟨⟨_, bO, hnil, trivial⟩, hB0⟩
  (fun x => { tmps := #[.slice none 0 0, .func (.func g) #[] lb, .pointer (some ⟨w.heap.size, 0, none⟩), undef, .slice none 0 0, .int .u32 x, .func (.func g) #[] lb, .int .u32 x, undef, undef, undef, undef, undef], defers := [] })
  ?assign ?body ?done ?stop
 case assign =>
  intro l x W K hK
  gi_wp2
  exact hK
 case body =>
  rintro l pre x W ⟨⟨v, hv, hrow, _⟩, hB⟩ hlt
  have hc := hv.cell
  have hszW := hB.size
  gi_wp2_with (gi_at_builtin; refine wpListIn_append_own _ rfl _ _ 31 rfl w.heap.size 37 i0 (.int .u32 0) 1 4 Tryz.underlying31 hi hz0 hz1 hz2 rfl (by decide) _ _ _ rfl (hrow.alloc _) ⟨W.heap.size, 0, none⟩ 1 1 [.int .u32 x] rfl rfl (cell_one_new _ _ _) (by simp [Value.oneCell']) (by unfold maxLen; omega) (by omega) (by simp; omega) ?_; intro v' w1 hown' hgrow _; obtain ⟨g', cap', rfl⟩ := ownsRow_succ hown'; obtain ⟨hv1, hv2, hr2, hk2, hb2⟩ := hv.appended (by decide) hrow hB.size (Nat.le_refl _) hown' hgrow; have hc1 := hv1.cell; have hf1 := hv1.frozen)
  exact ⟨hk2, hk2.walks, ⟨_, hv2, by simpa using hr2, trivial⟩, hB.trans hb2⟩
 case done =>
  rintro D ys W hD hS ⟨⟨v, hv, hrow, _⟩, hB⟩ hK
  have hc := hv.cell
  have hf := hv.frozen
  gi_wp2
  refine ⟨by simp, .inl ⟨_, _, rfl, run_takeDeferred hK, ?_⟩⟩
  exact ⟨_, by simp [results, Tryz.f181, go_sem], v, ys, rfl, hS, ownsRow_putObj hrow _ hK rfl, hB.trans (belowK_b (w := w) (Nat.le_refl _) _ D _ _ (by omega) hK rfl rfl)⟩
 case stop =>
  rintro D c pre W _ _ h _
  exact h.elim
theorem u_collect (g : Nat) (lb : Array Value) (eg : Enters g) (S : List Int → Prop) (N : Nat) (hN : N ≤ 60000) (w : World)
  (hseq : SeqStopsK Fence.wide 6 Tryz.prog g lb (fun x : Int => #[.int .u32 x]) KeepsWalks S (fun _ => True) N w) :
  Calls Tryz.prog 139 #[.func (.func g) #[] lb] w (Collected w S) := by
 have HC := Lib.hid ((callsIn_wide (n := 7)).1 (u_appendSeq g lb eg S N hN w hseq))
 go_enter Tryz.func139, Tryz.ntmps139
 go_wp2_with (go_at_call 181; (with_reducible refine HC.out.mono ?_); rintro e w' ⟨v, ss, rfl, h⟩; have H := Lib.hid h; clear h)
 go_ret
 exact ⟨v, ss, rfl, H.out⟩
set_option maxRecDepth 100000 in
theorem u_sort (blk n cap : Nat) (d : Array Int) (w : World) (hH : Go.Sort.Holds (Value.int .u32) w blk 0 d) (hn : d.size = n) (h1 : 1 ≤ n) (hsz : n ≤ 60000) (hlt : blk < w.heap.size) :
  Calls Tryz.prog 140 #[.slice (some ⟨blk, 0, none⟩) n cap] w (SortPost w blk 0 d 0 n) := by
 have HL := Lib.hid (fun w => u_len (n : Int) w (by omega) (by omega))
 have HP : Hid (∀ (L : Nat), L ≤ 16 → Calls Tryz.prog 182 #[.slice (some ⟨blk, 0, none⟩) n cap, .int .i64 0, .int .i64 n, .int .i64 L] w (SortPost w blk 0 d 0 n)) := fun L hL => u_pdq blk 0 n cap hsz n 0 n L d w (by omega) hH hn (by omega) (Nat.le_refl _) (by omega) (Or.inl rfl) hlt
 have hnI : (n : Int) ≤ 60000 := by omega
 clear hH hn
 go_enter Tryz.func140, Tryz.ntmps140
 go_wp2_with (first
  | (go_at_call 145; refine (HL.out _).mono ?_; rintro e w' ⟨L, rfl, rfl, hL, _⟩)
  | (go_at_call 182; (with_reducible refine (HP.out L hL).mono ?_); rintro e w' ⟨d', rfl, h⟩; have H := Lib.hid h; clear h))
 go_end0
 exact ⟨d', rfl, H.out⟩
structure RowAt (w : World) (B : Nat) (l : List Int) : Prop where
 cell : ∀ (k : Nat) (x : Int), l[k]? = some x → w.cell? ⟨B, k, none⟩ = some (.int .u32 x)
 lt : B < w.heap.size
theorem RowAt.below {w w' : World} {B : Nat} {l : List Int} (h : RowAt w B l) (hb : Below w.heap.size w w') : RowAt w' B l :=
 ⟨fun k x hk => (hb.cell (p := ⟨B, k, none⟩) h.lt).trans (h.cell k x hk), Nat.lt_of_lt_of_le h.lt hb.size⟩
def AllPost (m : Lit → Option Value) (w : World) (e : Ending) (w' : World) : Prop :=
 ∃ (B c : Nat) (l : List Int), e = .returned (.slice (some ⟨B, 0, none⟩) l.length c) ∧ l.Pairwise (· < ·) ∧ (∀ i, i ∈ l ↔ (m (.int .u32 i)).isSome = true) ∧ RowAt w' B l ∧ w.heap.size ≤ B ∧ Below w.heap.size w w'
theorem holds_of_owns {w : World} {g : Nat} {ss : List Int} {cur : Array Value} (hc : w.heap[g]? = some (.cells cur 37 (0, 0))) (ht : cur.toList.take (ss.length * 1) = ss.map u32V) : Go.Sort.Holds (Value.int .u32) w g 0 ss.toArray := by
 intro j hj
 have hj' : j < ss.length := by simpa using hj
 have h1 : cur[j]? = some (u32V ss[j]) := by
  have e : (cur.toList.take (ss.length * 1))[j]? = (ss.map u32V)[j]? := by rw [ht]
  rw [List.getElem?_take, if_pos (by omega), List.getElem?_map, List.getElem?_eq_getElem hj'] at e
  simpa using e
 refine ⟨?_, by simp [World.frozen?, hc]⟩
 rw [Nat.zero_add]
 simp only [World.cell?, hc, h1]
 congr 2
 simp [hj']
set_option maxRecDepth 100000 in
set_option maxHeartbeats 2000000 in
theorem u_sorted (g : Nat) (lb : Array Value) (eg : Enters g) (m : Lit → Option Value) (N : Nat) (hN : N ≤ 60000) (hne : ∃ i, (m (.int .u32 i)).isSome = true) (w : World)
  (hseq : SeqStopsK Fence.wide 6 Tryz.prog g lb (fun x : Int => #[.int .u32 x]) KeepsWalks (fun ss => KeysOf m ss ∧ ss.length ≤ N) (fun _ => True) N w) :
  Calls Tryz.prog 78 #[.func (.func g) #[] lb] w (AllPost m w) := by
 have HC := Lib.hid (u_collect g lb eg _ N hN w hseq)
 have HN := Lib.hid hne
 clear hseq hne
 go_enter Tryz.func78, Tryz.ntmps78
 go_wp2_with (go_at_call 139; (with_reducible refine HC.out.mono ?_); rintro e w1 ⟨v, ss, rfl, ⟨hS, hSN⟩, hrow, hb⟩
              have hss : 1 ≤ ss.length := (by
               obtain ⟨i, hi⟩ := HN.out
               exact List.length_pos_of_mem ((hS.2 i).2 hi))
              obtain ⟨B, cap, cur, rfl, hwB, hcur, htake⟩ : ∃ (B cap : Nat) (cur : Array Value), v = .slice (some ⟨B, 0, none⟩) ss.length cap ∧ w.heap.size ≤ B ∧ w1.heap[B]? = some (.cells cur 37 (0, 0)) ∧ cur.toList.take (ss.length * 1) = ss.map u32V := (by
               rcases hrow.2 with ⟨_, h0⟩ | ⟨g', cap', cur', h1, h2, h3, h4, h5, h6, h7⟩
               · exact absurd h0 (by omega)
               · exact ⟨g', cap', cur', h1, h2, h3, h7⟩)
              have hBl : B < w1.heap.size := (Array.getElem?_eq_some_iff.1 hcur).1
              have HS := Lib.hid (u_sort B ss.length cap ss.toArray w1 (holds_of_owns hcur htake) (by simp) hss (by omega) hBl)
              have HK := Lib.hid hS
              have HB := Lib.hid hb
              clear hS hrow hb hcur htake hss)
 go_wp2_with (go_at_call 140; (with_reducible refine HS.out.mono ?_); rintro e w2 ⟨d', rfl, hr, hp, hs⟩; have HR := Lib.hid hr; have HP := Lib.hid hp; have HSo := Lib.hid hs; clear hr hp hs)
 go_ret
 have hsz : d'.size = ss.length := by rw [HP.out.1]; simp
 have hperm : d'.toList.Perm ss := by
  have h3 := HP.out.2.2
  rw [Array.extract_eq_self_of_le (by rw [hsz]; exact Nat.le_refl _), Array.extract_eq_self_of_le (by simp)] at h3
  exact h3
 have hnd : d'.toList.Nodup := hperm.nodup_iff.2 HK.out.1
 have hlen : d'.toList.length = ss.length := by simpa using hsz
 have hget : ∀ (k : Nat) (h : k < d'.toList.length), d'.toList[k] = d'[k]! := fun k h => by
  rw [getElem!_pos d' k (by simpa using h)]
  simp
 refine ⟨B, cap, d'.toList, by rw [hlen]; rfl, ?_, fun i => by rw [hperm.mem_iff, HK.out.2], ⟨fun k x hk => ?_, Nat.lt_of_lt_of_le hBl HR.out.grown.size⟩, hwB, ?_⟩
 · rw [List.pairwise_iff_getElem]
   intro i j hi hj hij
   rw [hget i hi, hget j hj]
   have h1 := HSo.out i j (Nat.zero_le _) hij (by omega)
   have h2 : ¬ d'[j]! < d'[i]! := by simpa [Go.Sort.ltInt] using h1
   have h3 : d'[i]! ≠ d'[j]! := by
    rw [← hget i hi, ← hget j hj]
    intro e
    have := (List.getElem_inj hnd).1 e
    omega
   omega
 · obtain ⟨hk1, hk2⟩ := List.getElem?_eq_some_iff.1 hk
   have h1 := (HR.out.holds k (by simpa using hk1)).1
   rw [Nat.zero_add] at h1
   rw [h1, ← hk2, hget k hk1]
 · exact ⟨HR.out.grown.os.trans HB.out.os, HR.out.grown.tape.trans HB.out.tape, HR.out.grown.output.trans HB.out.output, Nat.le_trans HB.out.size HR.out.grown.size, fun b hb => (HR.out.grown.block b (Nat.lt_of_lt_of_le hb HB.out.size) (fun e => by injection e with e; omega)).trans (HB.out.block b hb)⟩
theorem u_keys (mb : Option Nat) (w : World) : Calls Tryz.prog 79 #[.map mb] w fun e w' => e = .returned (.func (.func 141) #[] #[.pointer (some ⟨w.heap.size, 0, none⟩)]) ∧ w' = w.alloc (.cells #[.map mb] 75) := by
 go_enter Tryz.func79, Tryz.ntmps79
 go_wp2
 go_ret
 exact ⟨rfl, rfl⟩
section
variable {F : Nat → Prop} {P N : Nat} {y : Lay} {t : PT}
def AllP (t : PT) (w : World) (e : Ending) (w' : World) : Prop :=
 ∃ (B c : Nat) (l : List Int), e = .returned (.slice (some ⟨B, 0, none⟩) l.length c) ∧ l.Pairwise (· < ·) ∧ (∀ i, i ∈ l ↔ (t.n i).isSome = true) ∧ RowAt w' B l ∧ w.heap.size ≤ B ∧ Below w.heap.size w w'
theorem t_allP (w : World) (h : TreeM w F P N y t) (hN : N ≤ 60000) (hne : ∃ i, (t.n i).isSome = true) :
  Calls Tryz.prog 36 #[.pointer (some ⟨P, 0, none⟩)] w (AllP t w) := by
 have c1 := h.c1
 have hB : Below w.heap.size w (w.alloc (.cells #[.map (some y.M)] 75)) := u_alloc1 w _
 have hM : MapAt (w.alloc (.cells #[.map (some y.M)] 75)) Tryz.prog 37 y.M N (nodesM t.n y.f) := h.nodes.below hB
 have hsome : ∀ i, (nodesM t.n y.f (.int .u32 i)).isSome = (t.n i).isSome := fun i => by
  show ((t.n i).map _).isSome = _
  cases t.n i <;> rfl
 have HS := Lib.hid (u_sorted 141 #[.pointer (some ⟨w.heap.size, 0, none⟩)] (enters_of Tryz.func141 (by kernel_rfl) rfl) (nodesM t.n y.f) N hN (by obtain ⟨i, hi⟩ := hne; exact ⟨i, by rw [hsome]; exact hi⟩) (w.alloc (.cells #[.map (some y.M)] 75))
  (keys_stops w.heap.size y.M N _ _ (by simp) (box_new w _ _) hM))
 have HB := Lib.hid hB
 have HSM := Lib.hid hsome
 have HKY := Lib.hid (fun (mb : Option Nat) (w : World) => u_keys mb w)
 clear h hne hM hsome hB
 go_enter Tryz.func36, Tryz.ntmps36
 go_wp2_with (first
  | (go_at_call 79; refine (HKY.out _ _).mono ?_; rintro e w' ⟨rfl, rfl⟩)
  | (go_at_call 78; (with_reducible refine HS.out.mono ?_); rintro e w2 ⟨B, c, l, rfl, h1, h2, h3, h4, h5⟩; have H := Lib.hid h1; have H2 := Lib.hid h2; have H3 := Lib.hid h3; have H5 := Lib.hid h5; clear h1 h2 h3 h5))
 go_ret
 exact ⟨B, c, l, rfl, H.out, fun i => by rw [H2.out, HSM.out], H3.out, by simp at h4; omega, ptrans HB.out H5.out⟩
end
end Go.Proofs.YtogljgiefmfafaaGreat
