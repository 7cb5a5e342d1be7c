/- Sorting a row of uint32: insertion, a few steps. -/
import Derived.Test.YtpcnolkdnmolgaaGreatDoorPf02
import Derived.Test.YtpcnolkdnmolgaaGreatDoorPf04
import Derived.Maps.RangeWalk
namespace Go.Proofs.YtpcnolkdnmolgaaGreatDoor
section
open Go.RowKit Go.Sort
section
variable {α : Type} [Inhabited α] (lt : α → α → Bool)
theorem k_sorted_go (d : Array α) (b i : Nat) (h1 : i < b) (h2 : lt d[i]! d[i - 1]! = false) : scanSorted lt d b i = scanSorted lt d b (i + 1) := by
 conv => lhs; rw [scanSorted]
 rw [if_pos (by simp [h1, h2])]
theorem k_sorted_end (d : Array α) (b i : Nat) (h : ¬ i < b ∨ lt d[i]! d[i - 1]! = true) : scanSorted lt d b i = i := by
 rw [scanSorted, if_neg]
 rcases h with h | h <;> simp [h]
theorem k_sorted_range (d : Array α) (b : Nat) : ∀ (k i : Nat), b - i ≤ k → i ≤ b → i ≤ scanSorted lt d b i ∧ scanSorted lt d b i ≤ b
 | 0, i, hk, hi => by rw [k_sorted_end lt d b i (.inl (by omega))]; omega
 | k + 1, i, hk, hi => by
  by_cases h : i < b
  · cases hl : lt d[i]! d[i - 1]! with
    | false =>
     rw [k_sorted_go lt d b i h hl]
     have := k_sorted_range d b k (i + 1) (by omega) (by omega)
     omega
    | true => rw [k_sorted_end lt d b i (.inr hl)]; omega
  · rw [k_sorted_end lt d b i (.inl h)]; omega
theorem k_up_go2 (b j : Nat) (d : Array α) (h1 : j < b) (h2 : lt d[j]! d[j - 1]! = true) : shiftUp lt b j d = shiftUp lt b (j + 1) (swp d j (j - 1)) := by
 conv => lhs; rw [shiftUp]
 rw [if_pos h1, h2]
 simp
theorem k_up_end2 (b j : Nat) (d : Array α) (h : ¬ j < b ∨ lt d[j]! d[j - 1]! = false) : shiftUp lt b j d = d := by
 rw [shiftUp]
 split
 · rcases h with h | h
   · contradiction
   · rw [h]; simp
 · rfl
theorem k_dn_go2 (t : Nat) (d : Array α) (h2 : lt d[t + 1]! d[t]! = true) : shiftDown lt (t + 1) d = shiftDown lt t (swp d (t + 1) t) := by
 rw [shiftDown, h2]
 simp
theorem k_dn_end2 (t : Nat) (d : Array α) (h2 : lt d[t + 1]! d[t]! = false) : shiftDown lt (t + 1) d = d := by
 rw [shiftDown, h2]
 simp
end
def Inserted (w : World) (blk off : Nat) (d : Array Int) (r : Bool) (e : Ending) (w' : World) : Prop := e = .returned (.bool r) ∧ RowU w w' blk off d
set_option maxRecDepth 100000 in
set_option maxHeartbeats 16000000 in
theorem u_pins (blk off n cap a b : Nat) (d d' : Array Int) (r : Bool) (w : World) (hH : Holds (Value.int .u32) w blk off d) (hn : d.size = n) (hab : a < b) (hb : b ≤ n) (hsz : n ≤ 60000) (hr : partialInsertionSort ltInt d a b = (d', r)) :
  Calls Tryz.prog 214 #[.slice (some ⟨blk, off, none⟩) n cap, .int .i64 a, .int .i64 b] w (Inserted w blk off d' r) := by
 have HR := zz (RowU.start hH)
 have HS : Hid (d.size = n) := hn
 unfold partialInsertionSort at hr
 have HG : Hid (partialIns ltInt a b 5 (a + 1) d = (d', r)) := hr
 clear hH hn hr
 go_enter Tryz.func214, Tryz.ntmps214
 go_upto_block 0 with fail
 go_wp2_with fail
 go_loopw [7, 8] (fun vi vk wx => ∃ (i k s : Nat) (dk : Array Int), vi = .int .i64 (i : Int) ∧ vk = .int .i64 (k : Int) ∧ k + s = 5 ∧ a < i ∧ i ≤ b ∧ Hid (dk.size = n) ∧ Hid (RowU w wx blk off dk) ∧ Hid (partialIns ltInt a b s i dk = (d', r))) (fun _ vk _ => (5 - intOf vk).toNat)
 case atStart => exact ⟨a + 1, 0, 5, d, by first | rfl | (congr 1; omega), rfl, rfl, by omega, by omega, HS, HR, HG⟩
 case round =>
  clear HR HS HG
  obtain ⟨i, k, s, dk, rfl, rfl, hks, hai, hib, HS, HR, HG⟩ := hrel
  cases s with
  | zero =>
   obtain rfl : k = 5 := by omega
   have HM : Hid (dk = d' ∧ false = r) := by
    have e := HG.out
    rw [partialIns] at e
    injection e with e1 e2
    exact ⟨e1, e2⟩
   go_wp2_with fail
   go_ret
   obtain ⟨rfl, rfl⟩ := HM.out
   exact ⟨rfl, HR.out⟩
  | succ s =>
   have hk5 : (k : Int) < 5 := by omega
   obtain ⟨i2, hi2⟩ : ∃ i2, scanSorted ltInt dk b i = i2 := ⟨_, rfl⟩
   have hrg := k_sorted_range ltInt dk b (b - i) i (Nat.le_refl _) hib
   rw [hi2] at hrg
   obtain ⟨hr1, hr2⟩ := hrg
   have HT := zz hi2
   clear hi2
   go_upto_block 2 with fail
   go_cut [7] (fun v wx => v = .int .i64 (i2 : Int) ∧ Hid (RowU w wx blk off dk))
   case first =>
    go_wp2_with fail
    go_loopw [7] (fun v wx => ∃ t : Nat, v = .int .i64 (t : Int) ∧ i ≤ t ∧ t ≤ b ∧ Hid (RowU w wx blk off dk) ∧ Hid (scanSorted ltInt dk b t = i2)) (fun v _ => b - (intOf v).toNat)
    case atStart => exact ⟨i, rfl, Nat.le_refl _, hib, HR, HT⟩
    case round =>
     obtain ⟨t, rfl, h1, h2, HR, HT⟩ := hrel
     have hcw : ∀ t, t < n → wr.cell? ⟨blk, off + t, none⟩ = some (.int .u32 (gA dk t)) := fun t ht => HR.out.cell HS.out ht
     by_cases hle : t < b
     · have hleI : (t : Int) < (b : Int) := by omega
       have htn : (t : Int) < (n : Int) := by omega
       have htn1 : (t : Int) - 1 < (n : Int) := by omega
       have ht1 : 1 ≤ (t : Int) := by omega
       have htz : ((t : Int) - 1).toNat = t - 1 := by omega
       have hwr : IntKind.i64.wrap ((t : Int) - 1) = (t : Int) - 1 := IntWalk.i64_in _ (by omega)
       obtain ⟨b1, hb1⟩ : ∃ b1, ltInt (gA dk t) (gA dk (t - 1)) = b1 := ⟨_, rfl⟩
       have H1 := zz hb1
       clear hb1
       cases b1 with
       | false =>
        go_wp2_with fail
        go_quiet ((go_at_call 215; exact quiet_eq (u_lessB _ _ _ H1.out _)))
        go_wp2_with fail
        go_roundw
        case rel => exact ⟨t + 1, by go_num, by omega, by omega, HR.out.drewN nq, (k_sorted_go ltInt dk b t hle H1.out).symm.trans HT.out⟩
        case measure => simp [intOf] <;> omega
       | true =>
        go_wp2_with fail
        go_quiet ((go_at_call 215; exact quiet_eq (u_lessB _ _ _ H1.out _)))
        go_wp2_with fail
        go_meet
        exact ⟨by rw [← (k_sorted_end ltInt dk b t (.inr H1.out)).symm.trans HT.out], HR.out.drewN nq⟩
     · have hleI : (b : Int) ≤ (t : Int) := by omega
       have hleD : decide ((t : Int) < (b : Int)) = false := by simp; omega
       go_wp2_with fail
       go_quiet ((go_at_call 215; exact quiet_eq (u_less _ _ _)))
       go_wp2_with fail
       go_meet
       exact ⟨by rw [← (k_sorted_end ltInt dk b t (.inl hle)).symm.trans HT.out], HR.out.drewN nq⟩
   case rest =>
   obtain ⟨rfl, HR⟩ := hcut
   have HG2 : Hid ((if i2 = b then (dk, true) else if b - a < 50 then (dk, false) else partialIns ltInt a b s i2 (fixUp ltInt b i2 (fixDown ltInt a i2 (swp dk i2 (i2 - 1))))) = (d', r)) := by
    have e := HG.out
    rw [partialIns_succ, HT.out] at e
    exact e
   clear HG HT
   by_cases he : i2 = b
   · have HM : Hid (dk = d' ∧ true = r) := by
      have e := HG2.out
      rw [if_pos he] at e
      injection e with e1 e2
      exact ⟨e1, e2⟩
     have heI : ((i2 : Int) == (b : Int)) = true := by simp; omega
     subst he
     go_wp2_with fail
     go_ret
     obtain ⟨rfl, rfl⟩ := HM.out
     exact ⟨rfl, HR.out⟩
   · have heI : ((i2 : Int) == (b : Int)) = false := by simp; omega
     by_cases h50 : b - a < 50
     · have HM : Hid (dk = d' ∧ false = r) := by
        have e := HG2.out
        rw [if_neg he, if_pos h50] at e
        injection e with e1 e2
        exact ⟨e1, e2⟩
       have h50I : (b : Int) - (a : Int) < 50 := by omega
       go_wp2_with fail
       go_ret
       obtain ⟨rfl, rfl⟩ := HM.out
       exact ⟨rfl, HR.out⟩
     · have HG3 : Hid (partialIns ltInt a b s i2 (fixUp ltInt b i2 (fixDown ltInt a i2 (swp dk i2 (i2 - 1)))) = (d', r)) := by
        have e := HG2.out
        rw [if_neg he, if_neg h50] at e
        exact e
       have h50I : (50 : Int) ≤ (b : Int) - (a : Int) := by omega
       have hi2n : i2 < b := by omega
       clear HG2
       have hcw : ∀ t, t < n → wc.cell? ⟨blk, off + t, none⟩ = some (.int .u32 (gA dk t)) := fun t ht => HR.out.cell HS.out ht
       have hfw : ∀ t, t < n → wc.frozen? ⟨blk, off + t, none⟩ = false := fun t ht => HR.out.frozen HS.out ht
       have htn : (i2 : Int) < (n : Int) := by omega
       have htn1 : (i2 : Int) - 1 < (n : Int) := by omega
       have ht1 : 1 ≤ (i2 : Int) := by omega
       have htz : ((i2 : Int) - 1).toNat = i2 - 1 := by omega
       go_upto_region 11 with fail
       go_cut [] (fun wx => Hid (RowU w wx blk off (swp dk i2 (i2 - 1))))
       case first =>
        go_region
        all_goals go_wp2_with fail
        go_meet
        have hh := HR.out.swap 1 i2 (i2 - 1) (by rw [HS.out]; omega) (by rw [HS.out]; omega)
        exact hh
       case rest =>
       have HS1 : Hid ((swp dk i2 (i2 - 1)).size = n) := (size_swp _ _ _).trans HS.out
       clear HR HS hcw hfw
       generalize swp dk i2 (i2 - 1) = dk2 at *
       have HR := hcut
       have HS := HS1
       clear hcut HS1
       go_upto_if 61 with fail
       go_cut [] (fun wx => Hid (RowU w wx blk off (fixDown ltInt a i2 dk2)) ∧ Hid ((fixDown ltInt a i2 dk2).size = n))
       case first =>
        by_cases h2 : 2 ≤ i2 - a
        · have h2I : (2 : Int) ≤ (i2 : Int) - (a : Int) := by omega
          have HF : Hid (fixDown ltInt a i2 dk2 = shiftDown ltInt (i2 - 1) dk2) := by show _ = _; unfold fixDown; rw [if_pos h2]
          go_wp2_with fail
          go_loopw [9] (fun v wx => ∃ (j : Nat) (dj : Array Int), v = .int .i64 (j : Int) ∧ j < i2 ∧ Hid (dj.size = n) ∧ Hid (RowU w wx blk off dj) ∧ Hid (shiftDown ltInt j dj = fixDown ltInt a i2 dk2)) (fun v _ => (intOf v).toNat)
          case atStart => exact ⟨i2 - 1, dk2, by first | rfl | (congr 1; omega), by omega, HS, HR, HF.out.symm⟩
          case round =>
           obtain ⟨j, dj, rfl, hj, HS2, HR2, HQ⟩ := hrel
           have hcw : ∀ t, t < n → wr.cell? ⟨blk, off + t, none⟩ = some (.int .u32 (gA dj t)) := fun t ht => HR2.out.cell HS2.out ht
           have hfw : ∀ t, t < n → wr.frozen? ⟨blk, off + t, none⟩ = false := fun t ht => HR2.out.frozen HS2.out ht
           cases j with
           | zero =>
            go_wp2_with fail
            go_meet
            have e : dj = fixDown ltInt a i2 dk2 := HQ.out
            rw [← e]
            exact ⟨HR2, HS2⟩
           | succ t =>
            have hjn : (t : Int) + 1 < (n : Int) := by omega
            have hjn2 : (t : Int) < (n : Int) := by omega
            obtain ⟨b1, hb1⟩ : ∃ b1, ltInt (gA dj (t + 1)) (gA dj t) = b1 := ⟨_, rfl⟩
            have H1 := zz hb1
            clear hb1
            cases b1 with
            | false =>
             go_wp2_with fail
             go_quiet ((go_at_call 215; exact quiet_eq (u_lessB _ _ _ H1.out _)))
             go_wp2_with fail
             go_meet
             have e : dj = fixDown ltInt a i2 dk2 := (k_dn_end2 ltInt t dj H1.out).symm.trans HQ.out
             rw [← e]
             exact ⟨HR2.out.drewN nq, HS2⟩
            | true =>
             go_wp2_with fail
             go_quiet ((go_at_call 215; exact quiet_eq (u_lessB _ _ _ H1.out _)))
             have HR3 := zz (HR2.out.drewN nq)
             generalize wr.drewN nq = w2 at *
             have hcw : ∀ t, t < n → w2.cell? ⟨blk, off + t, none⟩ = some (.int .u32 (gA dj t)) := fun t ht => HR3.out.cell HS2.out ht
             have hfw : ∀ t, t < n → w2.frozen? ⟨blk, off + t, none⟩ = false := fun t ht => HR3.out.frozen HS2.out ht
             have hh := zz (HR3.out.swap 1 (t + 1) t (by rw [HS2.out]; omega) (by rw [HS2.out]; omega))
             go_wp2_with fail
             go_region
             all_goals go_wp2_with fail
             go_roundw
             case rel => exact ⟨t, swp dj (t + 1) t, by first | rfl | (congr 1; omega), by omega, (size_swp _ _ _).trans HS2.out, hh.out, (k_dn_go2 ltInt t dj H1.out).symm.trans HQ.out⟩
             case measure => simp [intOf] <;> omega
        · have h2I : (i2 : Int) - (a : Int) < 2 := by omega
          have HF : Hid (fixDown ltInt a i2 dk2 = dk2) := by show _ = _; unfold fixDown; rw [if_neg h2]
          go_wp2_with fail
          go_meet
          rw [HF.out]
          exact ⟨HR, HS⟩
       case rest =>
       clear HR HS
       generalize fixDown ltInt a i2 dk2 = dk3 at *
       obtain ⟨HR, HS⟩ := hcut
       by_cases h2 : 2 ≤ b - i2
       · have h2I : (2 : Int) ≤ (b : Int) - (i2 : Int) := by omega
         have HF : Hid (fixUp ltInt b i2 dk3 = shiftUp ltInt b (i2 + 1) dk3) := by show _ = _; unfold fixUp; rw [if_pos h2]
         go_wp2_with fail
         go_loopw [10] (fun v wx => ∃ (j : Nat) (dj : Array Int), v = .int .i64 (j : Int) ∧ i2 < j ∧ j ≤ b ∧ Hid (dj.size = n) ∧ Hid (RowU w wx blk off dj) ∧ Hid (shiftUp ltInt b j dj = fixUp ltInt b i2 dk3)) (fun v _ => b - (intOf v).toNat)
         case atStart => exact ⟨i2 + 1, dk3, by first | rfl | (congr 1; omega), by omega, by omega, HS, HR, HF.out.symm⟩
         case round =>
          obtain ⟨j, dj, rfl, hj1, hj2, HS2, HR2, HQ⟩ := hrel
          have hcw : ∀ t, t < n → wr.cell? ⟨blk, off + t, none⟩ = some (.int .u32 (gA dj t)) := fun t ht => HR2.out.cell HS2.out ht
          have hfw : ∀ t, t < n → wr.frozen? ⟨blk, off + t, none⟩ = false := fun t ht => HR2.out.frozen HS2.out ht
          by_cases hjb : j < b
          · have hjbI : (j : Int) < (b : Int) := by omega
            have hjn : (j : Int) < (n : Int) := by omega
            have hjn1 : (j : Int) - 1 < (n : Int) := by omega
            have hj0 : 1 ≤ (j : Int) := by omega
            have hjz : ((j : Int) - 1).toNat = j - 1 := by omega
            obtain ⟨b1, hb1⟩ : ∃ b1, ltInt (gA dj j) (gA dj (j - 1)) = b1 := ⟨_, rfl⟩
            have H1 := zz hb1
            clear hb1
            have hwr : IntKind.i64.wrap ((j : Int) - 1) = (j : Int) - 1 := IntWalk.i64_in _ (by omega)
            cases b1 with
            | false =>
             go_wp2_with fail
             go_quiet ((go_at_call 215; exact quiet_eq (u_lessB _ _ _ H1.out _)))
             have e : dj = fixUp ltInt b i2 dk3 := (k_up_end2 ltInt b j dj (.inr H1.out)).symm.trans HQ.out
             have HG4 : Hid (partialIns ltInt a b s i2 dj = (d', r)) := by rw [e]; exact HG3
             clear e
             go_wp2_with fail
             go_roundw
             case rel => exact ⟨i2, k + 1, s, dj, rfl, by go_num, by omega, by omega, hr2, HS2, HR2.out.drewN nq, HG4⟩
             case measure => simp [intOf] <;> omega
            | true =>
             go_wp2_with fail
             go_quiet ((go_at_call 215; exact quiet_eq (u_lessB _ _ _ H1.out _)))
             clear hwr
             have HR3 := zz (HR2.out.drewN nq)
             generalize wr.drewN nq = w2 at *
             have hcw : ∀ t, t < n → w2.cell? ⟨blk, off + t, none⟩ = some (.int .u32 (gA dj t)) := fun t ht => HR3.out.cell HS2.out ht
             have hfw : ∀ t, t < n → w2.frozen? ⟨blk, off + t, none⟩ = false := fun t ht => HR3.out.frozen HS2.out ht
             have hh := zz (HR3.out.swap 1 j (j - 1) (by rw [HS2.out]; omega) (by rw [HS2.out]; omega))
             go_wp2_with fail
             go_region
             all_goals go_wp2_with fail
             go_roundw
             case rel => exact ⟨j + 1, swp dj j (j - 1), by go_num, by omega, by omega, (size_swp _ _ _).trans HS2.out, hh.out, (k_up_go2 ltInt b j dj hjb H1.out).symm.trans HQ.out⟩
             case measure => simp [intOf] <;> omega
          · have hjbI : (b : Int) ≤ (j : Int) := by omega
            have e : dj = fixUp ltInt b i2 dk3 := (k_up_end2 ltInt b j dj (.inl hjb)).symm.trans HQ.out
            have HG4 : Hid (partialIns ltInt a b s i2 dj = (d', r)) := by rw [e]; exact HG3
            clear e
            go_wp2_with fail
            go_roundw
            case rel => exact ⟨i2, k + 1, s, dj, rfl, by go_num, by omega, by omega, hr2, HS2, HR2, HG4⟩
            case measure => simp [intOf] <;> omega
       · have h2I : (b : Int) - (i2 : Int) < 2 := by omega
         have HF : Hid (fixUp ltInt b i2 dk3 = dk3) := by show _ = _; unfold fixUp; rw [if_neg h2]
         have HG4 : Hid (partialIns ltInt a b s i2 dk3 = (d', r)) := by rw [← HF.out]; exact HG3
         go_wp2_with fail
         go_roundw
         case rel => exact ⟨i2, k + 1, s, dk3, rfl, by go_num, by omega, by omega, hr2, HS, HR, HG4⟩
         case measure => simp [intOf] <;> omega
end
section
open Go.RowKit Go.Sort
theorem RowU.below {w w1 w2 : World} {blk off : Nat} {d : Array Int} (h : RowU w w1 blk off d) (hb : RowKit.Below w1.heap.size w1 w2) (hlt : blk < w.heap.size) : RowU w w2 blk off d := by
 have hl1 : blk < w1.heap.size := Nat.lt_of_lt_of_le hlt h.grown.size
 refine ⟨fun j hj => ?_, pgrown_trans h.grown (pgrown_below hb _)⟩
 obtain ⟨h1, h2⟩ := h.holds j hj
 have e := hb.block blk hl1
 exact ⟨(World.cell?_of_block e).trans h1, by
  unfold World.frozen? at h2 ⊢
  rw [e]
  exact h2⟩
def SortPost (w : World) (blk off : Nat) (d : Array Int) (a b : Nat) (e : Ending) (w' : World) : Prop := ∃ d', e = .returned (.tuple #[]) ∧ RowU w w' blk off d' ∧ PermIn a b d d' ∧ SortedIn ltInt a b d'
def Rest (a b : Nat) (dk : Array Int) (a0 b0 : Nat) (d : Array Int) : Prop := ∀ R, PermIn a b dk R → SortedIn ltInt a b R → PermIn a0 b0 d R ∧ SortedIn ltInt a0 b0 R
theorem Rest.perm {a b a0 b0 : Nat} {dk d2 d : Array Int} (h : Rest a b dk a0 b0 d) (hp : PermIn a b dk d2) : Rest a b d2 a0 b0 d := fun R h1 h2 => h R (permIn_trans _ _ _ _ _ hp h1) h2
structure At (w wr : World) (blk off n a b : Nat) (dk : Array Int) (a0 b0 : Nat) (d : Array Int) : Prop where
 size : dk.size = n
 row : RowU w wr blk off dk
 low : Go.Sort.Below ltInt a b dk
 rest : Rest a b dk a0 b0 d
theorem At.perm {w wr wr2 : World} {blk off n a b a0 b0 : Nat} {dk d2 d : Array Int} (h : At w wr blk off n a b dk a0 b0 d) (hb : b ≤ n) (hr : RowU wr wr2 blk off d2) (hp : PermIn a b dk d2) : At w wr2 blk off n a b d2 a0 b0 d :=
 ⟨hp.1.trans h.size, h.row.trans hr, h.low.perm (by rw [h.size]; exact hb) hp, h.rest.perm hp⟩
theorem At.finish {w wr wr2 : World} {blk off n a b a0 b0 : Nat} {dk d2 d : Array Int} (h : At w wr blk off n a b dk a0 b0 d) (hr : RowU wr wr2 blk off d2) (hp : PermIn a b dk d2) (hs : SortedIn ltInt a b d2) : SortPost w blk off d a0 b0 (.returned (.tuple #[])) wr2 := by
 obtain ⟨h1, h2⟩ := h.rest d2 hp hs
 exact ⟨d2, rfl, h.row.trans hr, h1, h2⟩
set_option maxRecDepth 100000 in
set_option maxHeartbeats 32000000 in
theorem u_pdq (blk off n cap : Nat) (hsz : n ≤ 60000) : ∀ (K a0 b0 l0 : Nat) (d : Array Int) (w : World), b0 - a0 ≤ K → Holds (Value.int .u32) w blk off d → d.size = n → a0 ≤ b0 → b0 ≤ n → l0 ≤ 100 → Go.Sort.Below ltInt a0 b0 d → blk < w.heap.size →
  Calls Tryz.prog 130 #[.slice (some ⟨blk, off, none⟩) n cap, .int .i64 a0, .int .i64 b0, .int .i64 l0] w (SortPost w blk off d a0 b0) := by
 intro K
 induction K using Nat.strongRecOn with
 | ind K ih =>
  intro a0 b0 l0 d w hK hH hn hab hb hl hB hlt
  have IH := zz ih
  have HA0 : Hid (At w w blk off n a0 b0 d a0 b0 d) := ⟨hn, RowU.start hH, hB, fun R h1 h2 => ⟨h1, h2⟩⟩
  clear ih hH hn hB
  go_enter Tryz.func130, Tryz.ntmps130
  go_upto_block 0 with fail
  go_wp2_with fail
  go_loopw [1, 2, 3, 8, 9] (fun va vb vl v8 v9 wx => ∃ (a b l : Nat) (wb wp : Bool) (dk : Array Int), va = .int .i64 (a : Int) ∧ vb = .int .i64 (b : Int) ∧ vl = .int .i64 (l : Int) ∧ v8 = .bool wb ∧ v9 = .bool wp ∧ a ≤ b ∧ b ≤ n ∧ b - a ≤ K ∧ l ≤ 100 ∧ Hid (At w wx blk off n a b dk a0 b0 d)) (fun va vb _ _ _ _ => (intOf vb - intOf va).toNat)
  case atStart => exact ⟨a0, b0, l0, true, true, d, rfl, rfl, rfl, rfl, rfl, hab, hb, hK, hl, HA0⟩
  case round =>
   clear HA0 hK hab hb hl
   obtain ⟨a, b, l, wb, wp, dk, rfl, rfl, rfl, rfl, rfl, hab, hb, hK, hl, HA⟩ := hrel
   by_cases h12 : b - a ≤ 12
   · have h12I : (b : Int) - (a : Int) ≤ 12 := by omega
     have C := zz (u_ins blk off n cap a b dk wr HA.out.row.holds HA.out.size hab hb (by omega))
     have HP := zz (insertionSort_holds swo_ltInt dk a b hab (by rw [HA.out.size]; exact hb))
     go_wp2_with (go_at_call 209; (with_reducible refine C.out.mono ?_); rintro e w2 ⟨rfl, hr⟩; have HR := zz hr; clear hr)
     go_end0
     exact HA.out.finish HR.out HP.out.1 HP.out.2
   · have h12I : (12 : Int) < (b : Int) - (a : Int) := by omega
     by_cases hl0 : l = 0
     · subst hl0
       have C0 := u_heap blk off n cap a (b - a) dk wr HA.out.row.holds HA.out.size (by omega) (by omega) hsz
       rw [show (a : Int) + ((b - a : Nat) : Int) = (b : Int) by omega, show a + (b - a) = b by omega] at C0
       have C := zz C0
       clear C0
       have HP := zz (heapSort_holds swo_ltInt dk a b hab (by rw [HA.out.size]; exact hb))
       go_wp2_with (go_at_call 210; (with_reducible refine C.out.mono ?_); rintro e w2 ⟨rfl, hr⟩; have HR := zz hr; clear hr)
       go_end0
       exact HA.out.finish HR.out HP.out.1 HP.out.2
     · have hl0I : ((l : Int) == 0) = false := by simp; omega
       have hl1 : 1 ≤ (l : Int) := by omega
       go_upto_if 35 with fail
       go_cut [3] (fun vl wx => ∃ (l2 : Nat) (d1 : Array Int), vl = .int .i64 (l2 : Int) ∧ l2 ≤ 100 ∧ Hid (At w wx blk off n a b d1 a0 b0 d))
       case first =>
        cases wb with
        | true =>
         go_wp2_with fail
         go_meet
         exact ⟨l, dk, rfl, hl, HA⟩
        | false =>
         have C0 := u_break blk off n cap a (b - a) dk wr HA.out.row.holds HA.out.size (by omega) (by omega) hsz (Nat.lt_of_lt_of_le hlt HA.out.row.grown.size)
         rw [show (a : Int) + ((b - a : Nat) : Int) = (b : Int) by omega, show a + (b - a) = b by omega] at C0
         have C := zz C0
         clear C0
         go_wp2_with (go_at_call 211; (with_reducible refine C.out.mono ?_); rintro e w2 ⟨d1, rfl, hr, hp⟩; have HA1 := zz (HA.out.perm hb hr hp); clear hr hp)
         go_meet
         exact ⟨l - 1, d1, by congr 1; omega, by omega, HA1⟩
       case rest =>
       clear HA hl hl0 hl0I hl1
       obtain ⟨l2, d1, rfl, hl2, HA⟩ := hcut
       obtain ⟨x, h, hx⟩ : ∃ x h, choosePivot ltInt d1 a b = (x, h) := ⟨_, _, rfl⟩
       have hxr := choosePivot_holds ltInt d1 a b (by omega)
       rw [hx] at hxr
       obtain ⟨hx1, hx2⟩ := hxr
       simp only at hx1 hx2
       obtain ⟨hc, hhc, hcc⟩ : ∃ hc : Int, hintCode h = hc ∧ (hc = 0 ∨ hc = 1 ∨ hc = 2) := ⟨_, rfl, by cases h <;> simp [hintCode]⟩
       have CP0 := u_pivot blk off n cap a b d1 wc HA.out.row.holds HA.out.size (by omega) hb (by omega) (Nat.lt_of_lt_of_le hlt HA.out.row.grown.size) x h hx
       rw [hhc] at CP0
       have CP := zz CP0
       clear CP0 hhc hx
       go_upto_if 50 with (go_at_call 212; (with_reducible refine CP.out.mono ?_); rintro e w2 ⟨rfl, hbl⟩; have HA2 : Hid (At w w2 blk off n a b d1 a0 b0 d) := ⟨HA.out.size, HA.out.row.below hbl hlt, HA.out.low, HA.out.rest⟩; clear hbl)
       go_cut [11, 12] (fun vp vh wx => ∃ (p : Nat) (hc : Int) (d2 : Array Int), vp = .int .i64 (p : Int) ∧ vh = .int .i64 hc ∧ a ≤ p ∧ p < b ∧ Hid (At w wx blk off n a b d2 a0 b0 d))
       case first =>
        by_cases hc2 : hc = 2
        · subst hc2
          have C := zz (u_rev blk off n cap a b d1 w2 HA2.out.row.holds HA2.out.size (by omega) hb (by omega))
          go_wp2_with (go_at_call 213; (with_reducible refine C.out.mono ?_); rintro e w3 ⟨d2, rfl, hr, hp⟩; have HA3 := zz (HA2.out.perm hb hr hp); clear hr hp)
          go_meet
          exact ⟨b - 1 - (x - a), 1, d2, by congr 1; omega, rfl, by omega, by omega, HA3⟩
        · have hc2I : (hc == 2) = false := by simpa using hc2
          go_wp2_with fail
          go_meet
          exact ⟨x, hc, d1, rfl, rfl, hx1, hx2, HA2⟩
       case rest =>
       clear HA HA2 CP hx1 hx2 hcc
       obtain ⟨p, hc, d2, rfl, rfl, hp1, hp2, HA⟩ := hcut
       go_upto_region 15 with fail
       go_cut [68] (fun v wx => ∃ c : Bool, v = .bool c ∧ Hid (At w wx blk off n a b d2 a0 b0 d))
       case first =>
        cases wb <;> cases wp
        all_goals go_wp2_with fail
        all_goals go_meet
        all_goals exact ⟨_, rfl, HA⟩
       case rest =>
       clear HA
       obtain ⟨c, rfl, HA⟩ := hcut
       go_upto_if 68 with fail
       go_cut [] (fun wx => ∃ d3 : Array Int, Hid (At w wx blk off n a b d3 a0 b0 d))
       case first =>
        cases c with
        | false =>
         go_wp2_with fail
         go_meet
         exact ⟨d2, HA⟩
        | true =>
         obtain ⟨d3, r, hr⟩ : ∃ d3 r, partialInsertionSort ltInt d2 a b = (d3, r) := ⟨_, _, rfl⟩
         have hpi := partialInsertionSort_holds swo_ltInt d2 a b (by omega) (by rw [HA.out.size]; exact hb) HA.out.low
         rw [hr] at hpi
         have HPI := zz hpi
         have C := zz (u_pins blk off n cap a b d2 d3 r wc HA.out.row.holds HA.out.size (by omega) hb hsz hr)
         clear hpi hr
         cases r with
         | true =>
          go_wp2_with (go_at_call 214; (with_reducible refine C.out.mono ?_); rintro e w2 ⟨rfl, hr⟩; have HR := zz hr; clear hr)
          go_end0
          exact HA.out.finish HR.out HPI.out.1 (HPI.out.2 (by simp))
         | false =>
          go_wp2_with (go_at_call 214; (with_reducible refine C.out.mono ?_); rintro e w2 ⟨rfl, hr⟩; have HR := zz hr; clear hr)
          go_meet
          exact ⟨d3, HA.out.perm hb HR.out HPI.out.1⟩
       case rest =>
       clear HA
       obtain ⟨d3, HA⟩ := hcut
       go_upto_region 17 with fail
       go_cut [87] (fun v wx => ∃ c : Bool, v = .bool c ∧ Hid (c = true → 0 < a ∧ ltInt d3[a - 1]! d3[p]! = false) ∧ Hid (At w wx blk off n a b d3 a0 b0 d))
       case first =>
        have hcw : ∀ t, t < n → wc.cell? ⟨blk, off + t, none⟩ = some (.int .u32 (gA d3 t)) := fun t ht => HA.out.row.cell HA.out.size ht
        by_cases ha0 : 0 < a
        · have ha0I : (0 : Int) < (a : Int) := by omega
          have haI : (a : Int) - 1 < (n : Int) := by omega
          have ha1I : 1 ≤ (a : Int) := by omega
          have hpI : (p : Int) < (n : Int) := by omega
          have haz : ((a : Int) - 1).toNat = a - 1 := by omega
          have hwr : IntKind.i64.wrap ((a : Int) - 1) = (a : Int) - 1 := IntWalk.i64_in _ (by omega)
          obtain ⟨b1, hb1⟩ : ∃ b1, ltInt (gA d3 (a - 1)) (gA d3 p) = b1 := ⟨_, rfl⟩
          have H1 := zz hb1
          clear hb1
          go_wp2_with fail
          go_quiet ((go_at_call 215; exact quiet_eq (u_lessB _ _ _ H1.out _)))
          go_wp2_with fail
          go_meet
          refine ⟨!b1, rfl, fun hh => ⟨ha0, H1.out.trans (by simpa using hh)⟩, HA.out.size, HA.out.row.drewN nq, HA.out.low, HA.out.rest⟩
        · have ha0I : ¬ (0 : Int) < (a : Int) := by omega
          have ha0D : decide ((0 : Int) < (a : Int)) = false := by simp; omega
          go_wp2_with fail
          go_quiet ((go_at_call 215; exact quiet_eq (u_less _ _ _)))
          go_wp2_with fail
          go_meet
          refine ⟨false, rfl, fun hh => (by cases hh), HA.out.size, HA.out.row.drewN nq, HA.out.low, HA.out.rest⟩
       case rest =>
       clear HA
       obtain ⟨c, rfl, HC, HA⟩ := hcut
       have hs3 : b ≤ d3.size := by rw [HA.out.size]; exact hb
       cases c with
       | true =>
        obtain ⟨mid, d4, hq⟩ : ∃ mid d4, partitionEqual ltInt d3 a b p = (mid, d4) := ⟨_, _, rfl⟩
        obtain ⟨g1, g2, g3, g4, g5⟩ := round_eq swo_ltInt (partitionEqual_holds ltInt) (HC.out rfl).1 hp1 hp2 hs3 HA.out.low (HC.out rfl).2 hq
        have C := zz (u_peq blk off n cap a b p mid d3 d4 wc HA.out.row.holds HA.out.size hp1 hp2 hb hsz hq)
        have HG := zz (show d4.size = d3.size ∧ Go.Sort.Below ltInt mid b d4 ∧ ∀ R, PermIn mid b d4 R → SortedIn ltInt mid b R → PermIn a b d3 R ∧ SortedIn ltInt a b R from ⟨g3, g4, g5⟩)
        clear hq g3 g4 g5 hs3
        go_wp2_with (go_at_call 216; (with_reducible refine C.out.mono ?_); rintro e w2 ⟨rfl, hr⟩; have HR := zz hr; clear hr)
        go_roundw
        case rel => exact ⟨mid, b, l2, wb, wp, d4, rfl, rfl, rfl, rfl, rfl, g2, hb, by omega, hl2, HG.out.1.trans HA.out.size, HA.out.row.trans HR.out, HG.out.2.1, fun R h1 h2 => (fun q => HA.out.rest R q.1 q.2) (HG.out.2.2 R h1 h2)⟩
        case measure => simp [intOf] <;> omega
       | false =>
        obtain ⟨mid, ap, d4, hq⟩ : ∃ mid ap d4, partition ltInt d3 a b p = (mid, ap, d4) := ⟨_, _, _, rfl⟩
        obtain ⟨g1, g2, g3, g4, g5, g6, g7⟩ := round_part swo_ltInt (partition_holds ltInt) hp1 hp2 hs3 HA.out.low hq
        have C := zz (u_part blk off n cap a b p mid d3 d4 wc HA.out.row.holds HA.out.size hp1 hp2 hb hsz (by rw [hq]) (by rw [hq]))
        have HG3 := zz g3
        have HG4 := zz g4
        have HG5 := zz g5
        have HG6 := zz g6
        have HG7 := zz g7
        clear hq g3 g4 g5 g6 g7 hs3
        by_cases hll : (mid : Int) - (a : Int) < (b : Int) - (mid : Int)
        · go_wp2_with (first
           | (go_at_call 217; (with_reducible refine C.out.mono ?_); rintro e w2 ⟨ap2, rfl, hr⟩; have HR := zz (HA.out.row.trans hr); clear hr)
           | (go_at_call 130; refine (IH.out (mid - a) (by omega) a mid l2 d4 w2 (Nat.le_refl _) HR.out.holds (HG3.out.trans HA.out.size) g1 (by omega) hl2 HG4.out (Nat.lt_of_lt_of_le hlt HR.out.grown.size)).mono ?_; rintro e w3 ⟨L, rfl, hr, hp, hs⟩; have HR3 := zz (HR.out.trans hr); have HL := zz (HG6.out L hp hs); have HLs := zz (hp.1.trans (HG3.out.trans HA.out.size)); clear hr hp hs))
          go_roundw
          case rel => exact ⟨mid + 1, b, l2, _, _, L, by go_num, rfl, rfl, rfl, rfl, by omega, hb, by omega, hl2, HLs.out, HR3.out, HL.out.1, fun R h1 h2 => (fun q => HA.out.rest R q.1 q.2) (HL.out.2 R h1 h2)⟩
          case measure => simp [intOf] <;> omega
        · go_wp2_with (first
           | (go_at_call 217; (with_reducible refine C.out.mono ?_); rintro e w2 ⟨ap2, rfl, hr⟩; have HR := zz (HA.out.row.trans hr); clear hr)
           | (go_at_call 130; refine (IH.out (b - (mid + 1)) (by omega) (mid + 1) b l2 d4 w2 (Nat.le_refl _) HR.out.holds (HG3.out.trans HA.out.size) (by omega) hb hl2 HG5.out (Nat.lt_of_lt_of_le hlt HR.out.grown.size)).mono ?_; rintro e w3 ⟨L, rfl, hr, hp, hs⟩; have HR3 := zz (HR.out.trans hr); have HL := zz (HG7.out L hp hs); have HLs := zz (hp.1.trans (HG3.out.trans HA.out.size)); clear hr hp hs))
          go_roundw
          case rel => exact ⟨a, mid, l2, _, _, L, rfl, rfl, rfl, rfl, rfl, g1, by omega, by omega, hl2, HLs.out, HR3.out, HL.out.1, fun R h1 h2 => (fun q => HA.out.rest R q.1 q.2) (HL.out.2 R h1 h2)⟩
          case measure => simp [intOf] <;> omega
end

section
open Go.RowKit Go.Maps
open Go.MapKept
open Go.ChangeMaps
open Go.WideElems (Fit rd rg pl rd_key rd_val rg_of rd_mk other_key)
def RangeAt (w : World) (P : Program) (k : TypeId) (b r n : Nat) (m : Lit → Option Value) (left : Lit → Bool) (cnt : Nat) : Prop :=
 ∃ D : DataW Value, w.ranges P k anyElem b r n D left cnt ∧ ∀ kl, WideAt.IsKeyLit kl → ofD D kl = m kl
section
variable {P : Program} {k t e : TypeId} {w w' : World} {b r n cnt : Nat} {m : Lit → Option Value} {left : Lit → Bool}
theorem RangeAt.owns (h : RangeAt w P k b r n m left cnt) : MapAt w P k b n m := by obtain ⟨D, h1, h2⟩ := h; exact ⟨D, h1.owns, h2⟩
theorem RangeAt.ltr (h : RangeAt w P k b r n m left cnt) : r < w.heap.size := by obtain ⟨D, h1, _⟩ := h; exact h1.lt
theorem RangeAt.ne (h : RangeAt w P k b r n m left cnt) : r ≠ b := by obtain ⟨D, h1, _⟩ := h; exact h1.ne
theorem RangeAt.left_eq (h : RangeAt w P k b r n m left cnt) : w.rangeLeft b r = cnt := by obtain ⟨D, h1, _⟩ := h; exact h1.left_eq
theorem RangeAt.congr (h : RangeAt w P k b r n m left cnt) {m' : Lit → Option Value} (hm : ∀ kl, WideAt.IsKeyLit kl → m kl = m' kl) : RangeAt w P k b r n m' left cnt := by
 obtain ⟨D, h1, h2⟩ := h; exact ⟨D, h1, fun kl hk => (h2 kl hk).trans (hm kl hk)⟩
theorem RangeAt.same (h : RangeAt w P k b r n m left cnt) (h1 : w'.heap[b]? = w.heap[b]?) (h2 : w'.heap[r]? = w.heap[r]?) : RangeAt w' P k b r n m left cnt := by
 obtain ⟨D, ⟨es, clock, since, seen, c0, hb, F, hs, hD, hr, rest⟩, hm⟩ := h
 exact ⟨D, ⟨es, clock, since, seen, c0, h1.trans hb, F, hs, hD, h2.trans hr, rest⟩, hm⟩
theorem RangeAt.below (h : RangeAt w P k b r n m left cnt) (hb : Below w.heap.size w w') : RangeAt w' P k b r n m left cnt := h.same (hb.block _ h.owns.lt) (hb.block _ h.ltr)
theorem ofD_has {D : DataW Value} (h : w.ownsMap P k anyElem b n D) (K : Keyed P k) {kl : Lit} (hk : WideAt.IsKeyLit kl) : Maps.has D kl = (ofD D kl).isSome := by
 obtain ⟨es, clock, hb, F, _, rfl⟩ := h
 have hat := WideShapes.atKey_sorted (es.toList.map (rg P k anyElem)) (Maps.fit_rising K F) kl hk
 by_cases hx : ∃ x ∈ es.toList, (rg P k anyElem x).1 = kl
 · obtain ⟨x, hx, hxk⟩ := hx
   obtain ⟨y, hy⟩ := F.reads x hx
   obtain ⟨z, hz, hzd⟩ := rd_val hy
   cases hz
   have h1 : ofD (DataW.map ((es.toList.map (rg P k anyElem)).foldr DataW.insert [])) kl = some x.val := by
    unfold ofD
    rw [hat.2 (rg P k anyElem x) (List.mem_map.2 ⟨x, hx, rfl⟩) hxk, rg_of hy, hzd]
   rw [h1]
   show (List.foldr DataW.insert [] _).any _ = true
   exact List.any_eq_true.2 ⟨_, mem_sorted.2 (List.mem_map.2 ⟨x, hx, rfl⟩), by rw [hxk]; exact WideAt.sameKey_self hk⟩
 · have h1 : ofD (DataW.map ((es.toList.map (rg P k anyElem)).foldr DataW.insert [])) kl = none := by
    unfold ofD
    rw [hat.1 (fun p hp e1 => by
     obtain ⟨x, hx', rfl⟩ := List.mem_map.1 hp
     exact hx ⟨x, hx', e1⟩)]
   rw [h1]
   show (List.foldr DataW.insert [] _).any _ = false
   rw [List.any_eq_false]
   intro p hp
   obtain ⟨x, hx', rfl⟩ := List.mem_map.1 (mem_sorted.1 hp)
   intro hh
   exact hx ⟨x, hx', WideAt.sameKey_eq hh⟩
theorem MapAt.range (h : MapAt w P k b n m) (K : Keyed P k) (ht : P.underlying t = some (.map k e)) :
  ∃ w' left cnt, (Instr.range t (.map (some b))).run P w = .ok (.pointer (some ⟨w.heap.size, 0, none⟩)) w' ∧ RangeAt w' P k b w.heap.size n m left cnt ∧ (∀ kl, WideAt.IsKeyLit kl → left kl = (m kl).isSome) ∧ Below w.heap.size w w' ∧ w'.heap.size = w.heap.size + 1 := by
 obtain ⟨D, hD, hm⟩ := h
 obtain ⟨w', h1, h2, h3, h4⟩ := hD.range K ht
 exact ⟨w', _, _, h1, ⟨D, h2, hm⟩, fun kl hk => by rw [ofD_has hD K hk, hm kl hk], ⟨h3.os, h3.tape, h3.output, h3.size, fun i hi => h3.block i hi (by simp)⟩, h4⟩
theorem RangeAt.next (h : RangeAt w P k b r n m left cnt) (K : Keyed P k) (ty : TypeId) :
  (cnt = 0 ∧ (∀ kl, left kl = false) ∧ (Instr.next (.pointer (some ⟨r, 0, none⟩)) false ty).run P w = .ok (.tuple #[.bool false]) w) ∨
  ∃ key v kl w' cnt', keyOf P k key = some kl ∧ left kl = true ∧ m kl = some v ∧ (Instr.next (.pointer (some ⟨r, 0, none⟩)) false ty).run P w = .ok (.tuple #[.bool true, key, v]) w' ∧
   RangeAt w' P k b r n m (fun x => left x && !x.sameKey kl) cnt' ∧ cnt' < cnt ∧ w.grownBy w' (some r) ∧ w'.heap.size = w.heap.size ∧ (Instr.entry (.pointer (some ⟨r, 0, none⟩))).run P w' = .ok (.tuple #[key, v]) w' := by
 obtain ⟨D, hD, hm⟩ := h
 rcases hD.next K ty with h1 | ⟨key, v, kl, yv, w', cnt', h1, h2, h3, h4, h5, h6, h7, h8, h9, h10⟩
 · exact .inl h1
 · cases h3
   refine .inr ⟨key, v, kl, w', cnt', h1, h2, ?_, h5, ⟨D, h6, hm⟩, h7, h8, h9, h10⟩
   rw [← hm kl (K.key h1)]
   unfold ofD
   rw [h4]
theorem RangeAt.drop (h : RangeAt w P k b r n m left cnt) (K : Keyed P k) (ht : P.underlying t = some (.map k e)) {key : Value} {kl : Lit} (hkey : keyOf P k key = some kl) (ty : TypeId) :
  ∃ w' cnt', (Builtin.delete_ #[t, k] ty #[.map (some b), key]).run P w = .ok (.tuple #[]) w' ∧ RangeAt w' P k b r n (delM m kl) (fun x => left x && !x.sameKey kl) cnt' ∧ cnt' ≤ cnt ∧ w.mapTurned w' b := by
 obtain ⟨D, hD, hm⟩ := h
 obtain ⟨w', cnt', h1, h2, h3, h4⟩ := hD.drop K ht hkey ty
 refine ⟨w', cnt', h1, ⟨_, h2, fun x hx => ?_⟩, h3, h4⟩
 unfold delM
 by_cases hs : x.sameKey kl = true
 · rw [if_pos hs]
   have : x = kl := WideAt.sameKey_eq hs
   subst this
   unfold ofD
   rw [Maps.atKey_del_same]
 · rw [if_neg hs, ← hm x hx]
   have hne : x ≠ kl := fun e => hs (by rw [e]; exact WideAt.sameKey_self (e ▸ hx))
   unfold ofD
   rw [Maps.atKey_del_other hne]
theorem RangeAt.store (h : RangeAt w P k b r n m left cnt) (K : Keyed P k) (ht : P.underlying t = some (.map k e)) (hn : n < maxLen) {key val : Value} {kl : Lit} (hkey : keyOf P k key = some kl) (hp : (m kl).isSome = true) :
  ∃ w', (Instr.mapUpdate t (.map (some b)) key val).run P w = .ok () w' ∧ RangeAt w' P k b r n (updM m kl val) left cnt ∧ w.mapTurned w' b := by
 have hmap := h.owns
 have hne := h.ne
 have hkk := K.key hkey
 obtain ⟨D, ⟨es, clock, since, seen, c0, hb, F, hs, rfl, hr, hold, hcnt, hl1, hl2, hsc, hsk⟩, hm⟩ := h
 have hroom : es.size < maxLen := Nat.lt_of_le_of_lt hs hn
 obtain ⟨es1, clock1, hrun1, F1, hput1, _⟩ := Maps.fit_store (R' := anyElem) K ht hb F hroom (fun _ _ _ _ hz => hz) hkey (val := val) (yv := (.held val, [])) rfl
 rcases K.find w hkey es.toList F.keys with ⟨h1, h2⟩ | ⟨j, e0, h1, h2, h3⟩
 · exfalso
   rw [← hm kl hkk, ← ofD_has ⟨es, clock, hb, F, Nat.le_refl _, rfl⟩ K hkk] at hp
   obtain ⟨p, hp1, hp2⟩ := List.any_eq_true.1 (show (List.foldr DataW.insert [] _).any (fun p => p.1.sameKey kl) = true from hp)
   obtain ⟨x, hx, rfl⟩ := List.mem_map.1 (mem_sorted.1 hp1)
   obtain ⟨y, hy⟩ := F.reads x hx
   have hxk := WideAt.sameKey_eq hp2
   rw [rg_of hy] at hxk
   exact h2 x hx (K.inj (hxk ▸ rd_key hy) hkey)
 · have hjl : j < es.toList.length := (List.getElem?_eq_some_iff.1 h2).1
   have hj : es[j]? = some e0 := by simpa using h2
   have hrun2 : (Instr.mapUpdate t (.map (some b)) key val).run P w = .ok () (setBlock w b (.map (es.modify j (fun e' => { e' with key := key, val := val })) clock)) := by
    simp [Instr.mapUpdate, run_underlying ht, MapKept.run_getObj_map hb, K.check w false hkey, h1, hj, h3, K.stays w hkey, MapKept.run_setObj_map _ hb, Result.andThen, setBlock]
   have heq : es1 = es.modify j (fun e' => { e' with key := key, val := val }) ∧ clock1 = clock := by
    rw [hrun1] at hrun2
    injection hrun2 with _ hw
    have e1 : (setBlock w b (.map es1 clock1)).heap[b]? = some (.map es1 clock1) := heap_setBlock_same hb _
    rw [hw, heap_setBlock_same hb _] at e1
    injection e1 with e1
    injection e1 with e1 e2
    exact ⟨e1.symm, e2.symm⟩
   obtain ⟨rfl, rfl⟩ := heq
   have hlist : (es.modify j (fun e' => { e' with key := key, val := val })).toList = es.toList.set j { e0 with key := key, val := val } := by
    rw [Array.toList_modify, modify_eq_set _ _ _ _ h2]
   have he0 : e0 ∈ es.toList := List.mem_of_getElem? h2
   have who : ∀ x ∈ es.toList.set j { e0 with key := key, val := val }, x = { e0 with key := key, val := val } ∨ x ∈ es.toList := by
    intro x hx
    rcases List.mem_or_eq_of_mem_set hx with h | h
    · exact .inr h
    · exact .inl h
   have rgsame : (rg P k anyElem { e0 with key := key, val := val }).1 = (rg P k anyElem e0).1 := by
    obtain ⟨y, hy⟩ := F.reads e0 he0
    have e2 := rd_mk (P := P) (k := k) (R := anyElem) (born := e0.born) hkey (show anyElem val = some (.held val, []) from rfl)
    rw [rg_of hy]
    have e3 : rg P k anyElem { e0 with key := key, val := val } = (kl, .held val) := rg_of e2
    rw [e3]
    have := rd_key hy
    rw [h3, hkey] at this
    injection this
   refine ⟨_, hrun1, ⟨_, ⟨_, clock1, since, seen, c0, heap_setBlock_same hb _, F1, by simpa using hs, rfl, (heap_setBlock_other hb _ hne).trans hr, fun x hx => ?_, ?_, fun x hx => ?_, fun kl' hkl' => ?_, hsc, hsk⟩, fun x hx => ?_⟩, ⟨es, clock1, _, clock1, hb, rfl⟩⟩
   · rw [hlist] at hx
     rcases who x hx with rfl | hx
     · exact hold e0 he0
     · exact hold x hx
   · rw [← hcnt]
     have e1 : ∀ a : Array MapEntry, (leftOf a seen).size = (a.toList.map (·.born)).countP (fun z => !seen.contains z) := fun a => by
      have e0' : (leftOf a seen).size = (a.toList.filter fun e => !seen.contains e.born).length := by
       unfold leftOf
       rw [← Array.toList_filter, Array.length_toList]
      rw [e0', ← List.countP_eq_length_filter, List.countP_map]
      rfl
     rw [e1, e1, hlist, List.map_set]
     congr 1
     apply List.ext_getElem?
     intro i
     rw [List.getElem?_set]
     split
     · rename_i hij
       subst hij
       rw [if_pos (by simpa using hjl), List.getElem?_map, h2]
       rfl
     · rfl
   · rw [hlist] at hx
     rcases who x hx with rfl | hx
     · rw [rgsame]; exact hl1 e0 he0
     · exact hl1 x hx
   · obtain ⟨x, hx, hxk⟩ := hl2 kl' hkl'
     obtain ⟨i, hi⟩ := List.getElem?_of_mem hx
     by_cases hij : i = j
     · subst hij
       rw [h2] at hi
       cases hi
       exact ⟨{ e0 with key := key, val := val }, by rw [hlist]; exact List.mem_of_getElem? (i := i) (by rw [List.getElem?_set_self hjl]), by rw [rgsame]; exact hxk⟩
     · exact ⟨x, by rw [hlist]; exact List.mem_of_getElem? (i := i) (by rw [List.getElem?_set_ne (fun e => hij e.symm)]; exact hi), hxk⟩
   · rw [hput1, ← DataW.put_eq]
     unfold updM
     by_cases hsx : x.sameKey kl = true
     · rw [if_pos hsx]
       have : x = kl := WideAt.sameKey_eq hsx
       subst this
       unfold ofD
       rw [Maps.atKey_put_same ⟨_, rfl⟩ hx]
     · rw [if_neg hsx, ← hm x hx]
       have hne' : x ≠ kl := fun e => hsx (by rw [e]; exact WideAt.sameKey_self (e ▸ hx))
       unfold ofD
       rw [Maps.atKey_put_other hne']
end
end
end Go.Proofs.YtpcnolkdnmolgaaGreatDoor
