/- Sorting a row of uint32: the heap. -/
import Derived.Test.YtpcjbfhgmcioaaaGreatKC
namespace Go.Proofs.YtpcjbfhgmcioaaaGreat
open Go.RowKit Go.Sort

section
variable {α : Type} [Inhabited α] {lt : α → α → Bool}
theorem sift_end {hi f r : Nat} {d : Array α} (h : hi ≤ 2 * r + 1) : siftDown lt hi f r d = d := by
  rw [siftDown, dif_pos h]
theorem sift_one {hi f r : Nat} {d : Array α} (h1 : 2 * r + 1 < hi) (h2 : ¬ 2 * r + 1 + 1 < hi ∨ lt d[f + (2 * r + 1)]! d[f + (2 * r + 1) + 1]! = false) :
    siftDown lt hi f r d = if lt d[f + r]! d[f + (2 * r + 1)]! = true then siftDown lt hi f (2 * r + 1) (swp d (f + r) (f + (2 * r + 1))) else d := by
  rw [siftDown, dif_neg (by omega)]
  have : (decide (2 * r + 1 + 1 < hi) && lt d[f + (2 * r + 1)]! d[f + (2 * r + 1) + 1]!) = false := by
    rcases h2 with h | h
    · simp [h]
    · rw [h]; simp
  rw [this]
  cases lt d[f + r]! d[f + (2 * r + 1)]! <;> simp
theorem sift_two {hi f r : Nat} {d : Array α} (h1 : 2 * r + 1 + 1 < hi) (h2 : lt d[f + (2 * r + 1)]! d[f + (2 * r + 1) + 1]! = true) :
    siftDown lt hi f r d = if lt d[f + r]! d[f + (2 * r + 1 + 1)]! = true then siftDown lt hi f (2 * r + 1 + 1) (swp d (f + r) (f + (2 * r + 1 + 1))) else d := by
  rw [siftDown, dif_neg (by omega)]
  have : (decide (2 * r + 1 + 1 < hi) && lt d[f + (2 * r + 1)]! d[f + (2 * r + 1) + 1]!) = true := by rw [h2]; simp [h1]
  rw [this]
  cases lt d[f + r]! d[f + (2 * r + 2)]! <;> simp [h1]
end
set_option maxRecDepth 100000 in
set_option maxHeartbeats 8000000 in
theorem u_sift (blk off n cap lo hi f : Nat) (d : Array Int) (w : World) (hH : Holds (Value.int .u32) w blk off d) (hn : d.size = n) (hb : f + hi ≤ n) (hlo : lo ≤ n) (hsz : n ≤ 60000) :
    Calls Tryz.prog 152 #[.slice (some ⟨blk, off, none⟩) n cap, .int .i64 lo, .int .i64 hi, .int .i64 f] w (Rowed w (.tuple #[]) blk off (siftDown ltInt hi f lo d)) := by
  have HR0 := Lib.hid (RowU.start hH)
  have HN := Lib.hid hn
  clear hH hn
  go_enter Tryz.func152, Tryz.ntmps152
  go_wp2
  go_loopw [8] (fun vr wr => ∃ (r : Nat) (dk : Array Int), vr = .int .i64 (r : Int) ∧ r ≤ n ∧ Hid (dk.size = n) ∧ Hid (RowU w wr blk off dk) ∧ Hid (siftDown ltInt hi f r dk = siftDown ltInt hi f lo d)) (fun vr _ => hi - (intOf vr).toNat)
  case atStart => exact ⟨lo, d, rfl, by omega, HN, HR0, rfl⟩
  case round =>
    obtain ⟨r, dk, rfl, hrn, HS, HR, HP⟩ := hrel
    obtain ⟨c, hc⟩ : ∃ c : Nat, 2 * r + 1 = c := ⟨_, rfl⟩
    have hcI : 2 * (r : Int) + 1 = (c : Int) := by omega
    have HC := Lib.hid hc
    have hcw : ∀ t, t < n → wr.cell? ⟨blk, off + t, none⟩ = some (.int .u32 (gA dk t)) := fun t ht => HR.out.cell HS.out ht
    have hfw : ∀ t, t < n → wr.frozen? ⟨blk, off + t, none⟩ = false := fun t ht => HR.out.frozen HS.out ht
    by_cases hch : c < hi
    · have hfr : (f : Int) + (r : Int) < (n : Int) := by omega
      have hfc : (f : Int) + (c : Int) < (n : Int) := by omega
      have hchI : (c : Int) < (hi : Int) := by omega
      by_cases hc2 : c + 1 < hi
      · have hc2I : (c : Int) + 1 < (hi : Int) := by omega
        have hfc2 : (f : Int) + (c : Int) + 1 < (n : Int) := by omega
        have hfc3 : (f : Int) + ((c : Int) + 1) < (n : Int) := by omega
        obtain ⟨b1, hb1⟩ : ∃ b1, ltInt (gA dk (f + c)) (gA dk (f + c + 1)) = b1 := ⟨_, rfl⟩
        have H1 := Lib.hid hb1
        clear hb1
        cases b1 with
        | true =>
          obtain ⟨b2, hb2⟩ : ∃ b2, ltInt (gA dk (f + r)) (gA dk (f + (c + 1))) = b2 := ⟨_, rfl⟩
          have H2 := Lib.hid hb2
          clear hb2
          cases b2 with
          | true =>
            have HQ : Hid (siftDown ltInt hi f (c + 1) (swp dk (f + r) (f + (c + 1))) = siftDown ltInt hi f lo d) := by
              show _ = _
              have hc := HC.out
              subst hc
              rw [← HP.out, sift_two hc2 H1.out, if_pos (show ltInt dk[f + r]! dk[f + (2 * r + 1 + 1)]! = true from H2.out)]
            go_wp2
            go_quiet ((go_at_call 143; exact quiet_eq (u_lessB _ _ _ H1.out _)))
            have HR2 := Lib.hid (HR.out.drewN nq)
            generalize wr.drewN nq = w2 at *
            have hcw : ∀ t, t < n → w2.cell? ⟨blk, off + t, none⟩ = some (.int .u32 (gA dk t)) := fun t ht => HR2.out.cell HS.out ht
            have hfw : ∀ t, t < n → w2.frozen? ⟨blk, off + t, none⟩ = false := fun t ht => HR2.out.frozen HS.out ht
            obtain ⟨v', hv'⟩ := cell?_setCell_some (w := w2) (p := ⟨blk, off + (f + r), none⟩) (x := .int .u32 (gA dk (f + (c + 1)))) (q := ⟨blk, off + (f + (c + 1)), none⟩) (v := .int .u32 (gA dk (f + (c + 1)))) (hcw (f + (c + 1)) (by omega))
            go_wp2
            go_quiet ((go_at_call 143; exact quiet_eq (u_lessB _ _ _ H2.out _)))
            go_wp2
            go_region
            all_goals go_wp2
            go_roundw
            case rel =>
              refine ⟨c + 1, swp dk (f + r) (f + (c + 1)), by go_num, by omega, (size_swp _ _ _).trans HS.out, ?_, HQ⟩
              have hh := HR2.out.swap (nq + 1) (f + r) (f + (c + 1)) (by rw [HS.out]; omega) (by rw [HS.out]; omega)
              exact hh
            case measure => simp [intOf]; omega
          | false =>
            have HQ : Hid (dk = siftDown ltInt hi f lo d) := by
              show _ = _
              have hc := HC.out
              subst hc
              rw [← HP.out, sift_two hc2 H1.out, if_neg (by rw [show ltInt dk[f + r]! dk[f + (2 * r + 1 + 1)]! = false from H2.out]; simp)]
            go_wp2
            go_quiet ((go_at_call 143; exact quiet_eq (u_lessB _ _ _ H1.out _)))
            have HR2 := Lib.hid (HR.out.drewN nq)
            generalize wr.drewN nq = w2 at *
            have hcw : ∀ t, t < n → w2.cell? ⟨blk, off + t, none⟩ = some (.int .u32 (gA dk t)) := fun t ht => HR2.out.cell HS.out ht
            have hfw : ∀ t, t < n → w2.frozen? ⟨blk, off + t, none⟩ = false := fun t ht => HR2.out.frozen HS.out ht
            go_wp2
            go_quiet ((go_at_call 143; exact quiet_eq (u_lessB _ _ _ H2.out _)))
            go_wp2
            go_end0
            exact ⟨rfl, by rw [← HQ.out]; exact (HR2.out.drewN _)⟩
        | false =>
          obtain ⟨b2, hb2⟩ : ∃ b2, ltInt (gA dk (f + r)) (gA dk (f + (c))) = b2 := ⟨_, rfl⟩
          have H2 := Lib.hid hb2
          clear hb2
          cases b2 with
          | true =>
            have HQ : Hid (siftDown ltInt hi f (c) (swp dk (f + r) (f + (c))) = siftDown ltInt hi f lo d) := by
              show _ = _
              have hc := HC.out
              subst hc
              rw [← HP.out, sift_one hch (.inr H1.out), if_pos (show ltInt dk[f + r]! dk[f + (2 * r + 1)]! = true from H2.out)]
            go_wp2
            go_quiet ((go_at_call 143; exact quiet_eq (u_lessB _ _ _ H1.out _)))
            have HR2 := Lib.hid (HR.out.drewN nq)
            generalize wr.drewN nq = w2 at *
            have hcw : ∀ t, t < n → w2.cell? ⟨blk, off + t, none⟩ = some (.int .u32 (gA dk t)) := fun t ht => HR2.out.cell HS.out ht
            have hfw : ∀ t, t < n → w2.frozen? ⟨blk, off + t, none⟩ = false := fun t ht => HR2.out.frozen HS.out ht
            obtain ⟨v', hv'⟩ := cell?_setCell_some (w := w2) (p := ⟨blk, off + (f + r), none⟩) (x := .int .u32 (gA dk (f + (c)))) (q := ⟨blk, off + (f + (c)), none⟩) (v := .int .u32 (gA dk (f + (c)))) (hcw (f + (c)) (by omega))
            go_wp2
            go_quiet ((go_at_call 143; exact quiet_eq (u_lessB _ _ _ H2.out _)))
            go_wp2
            go_region
            all_goals go_wp2
            go_roundw
            case rel =>
              refine ⟨c, swp dk (f + r) (f + (c)), by go_num, by omega, (size_swp _ _ _).trans HS.out, ?_, HQ⟩
              have hh := HR2.out.swap (nq + 1) (f + r) (f + (c)) (by rw [HS.out]; omega) (by rw [HS.out]; omega)
              exact hh
            case measure => simp [intOf]; omega
          | false =>
            have HQ : Hid (dk = siftDown ltInt hi f lo d) := by
              show _ = _
              have hc := HC.out
              subst hc
              rw [← HP.out, sift_one hch (.inr H1.out), if_neg (by rw [show ltInt dk[f + r]! dk[f + (2 * r + 1)]! = false from H2.out]; simp)]
            go_wp2
            go_quiet ((go_at_call 143; exact quiet_eq (u_lessB _ _ _ H1.out _)))
            have HR2 := Lib.hid (HR.out.drewN nq)
            generalize wr.drewN nq = w2 at *
            have hcw : ∀ t, t < n → w2.cell? ⟨blk, off + t, none⟩ = some (.int .u32 (gA dk t)) := fun t ht => HR2.out.cell HS.out ht
            have hfw : ∀ t, t < n → w2.frozen? ⟨blk, off + t, none⟩ = false := fun t ht => HR2.out.frozen HS.out ht
            go_wp2
            go_quiet ((go_at_call 143; exact quiet_eq (u_lessB _ _ _ H2.out _)))
            go_wp2
            go_end0
            exact ⟨rfl, by rw [← HQ.out]; exact (HR2.out.drewN _)⟩
      · have hc2I : (hi : Int) ≤ (c : Int) + 1 := by omega
        have hc2D : decide ((c : Int) + 1 < (hi : Int)) = false := by simp; omega
        obtain ⟨b2, hb2⟩ : ∃ b2, ltInt (gA dk (f + r)) (gA dk (f + (c))) = b2 := ⟨_, rfl⟩
        have H2 := Lib.hid hb2
        clear hb2
        cases b2 with
        | true =>
          have HQ : Hid (siftDown ltInt hi f (c) (swp dk (f + r) (f + (c))) = siftDown ltInt hi f lo d) := by
            show _ = _
            have hc := HC.out
            subst hc
            rw [← HP.out, sift_one hch (.inl hc2), if_pos (show ltInt dk[f + r]! dk[f + (2 * r + 1)]! = true from H2.out)]
          go_wp2
          go_quiet ((go_at_call 143; exact quiet_eq (u_less _ _ _)))
          have HR2 := Lib.hid (HR.out.drewN nq)
          generalize wr.drewN nq = w2 at *
          have hcw : ∀ t, t < n → w2.cell? ⟨blk, off + t, none⟩ = some (.int .u32 (gA dk t)) := fun t ht => HR2.out.cell HS.out ht
          have hfw : ∀ t, t < n → w2.frozen? ⟨blk, off + t, none⟩ = false := fun t ht => HR2.out.frozen HS.out ht
          obtain ⟨v', hv'⟩ := cell?_setCell_some (w := w2) (p := ⟨blk, off + (f + r), none⟩) (x := .int .u32 (gA dk (f + (c)))) (q := ⟨blk, off + (f + (c)), none⟩) (v := .int .u32 (gA dk (f + (c)))) (hcw (f + (c)) (by omega))
          go_wp2
          go_quiet ((go_at_call 143; exact quiet_eq (u_lessB _ _ _ H2.out _)))
          go_wp2
          go_region
          all_goals go_wp2
          go_roundw
          case rel =>
            refine ⟨c, swp dk (f + r) (f + (c)), by go_num, by omega, (size_swp _ _ _).trans HS.out, ?_, HQ⟩
            have hh := HR2.out.swap (nq + 1) (f + r) (f + (c)) (by rw [HS.out]; omega) (by rw [HS.out]; omega)
            exact hh
          case measure => simp [intOf]; omega
        | false =>
          have HQ : Hid (dk = siftDown ltInt hi f lo d) := by
            show _ = _
            have hc := HC.out
            subst hc
            rw [← HP.out, sift_one hch (.inl hc2), if_neg (by rw [show ltInt dk[f + r]! dk[f + (2 * r + 1)]! = false from H2.out]; simp)]
          go_wp2
          go_quiet ((go_at_call 143; exact quiet_eq (u_less _ _ _)))
          have HR2 := Lib.hid (HR.out.drewN nq)
          generalize wr.drewN nq = w2 at *
          have hcw : ∀ t, t < n → w2.cell? ⟨blk, off + t, none⟩ = some (.int .u32 (gA dk t)) := fun t ht => HR2.out.cell HS.out ht
          have hfw : ∀ t, t < n → w2.frozen? ⟨blk, off + t, none⟩ = false := fun t ht => HR2.out.frozen HS.out ht
          go_wp2
          go_quiet ((go_at_call 143; exact quiet_eq (u_lessB _ _ _ H2.out _)))
          go_wp2
          go_end0
          exact ⟨rfl, by rw [← HQ.out]; exact (HR2.out.drewN _)⟩
    · have HF : Hid (Rowed w (.tuple #[]) blk off (siftDown ltInt hi f lo d) (.returned (.tuple #[])) wr) := ⟨rfl, by rw [← HP.out, sift_end (by omega)]; exact HR.out⟩
      have hchI : (hi : Int) ≤ (c : Int) := by omega
      go_wp2
      go_end0
      exact HF.out
theorem u_siftAt (blk off n cap f hi lo : Nat) (d dk : Array Int) (w wr : World) (HR : RowU w wr blk off dk) (hS : dk.size = n) (hb : f + hi ≤ n) (hlo : lo ≤ n) (hsz : n ≤ 60000) :
    Calls Tryz.prog 152 #[.slice (some ⟨blk, off, none⟩) n cap, .int .i64 lo, .int .i64 hi, .int .i64 f] wr fun e w' => e = .returned (.tuple #[]) ∧ RowU w w' blk off (siftDown ltInt hi f lo dk) :=
  (u_sift blk off n cap lo hi f dk wr HR.holds hS hb hlo hsz).mono fun e w' h => ⟨h.1, HR.trans h.2⟩
theorem size_sift {lt : Int → Int → Bool} (hi f : Nat) : ∀ (k r : Nat) (d : Array Int), hi - r ≤ k → (siftDown lt hi f r d).size = d.size
  | 0, r, d, h => by rw [sift_end (by omega)]
  | k + 1, r, d, h => by
    by_cases h1 : 2 * r + 1 < hi
    · cases hl : lt d[f + (2 * r + 1)]! d[f + (2 * r + 1) + 1]! with
      | true =>
        by_cases h2 : 2 * r + 1 + 1 < hi
        · rw [sift_two h2 hl]
          split
          · rw [size_sift hi f k _ _ (by omega), size_swp]
          · rfl
        · rw [sift_one h1 (.inl h2)]
          split
          · rw [size_sift hi f k _ _ (by omega), size_swp]
          · rfl
      | false =>
        rw [sift_one h1 (.inr hl)]
        split
        · rw [size_sift hi f k _ _ (by omega), size_swp]
        · rfl
    · rw [sift_end (by omega)]
set_option maxRecDepth 100000 in
set_option maxHeartbeats 8000000 in
theorem u_heap (blk off n cap a L : Nat) (d : Array Int) (w : World) (hH : Holds (Value.int .u32) w blk off d) (hn : d.size = n) (h1 : 1 ≤ L) (hb : a + L ≤ n) (hsz : n ≤ 60000) :
    Calls Tryz.prog 138 #[.slice (some ⟨blk, off, none⟩) n cap, .int .i64 a, .int .i64 ((a : Int) + (L : Int))] w (Rowed w (.tuple #[]) blk off (heapSort ltInt d a (a + L))) := by
  have HR0 := Lib.hid (RowU.start hH)
  have HN := Lib.hid hn
  have hLa : (a : Int) + (L : Int) - (a : Int) = (L : Int) := by omega
  obtain ⟨h, hh⟩ : ∃ h : Nat, (L - 1) / 2 = h := ⟨_, rfl⟩
  have hhI : ((L : Int) - 1) / 2 = (h : Int) := by omega
  have h1I : 1 ≤ (L : Int) := by omega
  have HHI := Lib.hid hhI
  have HT : Hid (heapSort ltInt d a (a + L) = heapPop ltInt a L (heapBuild ltInt L a (h + 1) d)) := by
    show _ = _
    unfold heapSort
    rw [show a + L - a = L by omega, hh]
  have hhL : h + 1 ≤ L := by omega
  clear hH hn hh hhI
  go_enter Tryz.func138, Tryz.ntmps138
  go_wp2
  go_loopw [9] (fun vi wr => ∃ (v : Int) (k : Nat) (dk : Array Int), vi = .int .i64 v ∧ v + 1 = (k : Int) ∧ k ≤ h + 1 ∧ Hid (dk.size = n) ∧ Hid (RowU w wr blk off dk) ∧ Hid (heapBuild ltInt L a k dk = heapBuild ltInt L a (h + 1) d)) (fun vi _ => (intOf vi + 1).toNat)
  case atStart => exact ⟨h, h + 1, d, by rw [HHI.out], by omega, by omega, HN, HR0, rfl⟩
  case round =>
    obtain ⟨v, k, dk, rfl, hv, hk, HS, HR, HP⟩ := hrel
    cases k with
    | succ k =>
      obtain rfl : v = (k : Int) := by omega
      clear hv
      have HC := Lib.hid (u_siftAt blk off n cap a L k d dk w wr HR.out HS.out hb (by omega) hsz)
      go_wp2_with (go_at_call 152; (with_reducible refine HC.out.mono ?_); rintro e w2 ⟨rfl, hr2⟩; have HR2 := Lib.hid hr2; clear hr2)
      go_roundw
      case rel => exact ⟨(k : Int) - 1, k, siftDown ltInt L a k dk, rfl, by omega, by omega, (size_sift L a (L - k) k dk (by omega)).trans HS.out, HR2, HP.out⟩
      case measure => simp [intOf]
    | zero =>
      obtain rfl : v = -1 := by omega
      have HP0 : Hid (dk = heapBuild ltInt L a (h + 1) d) := HP.out
      clear hv hk HP
      go_wp2
      go_loopw [10] (fun vi wr => ∃ (v : Int) (k : Nat) (dj : Array Int), vi = .int .i64 v ∧ v + 1 = (k : Int) ∧ k ≤ L ∧ Hid (dj.size = n) ∧ Hid (RowU w wr blk off dj) ∧ Hid (heapPop ltInt a k dj = heapPop ltInt a L dk)) (fun vi _ => (intOf vi + 1).toNat)
      case atStart => exact ⟨(L : Int) - 1, L, dk, rfl, by omega, by omega, HS, HR, rfl⟩
      case round =>
        obtain ⟨v, k, dj, rfl, hv, hk, HS2, HR2, HP2⟩ := hrel
        cases k with
        | succ k =>
          obtain rfl : v = (k : Int) := by omega
          clear hv
          have hcw : ∀ t, t < n → wr.cell? ⟨blk, off + t, none⟩ = some (.int .u32 (gA dj t)) := fun t ht => HR2.out.cell HS2.out ht
          have hfw : ∀ t, t < n → wr.frozen? ⟨blk, off + t, none⟩ = false := fun t ht => HR2.out.frozen HS2.out ht
          have hkI : (a : Int) + (k : Int) < (n : Int) := by omega
          have haI : (a : Int) < (n : Int) := by omega
          obtain ⟨v', hv'⟩ := cell?_setCell_some (w := wr) (p := ⟨blk, off + a, none⟩) (x := .int .u32 (gA dj (a + k))) (q := ⟨blk, off + (a + k), none⟩) (v := .int .u32 (gA dj (a + k))) (hcw (a + k) (by omega))
          have HW := Lib.hid (HR2.out.swap 1 a (a + k) (by rw [HS2.out]; omega) (by rw [HS2.out]; omega))
          go_wp2
          go_region
          go_wp2_with (go_at_call 152; refine (u_siftAt blk off n cap a k 0 d (swp dj a (a + k)) w _ HW.out ((size_swp _ _ _).trans HS2.out) (by omega) (by omega) hsz).mono ?_; rintro e w2 ⟨rfl, hr2⟩; have HR3 := Lib.hid hr2; clear hr2)
          go_roundw
          case rel => exact ⟨(k : Int) - 1, k, siftDown ltInt k a 0 (swp dj a (a + k)), rfl, by omega, by omega, (size_sift k a k 0 _ (by omega)).trans ((size_swp _ _ _).trans HS2.out), HR3, HP2.out⟩
          case measure => simp [intOf]
        | zero =>
          obtain rfl : v = -1 := by omega
          have HF : Hid (Rowed w (.tuple #[]) blk off (heapSort ltInt d a (a + L)) (.returned (.tuple #[])) wr) := ⟨rfl, by
            have e : heapSort ltInt d a (a + L) = dj := by rw [HT.out, ← HP0.out, ← HP2.out]; rfl
            rw [e]; exact HR2.out⟩
          go_wp2
          go_end0
          exact HF.out
end Go.Proofs.YtpcjbfhgmcioaaaGreat
