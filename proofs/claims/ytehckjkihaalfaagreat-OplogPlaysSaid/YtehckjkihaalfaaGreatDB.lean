/- Records as the document has them: which may be, walked. -/
import Derived.Test.YtehckjkihaalfaaGreatDA
namespace Go.Proofs.YtehckjkihaalfaaGreat
open Go.RowKit

set_option maxRecDepth 100000 in
set_option maxHeartbeats 8000000 in
theorem t_may1 (r : R) (w : World) (hr : r.act = 1) (hs : r.name.size ≤ maxLen) (hs2 : r.name2.size ≤ maxLen) (hs3 : r.data.size ≤ maxLen) : Calls Tryz.prog 64 #[r.val] w fun e w' => e = .returned (.bool (mayB r)) ∧ Below w.heap.size w w' := by
  unfold R.val
  obtain ⟨st, act, dir, name, ino, kind, dir2, name2, old, size, page, data⟩ := r
  simp only [] at hr hs hs2 hs3 ⊢
  subst hr
  have hs3' : data.size ≤ 9223372036854775807 := by unfold maxLen at hs3; omega
  obtain ⟨bI, hI⟩ : ∃ b, rinoB ino = b := ⟨_, rfl⟩
  have HI := Lib.hid hI
  clear hI
  obtain ⟨bD, hD⟩ : ∃ b, rinoB dir = b := ⟨_, rfl⟩
  have HD := Lib.hid hD
  clear hD
  obtain ⟨bN, hN⟩ : ∃ b, nameB name = b := ⟨_, rfl⟩
  have HN := Lib.hid hN
  clear hN
  obtain ⟨bm, hbm⟩ : ∃ b, mayB ⟨st, 1, dir, name, ino, kind, dir2, name2, old, size, page, data⟩ = b := ⟨_, rfl⟩
  rw [hbm]
  have HM := Lib.hid hbm
  clear hbm
  go_enter Tryz.func64, Tryz.ntmps64
  go_wp2_with (first | (go_at_call 99; refine (t_of_lit 1 (by omega) _).mono ?_; rw [show needsA 1 = #[.bool true, .bool true, .bool false, .bool false, .bool false] from rfl]; rintro e w1 ⟨rfl, rfl⟩) | (go_at_call 100; (with_reducible refine (t_rino ino _ HI.out _).mono ?_); rintro e w' ⟨rfl, rfl⟩) | (go_at_call 100; (with_reducible refine (t_rino dir _ HD.out _).mono ?_); rintro e w' ⟨rfl, rfl⟩) | (go_at_call 101; (with_reducible refine (t_name name _ HN.out _ hs).mono ?_); rintro e w' ⟨rfl, rfl⟩))
  all_goals
    go_ret
    refine ⟨ret_bool ?_, ((Below.refl _ w).alloc (Nat.le_refl _) _).alloc (by simp) _ |>.alloc (by simp; omega) _⟩
    have hm := HM.out
    have h1 := HI.out
    have h2 := HD.out
    have h3 := HN.out
    rw [← hm]
    clear hm HM
    first
      | (simp_all [mayB]; done)
      | (simp_all [mayB]; intros; omega)
      | (simp_all [mayB]; rw [Bool.eq_iff_iff]; simp; omega)
set_option maxRecDepth 100000 in
set_option maxHeartbeats 8000000 in
theorem t_may2 (r : R) (w : World) (hr : r.act = 2) (hs : r.name.size ≤ maxLen) (hs2 : r.name2.size ≤ maxLen) (hs3 : r.data.size ≤ maxLen) : Calls Tryz.prog 64 #[r.val] w fun e w' => e = .returned (.bool (mayB r)) ∧ Below w.heap.size w w' := by
  unfold R.val
  obtain ⟨st, act, dir, name, ino, kind, dir2, name2, old, size, page, data⟩ := r
  simp only [] at hr hs hs2 hs3 ⊢
  subst hr
  have hs3' : data.size ≤ 9223372036854775807 := by unfold maxLen at hs3; omega
  obtain ⟨bI, hI⟩ : ∃ b, rinoB ino = b := ⟨_, rfl⟩
  have HI := Lib.hid hI
  clear hI
  obtain ⟨bD, hD⟩ : ∃ b, rinoB dir = b := ⟨_, rfl⟩
  have HD := Lib.hid hD
  clear hD
  obtain ⟨bN, hN⟩ : ∃ b, nameB name = b := ⟨_, rfl⟩
  have HN := Lib.hid hN
  clear hN
  obtain ⟨bm, hbm⟩ : ∃ b, mayB ⟨st, 2, dir, name, ino, kind, dir2, name2, old, size, page, data⟩ = b := ⟨_, rfl⟩
  rw [hbm]
  have HM := Lib.hid hbm
  clear hbm
  go_enter Tryz.func64, Tryz.ntmps64
  go_wp2_with (first | (go_at_call 99; refine (t_of_lit 2 (by omega) _).mono ?_; rw [show needsA 2 = #[.bool true, .bool false, .bool false, .bool false, .bool false] from rfl]; rintro e w1 ⟨rfl, rfl⟩) | (go_at_call 100; (with_reducible refine (t_rino ino _ HI.out _).mono ?_); rintro e w' ⟨rfl, rfl⟩) | (go_at_call 100; (with_reducible refine (t_rino dir _ HD.out _).mono ?_); rintro e w' ⟨rfl, rfl⟩) | (go_at_call 101; (with_reducible refine (t_name name _ HN.out _ hs).mono ?_); rintro e w' ⟨rfl, rfl⟩))
  all_goals
    go_ret
    refine ⟨ret_bool ?_, ((Below.refl _ w).alloc (Nat.le_refl _) _).alloc (by simp) _ |>.alloc (by simp; omega) _⟩
    have hm := HM.out
    have h1 := HI.out
    have h2 := HD.out
    have h3 := HN.out
    rw [← hm]
    clear hm HM
    first
      | (simp_all [mayB]; done)
      | (simp_all [mayB]; intros; omega)
      | (simp_all [mayB]; rw [Bool.eq_iff_iff]; simp; omega)
set_option maxRecDepth 100000 in
set_option maxHeartbeats 8000000 in
theorem t_may3 (r : R) (w : World) (hr : r.act = 3) (hs : r.name.size ≤ maxLen) (hs2 : r.name2.size ≤ maxLen) (hs3 : r.data.size ≤ maxLen) : Calls Tryz.prog 64 #[r.val] w fun e w' => e = .returned (.bool (mayB r)) ∧ Below w.heap.size w w' := by
  unfold R.val
  obtain ⟨st, act, dir, name, ino, kind, dir2, name2, old, size, page, data⟩ := r
  simp only [] at hr hs hs2 hs3 ⊢
  subst hr
  have hs3' : data.size ≤ 9223372036854775807 := by unfold maxLen at hs3; omega
  obtain ⟨bI, hI⟩ : ∃ b, rinoB ino = b := ⟨_, rfl⟩
  have HI := Lib.hid hI
  clear hI
  obtain ⟨bD, hD⟩ : ∃ b, rinoB dir = b := ⟨_, rfl⟩
  have HD := Lib.hid hD
  clear hD
  obtain ⟨bN, hN⟩ : ∃ b, nameB name = b := ⟨_, rfl⟩
  have HN := Lib.hid hN
  clear hN
  obtain ⟨bm, hbm⟩ : ∃ b, mayB ⟨st, 3, dir, name, ino, kind, dir2, name2, old, size, page, data⟩ = b := ⟨_, rfl⟩
  rw [hbm]
  have HM := Lib.hid hbm
  clear hbm
  go_enter Tryz.func64, Tryz.ntmps64
  go_wp2_with (first | (go_at_call 99; refine (t_of_lit 3 (by omega) _).mono ?_; rw [show needsA 3 = #[.bool true, .bool true, .bool false, .bool false, .bool false] from rfl]; rintro e w1 ⟨rfl, rfl⟩) | (go_at_call 100; (with_reducible refine (t_rino ino _ HI.out _).mono ?_); rintro e w' ⟨rfl, rfl⟩) | (go_at_call 100; (with_reducible refine (t_rino dir _ HD.out _).mono ?_); rintro e w' ⟨rfl, rfl⟩) | (go_at_call 101; (with_reducible refine (t_name name _ HN.out _ hs).mono ?_); rintro e w' ⟨rfl, rfl⟩))
  all_goals
    go_ret
    refine ⟨ret_bool ?_, ((Below.refl _ w).alloc (Nat.le_refl _) _).alloc (by simp) _ |>.alloc (by simp; omega) _⟩
    have hm := HM.out
    have h1 := HI.out
    have h2 := HD.out
    have h3 := HN.out
    rw [← hm]
    clear hm HM
    first
      | (simp_all [mayB]; done)
      | (simp_all [mayB]; intros; omega)
      | (simp_all [mayB]; rw [Bool.eq_iff_iff]; simp; omega)
set_option maxRecDepth 100000 in
set_option maxHeartbeats 8000000 in
theorem t_may4 (r : R) (w : World) (hr : r.act = 4) (hs : r.name.size ≤ maxLen) (hs2 : r.name2.size ≤ maxLen) (hs3 : r.data.size ≤ maxLen) : Calls Tryz.prog 64 #[r.val] w fun e w' => e = .returned (.bool (mayB r)) ∧ Below w.heap.size w w' := by
  unfold R.val
  obtain ⟨st, act, dir, name, ino, kind, dir2, name2, old, size, page, data⟩ := r
  simp only [] at hr hs hs2 hs3 ⊢
  subst hr
  have hs3' : data.size ≤ 9223372036854775807 := by unfold maxLen at hs3; omega
  obtain ⟨bI, hI⟩ : ∃ b, rinoB ino = b := ⟨_, rfl⟩
  have HI := Lib.hid hI
  clear hI
  obtain ⟨bD, hD⟩ : ∃ b, rinoB dir = b := ⟨_, rfl⟩
  have HD := Lib.hid hD
  clear hD
  obtain ⟨bN, hN⟩ : ∃ b, nameB name = b := ⟨_, rfl⟩
  have HN := Lib.hid hN
  clear hN
  obtain ⟨bD2, hD2⟩ : ∃ b, rinoB dir2 = b := ⟨_, rfl⟩
  have HD2 := Lib.hid hD2
  clear hD2
  obtain ⟨bN2, hN2⟩ : ∃ b, nameB name2 = b := ⟨_, rfl⟩
  have HN2 := Lib.hid hN2
  clear hN2
  obtain ⟨bm, hbm⟩ : ∃ b, mayB ⟨st, 4, dir, name, ino, kind, dir2, name2, old, size, page, data⟩ = b := ⟨_, rfl⟩
  rw [hbm]
  have HM := Lib.hid hbm
  clear hbm
  go_enter Tryz.func64, Tryz.ntmps64
  go_wp2_with (first | (go_at_call 99; refine (t_of_lit 4 (by omega) _).mono ?_; rw [show needsA 4 = #[.bool true, .bool true, .bool true, .bool false, .bool false] from rfl]; rintro e w1 ⟨rfl, rfl⟩) | (go_at_call 100; (with_reducible refine (t_rino ino _ HI.out _).mono ?_); rintro e w' ⟨rfl, rfl⟩) | (go_at_call 100; (with_reducible refine (t_rino dir _ HD.out _).mono ?_); rintro e w' ⟨rfl, rfl⟩) | (go_at_call 101; (with_reducible refine (t_name name _ HN.out _ hs).mono ?_); rintro e w' ⟨rfl, rfl⟩) | (go_at_call 100; (with_reducible refine (t_rino dir2 _ HD2.out _).mono ?_); rintro e w' ⟨rfl, rfl⟩) | (go_at_call 101; (with_reducible refine (t_name name2 _ HN2.out _ hs2).mono ?_); rintro e w' ⟨rfl, rfl⟩))
  all_goals
    go_ret
    refine ⟨ret_bool ?_, ((Below.refl _ w).alloc (Nat.le_refl _) _).alloc (by simp) _ |>.alloc (by simp; omega) _⟩
    have hm := HM.out
    have h1 := HI.out
    have h2 := HD.out
    have h3 := HN.out
    have h4 := HD2.out
    have h5 := HN2.out
    rw [← hm]
    clear hm HM
    first
      | (simp_all [mayB]; done)
      | (simp_all [mayB]; intros; omega)
      | (simp_all [mayB]; rw [Bool.eq_iff_iff]; simp; omega)
set_option maxRecDepth 100000 in
set_option maxHeartbeats 8000000 in
theorem t_may5 (r : R) (w : World) (hr : r.act = 5) (hs : r.name.size ≤ maxLen) (hs2 : r.name2.size ≤ maxLen) (hs3 : r.data.size ≤ maxLen) : Calls Tryz.prog 64 #[r.val] w fun e w' => e = .returned (.bool (mayB r)) ∧ Below w.heap.size w w' := by
  unfold R.val
  obtain ⟨st, act, dir, name, ino, kind, dir2, name2, old, size, page, data⟩ := r
  simp only [] at hr hs hs2 hs3 ⊢
  subst hr
  have hs3' : data.size ≤ 9223372036854775807 := by unfold maxLen at hs3; omega
  obtain ⟨bI, hI⟩ : ∃ b, rinoB ino = b := ⟨_, rfl⟩
  have HI := Lib.hid hI
  clear hI
  obtain ⟨bm, hbm⟩ : ∃ b, mayB ⟨st, 5, dir, name, ino, kind, dir2, name2, old, size, page, data⟩ = b := ⟨_, rfl⟩
  rw [hbm]
  have HM := Lib.hid hbm
  clear hbm
  go_enter Tryz.func64, Tryz.ntmps64
  go_wp2_with (first | (go_at_call 99; refine (t_of_lit 5 (by omega) _).mono ?_; rw [show needsA 5 = #[.bool false, .bool false, .bool false, .bool true, .bool false] from rfl]; rintro e w1 ⟨rfl, rfl⟩) | (go_at_call 100; (with_reducible refine (t_rino ino _ HI.out _).mono ?_); rintro e w' ⟨rfl, rfl⟩))
  all_goals
    go_ret
    refine ⟨ret_bool ?_, ((Below.refl _ w).alloc (Nat.le_refl _) _).alloc (by simp) _ |>.alloc (by simp; omega) _⟩
    have hm := HM.out
    have h1 := HI.out
    rw [← hm]
    clear hm HM
    first
      | (simp_all [mayB]; done)
      | (simp_all [mayB]; intros; omega)
      | (simp_all [mayB]; rw [Bool.eq_iff_iff]; simp; omega)
set_option maxRecDepth 100000 in
set_option maxHeartbeats 8000000 in
theorem t_may6 (r : R) (w : World) (hr : r.act = 6) (hs : r.name.size ≤ maxLen) (hs2 : r.name2.size ≤ maxLen) (hs3 : r.data.size ≤ maxLen) : Calls Tryz.prog 64 #[r.val] w fun e w' => e = .returned (.bool (mayB r)) ∧ Below w.heap.size w w' := by
  unfold R.val
  obtain ⟨st, act, dir, name, ino, kind, dir2, name2, old, size, page, data⟩ := r
  simp only [] at hr hs hs2 hs3 ⊢
  subst hr
  have hs3' : data.size ≤ 9223372036854775807 := by unfold maxLen at hs3; omega
  obtain ⟨bI, hI⟩ : ∃ b, rinoB ino = b := ⟨_, rfl⟩
  have HI := Lib.hid hI
  clear hI
  obtain ⟨bm, hbm⟩ : ∃ b, mayB ⟨st, 6, dir, name, ino, kind, dir2, name2, old, size, page, data⟩ = b := ⟨_, rfl⟩
  rw [hbm]
  have HM := Lib.hid hbm
  clear hbm
  go_enter Tryz.func64, Tryz.ntmps64
  go_wp2_with (first | (go_at_call 99; refine (t_of_lit 6 (by omega) _).mono ?_; rw [show needsA 6 = #[.bool false, .bool false, .bool false, .bool true, .bool true] from rfl]; rintro e w1 ⟨rfl, rfl⟩) | (go_at_call 100; (with_reducible refine (t_rino ino _ HI.out _).mono ?_); rintro e w' ⟨rfl, rfl⟩))
  all_goals
    go_ret
    refine ⟨ret_bool ?_, ((Below.refl _ w).alloc (Nat.le_refl _) _).alloc (by simp) _ |>.alloc (by simp; omega) _⟩
    have hm := HM.out
    have h1 := HI.out
    rw [← hm]
    clear hm HM
    first
      | (simp_all [mayB]; done)
      | (simp_all [mayB]; intros; omega)
      | (simp_all [mayB]; rw [Bool.eq_iff_iff]; simp; omega)
set_option maxRecDepth 100000 in
set_option maxHeartbeats 8000000 in
theorem t_may7 (r : R) (w : World) (hr : r.act = 7) (hs : r.name.size ≤ maxLen) (hs2 : r.name2.size ≤ maxLen) (hs3 : r.data.size ≤ maxLen) : Calls Tryz.prog 64 #[r.val] w fun e w' => e = .returned (.bool (mayB r)) ∧ Below w.heap.size w w' := by
  unfold R.val
  obtain ⟨st, act, dir, name, ino, kind, dir2, name2, old, size, page, data⟩ := r
  simp only [] at hr hs hs2 hs3 ⊢
  subst hr
  have hs3' : data.size ≤ 9223372036854775807 := by unfold maxLen at hs3; omega
  obtain ⟨bI, hI⟩ : ∃ b, rinoB ino = b := ⟨_, rfl⟩
  have HI := Lib.hid hI
  clear hI
  obtain ⟨bm, hbm⟩ : ∃ b, mayB ⟨st, 7, dir, name, ino, kind, dir2, name2, old, size, page, data⟩ = b := ⟨_, rfl⟩
  rw [hbm]
  have HM := Lib.hid hbm
  clear hbm
  go_enter Tryz.func64, Tryz.ntmps64
  go_wp2_with (first | (go_at_call 99; refine (t_of_lit 7 (by omega) _).mono ?_; rw [show needsA 7 = #[.bool false, .bool false, .bool false, .bool false, .bool false] from rfl]; rintro e w1 ⟨rfl, rfl⟩) | (go_at_call 100; (with_reducible refine (t_rino ino _ HI.out _).mono ?_); rintro e w' ⟨rfl, rfl⟩))
  all_goals
    go_ret
    refine ⟨ret_bool ?_, ((Below.refl _ w).alloc (Nat.le_refl _) _).alloc (by simp) _ |>.alloc (by simp; omega) _⟩
    have hm := HM.out
    have h1 := HI.out
    rw [← hm]
    clear hm HM
    first
      | (simp_all [mayB]; done)
      | (simp_all [mayB]; intros; omega)
      | (simp_all [mayB]; rw [Bool.eq_iff_iff]; simp; omega)
set_option maxRecDepth 100000 in
set_option maxHeartbeats 8000000 in
theorem t_may_other (r : R) (w : World) (ho : r.act < 1 ∨ 7 < r.act) : Calls Tryz.prog 64 #[r.val] w fun e w' => e = .returned (.bool (mayB r)) ∧ Below w.heap.size w w' := by
  have hm : mayB r = false := by
    unfold mayB
    rcases ho with h | h
    · rw [show decide (1 ≤ r.act) = false by simp; omega]; rfl
    · rw [show decide (r.act ≤ 7) = false by simp; omega]; simp
  rw [hm]
  clear hm
  unfold R.val
  obtain ⟨st, act, dir, name, ino, kind, dir2, name2, old, size, page, data⟩ := r
  simp only [] at ho ⊢
  rcases ho with ho | ho
  all_goals
    go_enter Tryz.func64, Tryz.ntmps64
    go_wp2_with (first | (go_at_call 99; refine (t_of_other act (by omega) (by omega) (by omega) (by omega) (by omega) (by omega) _).mono ?_; rintro e w1 ⟨rfl, rfl⟩))
    go_ret
    exact ⟨rfl, ((Below.refl _ w).alloc (Nat.le_refl _) _).alloc (by simp) _ |>.alloc (by simp; omega) _⟩
/-- Which record may be. -/
theorem t_may (r : R) (w : World) (h1 : r.name.size ≤ maxLen) (h2 : r.name2.size ≤ maxLen) (h3 : r.data.size ≤ maxLen) : Calls Tryz.prog 64 #[r.val] w fun e w' => e = .returned (.bool (mayB r)) ∧ Below w.heap.size w w' := by
  by_cases a1 : r.act = 1
  · exact t_may1 r w a1 h1 h2 h3
  by_cases a2 : r.act = 2
  · exact t_may2 r w a2 h1 h2 h3
  by_cases a3 : r.act = 3
  · exact t_may3 r w a3 h1 h2 h3
  by_cases a4 : r.act = 4
  · exact t_may4 r w a4 h1 h2 h3
  by_cases a5 : r.act = 5
  · exact t_may5 r w a5 h1 h2 h3
  by_cases a6 : r.act = 6
  · exact t_may6 r w a6 h1 h2 h3
  by_cases a7 : r.act = 7
  · exact t_may7 r w a7 h1 h2 h3
  · exact t_may_other r w (by omega)
end Go.Proofs.YtehckjkihaalfaaGreat
