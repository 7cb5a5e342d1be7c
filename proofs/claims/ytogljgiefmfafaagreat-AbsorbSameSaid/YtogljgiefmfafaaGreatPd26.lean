/- Records as the document has them: which may be, walked. -/
import Derived.Test.YtogljgiefmfafaaGreatPd04
import Derived.Test.YtogljgiefmfafaaGreatPd13
import Derived.Test.YtogljgiefmfafaaGreatPd18
import Derived.Test.YtogljgiefmfafaaGreatPd22
import Derived.Test.YtogljgiefmfafaaGreatPd23
import Derived.Test.YtogljgiefmfafaaGreatPd24
import Derived.Test.YtogljgiefmfafaaGreatPd25
import Derived.Laws.EntriesVeiled
namespace Go.Proofs.YtogljgiefmfafaaGreat
open Go.RowKit
set_option maxRecDepth 100000 in
set_option maxHeartbeats 8000000 in
theorem t_may1 (r : R) (w : World) (hr : r.act = 1) (hs : r.name.size ≤ maxLen) (hs2 : r.name2.size ≤ maxLen) (hs3 : r.data.size ≤ maxLen) : Calls Tryz.prog 25 #[r.val] w fun e w' => e = .returned (.bool (mayB r)) ∧ Below w.heap.size w w' := by
 unfold R.val
 obtain ⟨st, act, dir, name, ino, kind, dir2, name2, old, size, page, data⟩ := r
 simp only [] at hr hs hs2 hs3 ⊢
 subst hr
 have hs3' : data.size ≤ 9223372036854775807 := by unfold maxLen at hs3; omega
 obtain ⟨bI, hI⟩ : ∃ b, rinoB ino = b := ⟨_, rfl⟩
 have HI := Lib.hid hI
 clear hI
 obtain ⟨bD, hD⟩ : ∃ b, rinoB dir = b := ⟨_, rfl⟩
 have HD := Lib.hid hD
 clear hD
 obtain ⟨bN, hN⟩ : ∃ b, nameB name = b := ⟨_, rfl⟩
 have HN := Lib.hid hN
 clear hN
 obtain ⟨bm, hbm⟩ : ∃ b, mayB ⟨st, 1, dir, name, ino, kind, dir2, name2, old, size, page, data⟩ = b := ⟨_, rfl⟩
 rw [hbm]
 have HM := Lib.hid hbm
 clear hbm
 go_enter Tryz.func25, Tryz.ntmps25
 go_wp2_with (first | (go_at_call 56; refine (t_of_lit 1 (by omega) _).mono ?_; rw [show needsA 1 = #[.bool true, .bool true, .bool false, .bool false, .bool false] from rfl]; rintro e w1 ⟨rfl, rfl⟩) | (go_at_call 57; (with_reducible refine (t_rino ino _ HI.out _).mono ?_); rintro e w' ⟨rfl, rfl⟩) | (go_at_call 57; (with_reducible refine (t_rino dir _ HD.out _).mono ?_); rintro e w' ⟨rfl, rfl⟩) | (go_at_call 58; (with_reducible refine (t_name name _ HN.out _ hs).mono ?_); rintro e w' ⟨rfl, rfl⟩))
 all_goals
  go_ret
  refine ⟨ret_bool ?_, ((Below.refl _ w).alloc (Nat.le_refl _) _).alloc (by simp) _ |>.alloc (by simp; omega) _⟩
  have hm := HM.out
  have h1 := HI.out
  have h2 := HD.out
  have h3 := HN.out
  rw [← hm]
  clear hm HM
  first
   | (simp_all [mayB]; done)
   | (simp_all [mayB]; intros; omega)
   | (simp_all [mayB]; rw [Bool.eq_iff_iff]; simp; omega)
set_option maxRecDepth 100000 in
set_option maxHeartbeats 8000000 in
theorem t_may2 (r : R) (w : World) (hr : r.act = 2) (hs : r.name.size ≤ maxLen) (hs2 : r.name2.size ≤ maxLen) (hs3 : r.data.size ≤ maxLen) : Calls Tryz.prog 25 #[r.val] w fun e w' => e = .returned (.bool (mayB r)) ∧ Below w.heap.size w w' := by
 unfold R.val
 obtain ⟨st, act, dir, name, ino, kind, dir2, name2, old, size, page, data⟩ := r
 simp only [] at hr hs hs2 hs3 ⊢
 subst hr
 have hs3' : data.size ≤ 9223372036854775807 := by unfold maxLen at hs3; omega
 obtain ⟨bI, hI⟩ : ∃ b, rinoB ino = b := ⟨_, rfl⟩
 have HI := Lib.hid hI
 clear hI
 obtain ⟨bD, hD⟩ : ∃ b, rinoB dir = b := ⟨_, rfl⟩
 have HD := Lib.hid hD
 clear hD
 obtain ⟨bN, hN⟩ : ∃ b, nameB name = b := ⟨_, rfl⟩
 have HN := Lib.hid hN
 clear hN
 obtain ⟨bm, hbm⟩ : ∃ b, mayB ⟨st, 2, dir, name, ino, kind, dir2, name2, old, size, page, data⟩ = b := ⟨_, rfl⟩
 rw [hbm]
 have HM := Lib.hid hbm
 clear hbm
 go_enter Tryz.func25, Tryz.ntmps25
 go_wp2_with (first | (go_at_call 56; refine (t_of_lit 2 (by omega) _).mono ?_; rw [show needsA 2 = #[.bool true, .bool false, .bool false, .bool false, .bool false] from rfl]; rintro e w1 ⟨rfl, rfl⟩) | (go_at_call 57; (with_reducible refine (t_rino ino _ HI.out _).mono ?_); rintro e w' ⟨rfl, rfl⟩) | (go_at_call 57; (with_reducible refine (t_rino dir _ HD.out _).mono ?_); rintro e w' ⟨rfl, rfl⟩) | (go_at_call 58; (with_reducible refine (t_name name _ HN.out _ hs).mono ?_); rintro e w' ⟨rfl, rfl⟩))
 all_goals
  go_ret
  refine ⟨ret_bool ?_, ((Below.refl _ w).alloc (Nat.le_refl _) _).alloc (by simp) _ |>.alloc (by simp; omega) _⟩
  have hm := HM.out
  have h1 := HI.out
  have h2 := HD.out
  have h3 := HN.out
  rw [← hm]
  clear hm HM
  first
   | (simp_all [mayB]; done)
   | (simp_all [mayB]; intros; omega)
   | (simp_all [mayB]; rw [Bool.eq_iff_iff]; simp; omega)
set_option maxRecDepth 100000 in
set_option maxHeartbeats 8000000 in
theorem t_may3 (r : R) (w : World) (hr : r.act = 3) (hs : r.name.size ≤ maxLen) (hs2 : r.name2.size ≤ maxLen) (hs3 : r.data.size ≤ maxLen) : Calls Tryz.prog 25 #[r.val] w fun e w' => e = .returned (.bool (mayB r)) ∧ Below w.heap.size w w' := by
 unfold R.val
 obtain ⟨st, act, dir, name, ino, kind, dir2, name2, old, size, page, data⟩ := r
 simp only [] at hr hs hs2 hs3 ⊢
 subst hr
 have hs3' : data.size ≤ 9223372036854775807 := by unfold maxLen at hs3; omega
 obtain ⟨bI, hI⟩ : ∃ b, rinoB ino = b := ⟨_, rfl⟩
 have HI := Lib.hid hI
 clear hI
 obtain ⟨bD, hD⟩ : ∃ b, rinoB dir = b := ⟨_, rfl⟩
 have HD := Lib.hid hD
 clear hD
 obtain ⟨bN, hN⟩ : ∃ b, nameB name = b := ⟨_, rfl⟩
 have HN := Lib.hid hN
 clear hN
 obtain ⟨bm, hbm⟩ : ∃ b, mayB ⟨st, 3, dir, name, ino, kind, dir2, name2, old, size, page, data⟩ = b := ⟨_, rfl⟩
 rw [hbm]
 have HM := Lib.hid hbm
 clear hbm
 go_enter Tryz.func25, Tryz.ntmps25
 go_wp2_with (first | (go_at_call 56; refine (t_of_lit 3 (by omega) _).mono ?_; rw [show needsA 3 = #[.bool true, .bool true, .bool false, .bool false, .bool false] from rfl]; rintro e w1 ⟨rfl, rfl⟩) | (go_at_call 57; (with_reducible refine (t_rino ino _ HI.out _).mono ?_); rintro e w' ⟨rfl, rfl⟩) | (go_at_call 57; (with_reducible refine (t_rino dir _ HD.out _).mono ?_); rintro e w' ⟨rfl, rfl⟩) | (go_at_call 58; (with_reducible refine (t_name name _ HN.out _ hs).mono ?_); rintro e w' ⟨rfl, rfl⟩))
 all_goals
  go_ret
  refine ⟨ret_bool ?_, ((Below.refl _ w).alloc (Nat.le_refl _) _).alloc (by simp) _ |>.alloc (by simp; omega) _⟩
  have hm := HM.out
  have h1 := HI.out
  have h2 := HD.out
  have h3 := HN.out
  rw [← hm]
  clear hm HM
  first
   | (simp_all [mayB]; done)
   | (simp_all [mayB]; intros; omega)
   | (simp_all [mayB]; rw [Bool.eq_iff_iff]; simp; omega)
set_option maxRecDepth 100000 in
set_option maxHeartbeats 8000000 in
theorem t_may4 (r : R) (w : World) (hr : r.act = 4) (hs : r.name.size ≤ maxLen) (hs2 : r.name2.size ≤ maxLen) (hs3 : r.data.size ≤ maxLen) : Calls Tryz.prog 25 #[r.val] w fun e w' => e = .returned (.bool (mayB r)) ∧ Below w.heap.size w w' := by
 unfold R.val
 obtain ⟨st, act, dir, name, ino, kind, dir2, name2, old, size, page, data⟩ := r
 simp only [] at hr hs hs2 hs3 ⊢
 subst hr
 have hs3' : data.size ≤ 9223372036854775807 := by unfold maxLen at hs3; omega
 obtain ⟨bI, hI⟩ : ∃ b, rinoB ino = b := ⟨_, rfl⟩
 have HI := Lib.hid hI
 clear hI
 obtain ⟨bD, hD⟩ : ∃ b, rinoB dir = b := ⟨_, rfl⟩
 have HD := Lib.hid hD
 clear hD
 obtain ⟨bN, hN⟩ : ∃ b, nameB name = b := ⟨_, rfl⟩
 have HN := Lib.hid hN
 clear hN
 obtain ⟨bD2, hD2⟩ : ∃ b, rinoB dir2 = b := ⟨_, rfl⟩
 have HD2 := Lib.hid hD2
 clear hD2
 obtain ⟨bN2, hN2⟩ : ∃ b, nameB name2 = b := ⟨_, rfl⟩
 have HN2 := Lib.hid hN2
 clear hN2
 obtain ⟨bm, hbm⟩ : ∃ b, mayB ⟨st, 4, dir, name, ino, kind, dir2, name2, old, size, page, data⟩ = b := ⟨_, rfl⟩
 rw [hbm]
 have HM := Lib.hid hbm
 clear hbm
 go_enter Tryz.func25, Tryz.ntmps25
 go_wp2_with (first | (go_at_call 56; refine (t_of_lit 4 (by omega) _).mono ?_; rw [show needsA 4 = #[.bool true, .bool true, .bool true, .bool false, .bool false] from rfl]; rintro e w1 ⟨rfl, rfl⟩) | (go_at_call 57; (with_reducible refine (t_rino ino _ HI.out _).mono ?_); rintro e w' ⟨rfl, rfl⟩) | (go_at_call 57; (with_reducible refine (t_rino dir _ HD.out _).mono ?_); rintro e w' ⟨rfl, rfl⟩) | (go_at_call 58; (with_reducible refine (t_name name _ HN.out _ hs).mono ?_); rintro e w' ⟨rfl, rfl⟩) | (go_at_call 57; (with_reducible refine (t_rino dir2 _ HD2.out _).mono ?_); rintro e w' ⟨rfl, rfl⟩) | (go_at_call 58; (with_reducible refine (t_name name2 _ HN2.out _ hs2).mono ?_); rintro e w' ⟨rfl, rfl⟩))
 all_goals
  go_ret
  refine ⟨ret_bool ?_, ((Below.refl _ w).alloc (Nat.le_refl _) _).alloc (by simp) _ |>.alloc (by simp; omega) _⟩
  have hm := HM.out
  have h1 := HI.out
  have h2 := HD.out
  have h3 := HN.out
  have h4 := HD2.out
  have h5 := HN2.out
  rw [← hm]
  clear hm HM
  first
   | (simp_all [mayB]; done)
   | (simp_all [mayB]; intros; omega)
   | (simp_all [mayB]; rw [Bool.eq_iff_iff]; simp; omega)
set_option maxRecDepth 100000 in
set_option maxHeartbeats 8000000 in
theorem t_may5 (r : R) (w : World) (hr : r.act = 5) (hs : r.name.size ≤ maxLen) (hs2 : r.name2.size ≤ maxLen) (hs3 : r.data.size ≤ maxLen) : Calls Tryz.prog 25 #[r.val] w fun e w' => e = .returned (.bool (mayB r)) ∧ Below w.heap.size w w' := by
 unfold R.val
 obtain ⟨st, act, dir, name, ino, kind, dir2, name2, old, size, page, data⟩ := r
 simp only [] at hr hs hs2 hs3 ⊢
 subst hr
 have hs3' : data.size ≤ 9223372036854775807 := by unfold maxLen at hs3; omega
 obtain ⟨bI, hI⟩ : ∃ b, rinoB ino = b := ⟨_, rfl⟩
 have HI := Lib.hid hI
 clear hI
 obtain ⟨bm, hbm⟩ : ∃ b, mayB ⟨st, 5, dir, name, ino, kind, dir2, name2, old, size, page, data⟩ = b := ⟨_, rfl⟩
 rw [hbm]
 have HM := Lib.hid hbm
 clear hbm
 go_enter Tryz.func25, Tryz.ntmps25
 go_wp2_with (first | (go_at_call 56; refine (t_of_lit 5 (by omega) _).mono ?_; rw [show needsA 5 = #[.bool false, .bool false, .bool false, .bool true, .bool false] from rfl]; rintro e w1 ⟨rfl, rfl⟩) | (go_at_call 57; (with_reducible refine (t_rino ino _ HI.out _).mono ?_); rintro e w' ⟨rfl, rfl⟩))
 all_goals
  go_ret
  refine ⟨ret_bool ?_, ((Below.refl _ w).alloc (Nat.le_refl _) _).alloc (by simp) _ |>.alloc (by simp; omega) _⟩
  have hm := HM.out
  have h1 := HI.out
  rw [← hm]
  clear hm HM
  first
   | (simp_all [mayB]; done)
   | (simp_all [mayB]; intros; omega)
   | (simp_all [mayB]; rw [Bool.eq_iff_iff]; simp; omega)
set_option maxRecDepth 100000 in
set_option maxHeartbeats 8000000 in
theorem t_may6 (r : R) (w : World) (hr : r.act = 6) (hs : r.name.size ≤ maxLen) (hs2 : r.name2.size ≤ maxLen) (hs3 : r.data.size ≤ maxLen) : Calls Tryz.prog 25 #[r.val] w fun e w' => e = .returned (.bool (mayB r)) ∧ Below w.heap.size w w' := by
 unfold R.val
 obtain ⟨st, act, dir, name, ino, kind, dir2, name2, old, size, page, data⟩ := r
 simp only [] at hr hs hs2 hs3 ⊢
 subst hr
 have hs3' : data.size ≤ 9223372036854775807 := by unfold maxLen at hs3; omega
 obtain ⟨bI, hI⟩ : ∃ b, rinoB ino = b := ⟨_, rfl⟩
 have HI := Lib.hid hI
 clear hI
 obtain ⟨bm, hbm⟩ : ∃ b, mayB ⟨st, 6, dir, name, ino, kind, dir2, name2, old, size, page, data⟩ = b := ⟨_, rfl⟩
 rw [hbm]
 have HM := Lib.hid hbm
 clear hbm
 go_enter Tryz.func25, Tryz.ntmps25
 go_wp2_with (first | (go_at_call 56; refine (t_of_lit 6 (by omega) _).mono ?_; rw [show needsA 6 = #[.bool false, .bool false, .bool false, .bool true, .bool true] from rfl]; rintro e w1 ⟨rfl, rfl⟩) | (go_at_call 57; (with_reducible refine (t_rino ino _ HI.out _).mono ?_); rintro e w' ⟨rfl, rfl⟩))
 all_goals
  go_ret
  refine ⟨ret_bool ?_, ((Below.refl _ w).alloc (Nat.le_refl _) _).alloc (by simp) _ |>.alloc (by simp; omega) _⟩
  have hm := HM.out
  have h1 := HI.out
  rw [← hm]
  clear hm HM
  first
   | (simp_all [mayB]; done)
   | (simp_all [mayB]; intros; omega)
   | (simp_all [mayB]; rw [Bool.eq_iff_iff]; simp; omega)
set_option maxRecDepth 100000 in
set_option maxHeartbeats 8000000 in
theorem t_may7 (r : R) (w : World) (hr : r.act = 7) (hs : r.name.size ≤ maxLen) (hs2 : r.name2.size ≤ maxLen) (hs3 : r.data.size ≤ maxLen) : Calls Tryz.prog 25 #[r.val] w fun e w' => e = .returned (.bool (mayB r)) ∧ Below w.heap.size w w' := by
 unfold R.val
 obtain ⟨st, act, dir, name, ino, kind, dir2, name2, old, size, page, data⟩ := r
 simp only [] at hr hs hs2 hs3 ⊢
 subst hr
 have hs3' : data.size ≤ 9223372036854775807 := by unfold maxLen at hs3; omega
 obtain ⟨bI, hI⟩ : ∃ b, rinoB ino = b := ⟨_, rfl⟩
 have HI := Lib.hid hI
 clear hI
 obtain ⟨bm, hbm⟩ : ∃ b, mayB ⟨st, 7, dir, name, ino, kind, dir2, name2, old, size, page, data⟩ = b := ⟨_, rfl⟩
 rw [hbm]
 have HM := Lib.hid hbm
 clear hbm
 go_enter Tryz.func25, Tryz.ntmps25
 go_wp2_with (first | (go_at_call 56; refine (t_of_lit 7 (by omega) _).mono ?_; rw [show needsA 7 = #[.bool false, .bool false, .bool false, .bool false, .bool false] from rfl]; rintro e w1 ⟨rfl, rfl⟩) | (go_at_call 57; (with_reducible refine (t_rino ino _ HI.out _).mono ?_); rintro e w' ⟨rfl, rfl⟩))
 all_goals
  go_ret
  refine ⟨ret_bool ?_, ((Below.refl _ w).alloc (Nat.le_refl _) _).alloc (by simp) _ |>.alloc (by simp; omega) _⟩
  have hm := HM.out
  have h1 := HI.out
  rw [← hm]
  clear hm HM
  first
   | (simp_all [mayB]; done)
   | (simp_all [mayB]; intros; omega)
   | (simp_all [mayB]; rw [Bool.eq_iff_iff]; simp; omega)
set_option maxRecDepth 100000 in
set_option maxHeartbeats 8000000 in
theorem t_may_other (r : R) (w : World) (ho : r.act < 1 ∨ 7 < r.act) : Calls Tryz.prog 25 #[r.val] w fun e w' => e = .returned (.bool (mayB r)) ∧ Below w.heap.size w w' := by
 have hm : mayB r = false := by
  unfold mayB
  rcases ho with h | h
  · rw [show decide (1 ≤ r.act) = false by simp; omega]; rfl
  · rw [show decide (r.act ≤ 7) = false by simp; omega]; simp
 rw [hm]
 clear hm
 unfold R.val
 obtain ⟨st, act, dir, name, ino, kind, dir2, name2, old, size, page, data⟩ := r
 simp only [] at ho ⊢
 rcases ho with ho | ho
 all_goals
  go_enter Tryz.func25, Tryz.ntmps25
  go_wp2_with (first | (go_at_call 56; refine (t_of_other act (by omega) (by omega) (by omega) (by omega) (by omega) (by omega) _).mono ?_; rintro e w1 ⟨rfl, rfl⟩))
  go_ret
  exact ⟨rfl, ((Below.refl _ w).alloc (Nat.le_refl _) _).alloc (by simp) _ |>.alloc (by simp; omega) _⟩
theorem t_may (r : R) (w : World) (h1 : r.name.size ≤ maxLen) (h2 : r.name2.size ≤ maxLen) (h3 : r.data.size ≤ maxLen) : Calls Tryz.prog 25 #[r.val] w fun e w' => e = .returned (.bool (mayB r)) ∧ Below w.heap.size w w' := by
 by_cases a1 : r.act = 1
 · exact t_may1 r w a1 h1 h2 h3
 by_cases a2 : r.act = 2
 · exact t_may2 r w a2 h1 h2 h3
 by_cases a3 : r.act = 3
 · exact t_may3 r w a3 h1 h2 h3
 by_cases a4 : r.act = 4
 · exact t_may4 r w a4 h1 h2 h3
 by_cases a5 : r.act = 5
 · exact t_may5 r w a5 h1 h2 h3
 by_cases a6 : r.act = 6
 · exact t_may6 r w a6 h1 h2 h3
 by_cases a7 : r.act = 7
 · exact t_may7 r w a7 h1 h2 h3
 · exact t_may_other r w (by omega)
end Go.Proofs.YtogljgiefmfafaaGreat

namespace Go.Proofs.YtogljgiefmfafaaGreat
open Go.RowKit Go.Maps
theorem nameB_eq (s : ByteArray) : nameB s = pnameB s := rfl
theorem isEmpty_eq (s : ByteArray) : s.toList.isEmpty = (s.size == 0) := by
 rw [ByteArray.toList_eq]
 cases h : s.data.toList with
 | nil =>
  have : s.size = 0 := by rw [Lib.size_eq, h]; rfl
  rw [this]
  rfl
 | cons a l =>
  have : s.size = l.length + 1 := by rw [Lib.size_eq, h]; rfl
  rw [this]
  rfl
theorem fitB_if {p : Prop} [Decidable p] (a b : Bool) : fitB (decide p) a b = if p then a else b := by
 unfold fitB
 by_cases h : p <;> simp [h]
theorem rinoB_eq (v : Int) : rinoB v = inoB v := by
 unfold rinoB inoB
 rw [Bool.decide_and]
theorem entryA_eq (a : Int) : (1 ≤ a ∧ a ≤ 4) ↔ (a = 1 ∨ a = 2 ∨ a = 3 ∨ a = 4) := by omega
theorem mayB_check (r : R) : mayB r = checkB r := by
 unfold mayB checkB kEntry kKind kMove kSized kData
 simp only [fitB_if, entryA_eq, isEmpty_eq, nameB_eq, rinoB_eq, Bool.decide_and]
theorem check_kind {r : R} (hc : checkB r = true) (h : kKind r.act = true) : r.kind = 1 ∨ r.kind = 2 := by
 unfold checkB fitB at hc
 simp only [Bool.and_eq_true, Bool.or_eq_true, decide_eq_true_eq, Bool.not_eq_true', beq_iff_eq] at hc
 rcases hc.1.1.1.2 with ⟨_, e⟩ | ⟨e, _⟩
 · exact e
 · rw [h] at e; cases e
theorem check_one {r : R} (hc : checkB r = true) : 1 ≤ r.act ∧ r.act ≤ 7 := by
 unfold checkB at hc
 simp only [Bool.and_eq_true, decide_eq_true_eq] at hc
 exact hc.1.1.1.1.1.1
theorem look_none' {t : PT} {d : Int} {s : ByteArray} (h : (lookP t d s).2 ≠ 0) : (lookP t d s).1 = 0 := by
 unfold lookP at h ⊢
 split
 · rfl
 · rename_i h1
   rw [if_neg h1] at h
   cases hx : t.n d with
   | none => rfl
   | some x =>
    rw [hx] at h
    simp only at h ⊢
    split at h
    · rename_i h2; exact h2
    · exact absurd rfl h
section
variable {t : PT} {d : D.Tr} {r : R}
theorem lookA_same {t : PT} {r : R} (h0 : (lookP t r.dir r.name).2 = 0) (h1 : (lookP t r.dir r.name).1 = r.ino) : lookA t r = 0 := by unfold lookA; simp [h0, h1]
theorem lookA_other {t : PT} {r : R} (h0 : (lookP t r.dir r.name).2 = 0) (h1 : ¬ (lookP t r.dir r.name).1 = r.ino) : lookA t r = 2 := by unfold lookA; simp [h0, h1]
theorem lookA_err {t : PT} {r : R} (h0 : ¬ (lookP t r.dir r.name).2 = 0) : lookA t r = (lookP t r.dir r.name).2 := by unfold lookA; simp [h0]
theorem Sim.unlinkA_ (h : Sim t d) (hw : WellP t) (r : R) : (D.unlinkP d r).1 = (unlinkA t r).1 ∧ Sim (unlinkA t r).2 (D.unlinkP d r).2 := by
 unfold D.unlinkP unlinkA
 rw [h.look hw]
 by_cases h0 : (lookP t r.dir r.name).2 = 0
 · have n0 : ¬ (lookP t r.dir r.name).2 ≠ 0 := fun c => c h0
   by_cases h1 : (lookP t r.dir r.name).1 = r.ino
   · have n1 : ¬ ((lookP t r.dir r.name).1 != r.ino) = true := by simp [h1]
     have n2 : ¬ ((0 : Int) ≠ 0) := fun c => c rfl
     rw [lookA_same h0 h1, if_neg n0, if_neg n1, if_neg n2]
     by_cases hk : r.kind = 2
     · have hk2 : (r.kind == 2) = true := by simpa using hk
       rw [if_pos hk2, if_pos hk]
       exact (h.rmdir hw r.dir r.name).2
     · have hk2 : ¬ (r.kind == 2) = true := by simpa using hk
       rw [if_neg hk2, if_neg hk]
       exact (h.unlink hw r.dir r.name).2
   · have n1 : ((lookP t r.dir r.name).1 != r.ino) = true := by simpa using h1
     have n2 : (2 : Int) ≠ 0 := by decide
     rw [lookA_other h0 h1, if_neg n0, if_pos n1, if_pos n2]
     exact ⟨rfl, h⟩
 · rw [lookA_err h0, if_pos h0, if_pos h0]
   exact ⟨rfl, h⟩
theorem Sim.renameA_ (h : Sim t d) (hw : WellP t) (r : R) : (D.renameP d r).1 = (renameA t r).1 ∧ Sim (renameA t r).2 (D.renameP d r).2 := by
 have hold : (D.lookR d r.dir2 r.name2).1 = oldAt t r := by
  rw [h.look hw]
  unfold oldAt
  split
  · rfl
  · rename_i h1; exact look_none' h1
 unfold D.renameP renameA
 rw [hold, h.look hw]
 by_cases h0 : (lookP t r.dir r.name).2 = 0
 · have n0 : ¬ (lookP t r.dir r.name).2 ≠ 0 := fun c => c h0
   by_cases h1 : (lookP t r.dir r.name).1 = r.ino
   · have n1 : ¬ ((lookP t r.dir r.name).1 != r.ino) = true := by simp [h1]
     have n2 : ¬ ((0 : Int) ≠ 0) := fun c => c rfl
     obtain ⟨_, x, _, _, hx, _⟩ := look_okP hw.good h0
     have hk : (D.ndAt d (lookP t r.dir r.name).1).kind = kindAt t r.ino := by
      rw [(h.node _ x hx).kind]
      unfold kindAt
      rw [← h1, hx]
     rw [lookA_same h0 h1, if_neg n0, if_neg n1, if_neg n2, hk]
     by_cases hk2 : kindAt t r.ino = r.kind
     · have m1 : ¬ (kindAt t r.ino != r.kind) = true := by simpa using hk2
       rw [if_neg m1]
       by_cases ho : oldAt t r = r.old
       · have m2 : ¬ (oldAt t r != r.old) = true := by simpa using ho
         have m3 : ¬ (kindAt t r.ino ≠ r.kind ∨ oldAt t r ≠ r.old) := by simp [hk2, ho]
         rw [if_neg m2, if_neg m3]
         exact h.rename hw _ _ _ _
       · have m2 : (oldAt t r != r.old) = true := by simpa using ho
         have m3 : kindAt t r.ino ≠ r.kind ∨ oldAt t r ≠ r.old := .inr ho
         rw [if_pos m2, if_pos m3]
         exact ⟨rfl, h⟩
     · have m1 : (kindAt t r.ino != r.kind) = true := by simpa using hk2
       have m3 : kindAt t r.ino ≠ r.kind ∨ oldAt t r ≠ r.old := .inl hk2
       rw [if_pos m1, if_pos m3]
       exact ⟨rfl, h⟩
   · have n1 : ((lookP t r.dir r.name).1 != r.ino) = true := by simpa using h1
     have n2 : (2 : Int) ≠ 0 := by decide
     rw [lookA_other h0 h1, if_neg n0, if_pos n1, if_pos n2]
     exact ⟨rfl, h⟩
 · rw [lookA_err h0, if_pos h0, if_pos h0]
   exact ⟨rfl, h⟩
theorem Sim.act_ (h : Sim t d) (hw : WellP t) (hok : r.Ok) (hc : checkB r = true) : (D.playR d r).1 = (actA t r).1 ∧ Sim (actA t r).2 (D.playR d r).2 := by
 unfold D.playR actA
 by_cases h1 : r.act = 1
 · rw [if_pos h1, if_pos h1]
   obtain ⟨m1, m2⟩ := h.makeAt hw r.dir r.name r.kind r.ino
   unfold madeA
   rw [m1]
   by_cases h0 : (makeAtP t r.dir r.name r.kind r.ino).1 = 0
   · rcases check_kind hc (by unfold kKind; simp [h1]) with hk | hk
     · rw [if_pos ⟨h0, hk⟩, if_neg (by rintro (c | c); exact c h0; omega)]
       exact m2.hold (hw.makeAtP_ _ _ _ _) _
     · rw [if_neg (by simp [hk]), if_pos (.inr hk)]
       exact ⟨m1, m2⟩
   · rw [if_neg (by simp [h0]), if_pos (.inl h0)]
     exact ⟨m1, m2⟩
 rw [if_neg h1, if_neg h1]
 by_cases h2 : r.act = 2
 · rw [if_pos h2, if_pos h2]
   exact h.link hw _ _ _
 rw [if_neg h2, if_neg h2]
 by_cases h3 : r.act = 3
 · rw [if_pos h3, if_pos h3]
   exact h.unlinkA_ hw r
 rw [if_neg h3, if_neg h3]
 by_cases h4 : r.act = 4
 · rw [if_pos h4, if_pos h4]
   exact h.renameA_ hw r
 rw [if_neg h4, if_neg h4]
 by_cases h5 : r.act = 5
 · rw [if_pos h5, if_pos h5]
   exact h.resize hw _ hok.size.1
 rw [if_neg h5, if_neg h5]
 by_cases h6 : r.act = 6
 · rw [if_pos h6, if_pos h6]
   obtain ⟨m1, m2⟩ := h.write hw r.ino r.page r.data
   unfold pageA
   rw [m1]
   split
   · exact ⟨m1, m2⟩
   · exact m2.resize (hw.writeP_ _ _ _) _ hok.size.1
 rw [if_neg h6, if_neg h6]
 unfold freeA
 rw [h.there hw]
 cases hx : t.n r.ino with
 | none => exact ⟨rfl, h⟩
 | some x =>
  rw [if_neg (by simp), h.links hw hx]
  simp only
  split
  · exact ⟨rfl, h⟩
  · exact h.drop hw _
noncomputable def playO (d : D.Tr) (r : R) : Int × D.Tr := if checkB r = true then D.playR d r else (2, d)
theorem Sim.start' (n : Nat) (h1 : 2 ≤ n) : Sim (newT (n : Int)) (D.newT n) := by
 have hl : (D.newT n).length = n := by unfold D.newT; rw [D.setNd_length]; simp
 refine ⟨by rw [hl]; rfl, fun i x hx => ?_, fun i i1 i2 hx => ?_⟩
 · unfold newT PT.set at hx
   simp only at hx
   split at hx
   · rename_i e
     cases hx
     subst e
     unfold D.newT
     rw [D.ndAt_set_self _ (by decide) (by simp; omega)]
     exact SimN.new 2
   · cases hx
 · unfold newT PT.set at hx
   simp only at hx
   split at hx
   · cases hx
   · rename_i e
     unfold D.newT
     rw [D.ndAt_set_ne _ (by decide) i1 (fun h => e h.symm)]
     unfold D.ndAt D.nd
     rw [List.getD_eq_getElem?_getD, List.getElem?_replicate]
     split <;> rfl
theorem Pl.start' (n : Nat) (h1 : 2 ≤ n) (h2 : n ≤ 256) : Pl 0 (newT (n : Int)) (D.newT n) := by
 refine ⟨WellP.new n (by omega) (by omega), ?_, Sim.start' n h1, ?_⟩
 · intro i x hx
   unfold newT PT.set at hx
   simp only at hx
   split at hx
   · cases hx; exact Int.le_refl _
   · cases hx
 · have h := D.newT_well n (by omega)
   have hl : n = (D.newT n).length := by unfold D.newT; rw [D.setNd_length]; simp
   exact hl ▸ h
theorem Pl.record {k : Nat} (h : Pl k t d) (hok : r.Ok) : (playO d r).1 = (playA t r).1 ∧ Pl (k + 2) (playA t r).2 (playO d r).2 := by
 unfold playO playA
 by_cases hc : checkB r = true
 · rw [if_pos hc, if_pos hc]
   obtain ⟨e, s⟩ := h.sim.act_ h.well hok hc
   refine ⟨e, h.well.actA_ hok, (h.held.actA_ (Int.natCast_nonneg k) r).mono (by omega), s, ?_⟩
   have h1 := h.wr.play (r := r) (e := (D.playR d r).1) (t1 := (D.playR d r).2) rfl
   rw [h1.len]
   exact h1
 · rw [if_neg hc, if_neg hc]
   exact ⟨rfl, h.well, h.held.mono (by omega), h.sim, h.wr.mono (by omega)⟩
end
end Go.Proofs.YtogljgiefmfafaaGreat

namespace Go.Proofs.YtogljgiefmfafaaGreat
open Go.RowKit Go.Maps
section
variable {F : Nat → Prop} {P N : Nat} {y : Lay} {t : PT}
set_option maxRecDepth 100000 in
set_option maxHeartbeats 8000000 in
theorem t_playOf (r : R) (hr : r.Ok) (h1 : r.name.size ≤ maxLen) (h2 : r.name2.size ≤ maxLen) (hc : checkB r = true) (g : Nat) (eg : Enters g) (wd : Array UInt8) (be bk bm bs bd : Bool) (hkw : (kindsM (.int .u8 r.act)).getD kind0 = .agg #[.string ⟨wd⟩, .bool be, .bool bk, .bool bm, .bool bs, .bool bd, .func (.func g) #[] #[]]) (e0 : Int) (t' : PT)
  (hcall : ∀ W, TreeM W F P N y t → Calls Tryz.prog g #[actV P r] W (ActPost W F P N e0 t')) (w : World) (h : TreeM w F P N y t) :
  Calls Tryz.prog 27 #[.pointer (some ⟨P, 0, none⟩), r.val] w (ActPost w F P N e0 t') := by
 have hchk := fun w => t_chk r hr h1 h2 w
 rw [show checkE r = 0 by unfold checkE; rw [if_pos hc]] at hchk
 unfold R.val at hchk ⊢
 unfold Enters at eg
 go_enter Tryz.func27, Tryz.ntmps27
 go_wp2_with (go_at_call 54; (with_reducible refine (hchk _).mono ?_); rintro e w0 ⟨rfl, hb⟩; have HB := Lib.hid hb; clear hb)
 have hrc : w0.heap[w.heap.size]? = some (.cells (cellsR r) 50 (0, 0)) := by
  rw [HB.out.block _ (by simp)]; exact heap_alloc_new _ _
 have hBw : Below w.heap.size w w0 := ((Below.refl _ _).alloc (Nat.le_refl _) _).trans (HB.out.mono (by simp))
 have HS : Hid (w0.heap[w.heap.size]? = some (.cells (cellsR r) 50 (0, 0)) ∧ Below w.heap.size w w0) := ⟨hrc, hBw⟩
 have hra := hr.act
 clear hrc hBw HB hchk
 have hT0 : TreeM w0 F P N y t := h.below HS.out.2
 refine wp_region_st (fun n W => W.heap[w.heap.size]? = some (.cells (cellsR r) 50 (0, 0)) ∧ (n = 0 → TreeM W F P N y t ∧ Below w.heap.size w W) ∧ (n ≠ 0 → Became w W F P (N + 2) t')) (fun W W' => Below W.heap.size W W') (fun W W' => ∀ b, w.heap.size ≤ b → b < W.heap.size → W'.heap[b]? = W.heap[b]?) [8]
  (phi [fun v W => ∃ b, v = .map (some b) ∧ w.heap.size ≤ b ∧ MapAt W Tryz.prog 5 b 7 kindsM, isV (.pointer (some ⟨w.heap.size, 1, none⟩)), isV (.int .u8 r.act), isV (.agg #[.string ⟨wd⟩, .bool be, .bool bk, .bool bm, .bool bs, .bool bd, .func (.func g) #[] #[]]), isV (.func (.func g) #[] #[]), isV (.pointer (some ⟨P, 0, none⟩)), isV r.val,
   isV (.agg #[.pointer (some ⟨P, 0, none⟩), .int .u64 r.stamp, .int .u8 r.act, .int .u32 r.dir, .string r.name, .int .u32 r.ino, .int .u8 r.kind, .int .u32 r.dir2, .string r.name2, .int .u32 r.old, .int .u32 r.size, .int .i64 r.page, .string r.data]), isV (.int .i64 e0), isV (.int .i64 e0)]) (by kernel_rfl) (by kernel_rfl) (by kernel_rfl) (by kernel_rfl) (by kernel_rfl)
  ⟨HS.out.1, fun _ => ⟨hT0.below (below_drew _), HS.out.2.trans ((below_drew w0).mono HS.out.2.size)⟩, fun hh => absurd rfl hh⟩ (fun n W W' hj hb => ⟨(hb.block _ (lt_heap hj.1)).trans hj.1, fun hn => ⟨(hj.2.1 hn).1.below hb, (hj.2.1 hn).2.trans (hb.mono (hj.2.1 hn).2.size)⟩, fun hn => by obtain ⟨y', F', g1, g2⟩ := hj.2.2 hn; exact ⟨y', F', g1.below hb, g2.trans (Turn.of_below F' hb)⟩⟩) (fun W W' hb b _ h2 => hb.block b h2) ?_ ?_ ?_
 · refine stays_phiR ?_
   simp only [List.forall_mem_cons]
   exact ⟨fun v W W' ⟨b, g1, g2, g3⟩ hr => by
    obtain ⟨es, c, hm⟩ := g3.isMap
    exact ⟨b, g1, g2, g3.same (hr b g2 (lt_heap hm))⟩, fun _ _ _ h _ => h, fun _ _ _ h _ => h, fun _ _ _ h _ => h, fun _ _ _ h _ => h, fun _ _ _ h _ => h, fun _ _ _ h _ => h, fun _ _ _ h _ => h, fun _ _ _ h _ => h, fun _ _ _ h _ => h, fun _ h => absurd h (by simp)⟩
 · refine ⟨?_, ?_, ?_, ?_, ?_, ?_, ?_, ?_, ?_, ?_, trivial⟩
   · refine opS_mk rfl rfl fun a W2 n hJ hp hq K hK => ?_
     have hl := lt_heap hJ.1
     clear hp hq hJ
     go_simp
     refine (t_rkinds W2).mono ?_
     rintro e w' ⟨b, rfl, hm, hb, hbl⟩
     exact hK _ _ hb ⟨b, rfl, by omega, hm⟩
   · refine opS_mk rfl rfl fun a W2 n hJ hp hq K hK => ?_
     have e3 : a.tmps[3]?.getD undef = .pointer (some ⟨w.heap.size, 0, none⟩) := hp 3 (by kernel_rfl)
     clear hp hq hJ
     go_simp
     exact hK _ _ (Below.refl _ _) rfl
   · refine opS_mk rfl rfl fun a W2 n hJ hp hq K hK => ?_
     have e14 : a.tmps[14]?.getD undef = .pointer (some ⟨w.heap.size, 1, none⟩) := hq 1 _ (by kernel_rfl) rfl
     have cc : W2.cell? ⟨w.heap.size, 1, none⟩ = some (.int .u8 r.act) := by (simp only [World.cell?, hJ.1]; rfl)
     clear hp hq hJ
     go_simp
     exact hK _ _ (Below.refl _ _) rfl
   · refine opS_mk rfl rfl fun a W2 n hJ hp hq K hK => ?_
     obtain ⟨b, e13, _, hm⟩ : ∃ b, a.tmps[13]?.getD undef = .map (some b) ∧ w.heap.size ≤ b ∧ MapAt W2 Tryz.prog 5 b 7 kindsM := hq 0 _ (by kernel_rfl) rfl
     have e15 : a.tmps[15]?.getD undef = .int .u8 r.act := hq 2 _ (by kernel_rfl) rfl
     have hlk := hm.look law8 Tryz.underlying119 (zeroK W2) (pkey8 hra)
     rw [hkw] at hlk
     clear hp hq hJ
     go_simp
     exact hK _ _ (Below.refl _ _) rfl
   · refine opS_mk rfl rfl fun a W2 n hJ hp hq K hK => ?_
     have e16 : a.tmps[16]?.getD undef = .agg #[.string ⟨wd⟩, .bool be, .bool bk, .bool bm, .bool bs, .bool bd, .func (.func g) #[] #[]] := hq 3 _ (by kernel_rfl) rfl
     clear hp hq hJ
     go_simp
     exact hK _ _ (Below.refl _ _) rfl
   · refine opS_mk rfl rfl fun a W2 n hJ hp hq K hK => ?_
     have e0' : a.tmps[0]?.getD undef = .pointer (some ⟨P, 0, none⟩) := hp 0 (by kernel_rfl)
     clear hp hq hJ
     go_simp
     exact hK _ _ (Below.refl _ _) rfl
   · refine opS_mk rfl rfl fun a W2 n hJ hp hq K hK => ?_
     have e3 : a.tmps[3]?.getD undef = .pointer (some ⟨w.heap.size, 0, none⟩) := hp 3 (by kernel_rfl)
     have c0 := rec_cell0 hJ.1 0 _ rfl
     have c1 := rec_cell0 hJ.1 1 _ rfl
     have c2 := rec_cell0 hJ.1 2 _ rfl
     have c3 := rec_cell0 hJ.1 3 _ rfl
     have c4 := rec_cell0 hJ.1 4 _ rfl
     have c5 := rec_cell0 hJ.1 5 _ rfl
     have c6 := rec_cell0 hJ.1 6 _ rfl
     have c7 := rec_cell0 hJ.1 7 _ rfl
     have c8 := rec_cell0 hJ.1 8 _ rfl
     have c9 := rec_cell0 hJ.1 9 _ rfl
     have c10 := rec_cell0 hJ.1 10 _ rfl
     have c11 := rec_cell0 hJ.1 11 _ rfl
     clear hp hq hJ
     go_simp
     exact hK _ _ (Below.refl _ _) rfl
   · refine opS_mk rfl rfl fun a W2 n hJ hp hq K hK => ?_
     have e18 : a.tmps[18]?.getD undef = .pointer (some ⟨P, 0, none⟩) := hq 5 _ (by kernel_rfl) rfl
     have e19 : a.tmps[19]?.getD undef = r.val := hq 6 _ (by kernel_rfl) rfl
     unfold R.val at e19
     clear hp hq hJ
     go_simp
     exact hK _ _ (Below.refl _ _) rfl
   · refine opS_at (m := 0) rfl rfl fun a W2 hJ hp hq K hK => ?_
     have e17 : a.tmps[17]?.getD undef = .func (.func g) #[] #[] := hq 4 _ (by kernel_rfl) rfl
     have e20 : a.tmps[20]?.getD undef = .agg #[.pointer (some ⟨P, 0, none⟩), .int .u64 r.stamp, .int .u8 r.act, .int .u32 r.dir, .string r.name, .int .u32 r.ino, .int .u8 r.kind, .int .u32 r.dir2, .string r.name2, .int .u32 r.old, .int .u32 r.size, .int .i64 r.page, .string r.data] := hq 7 _ (by kernel_rfl) rfl
     have HJ := Lib.hid hJ
     clear hp hq hJ
     go_simp
     have hcall2 := hcall W2 (HJ.out.2.1 rfl).1
     unfold actV at hcall2
     refine hcall2.mono ?_
     rintro e w3 ⟨rfl, hb⟩
     obtain ⟨y', F', g1, g2⟩ := hb
     have hF : ∀ b, w.heap.size ≤ b → ¬ F b := fun b hb hFb => by have := h.lt b hFb; omega
     exact hK _ _ (fun b k1 k2 => g2.block b k2 (hF b k1)) ⟨(g2.block _ (lt_heap HJ.out.1) (hF _ (Nat.le_refl _))).trans HJ.out.1, fun hn => by omega, fun _ => Became.front (HJ.out.2.1 rfl).2 ⟨y', F', g1, g2⟩⟩ rfl
   · refine opS_mk rfl rfl fun a W2 n hJ hp hq K hK => ?_
     have e21 : a.tmps[21]?.getD undef = .int .i64 e0 := hq 8 _ (by kernel_rfl) rfl
     clear hp hq hJ
     go_simp
     exact hK _ _ (Below.refl _ _) rfl
 · intro vs W9 hJ9 hv9 _
   have HJ9 : Hid (Became w W9 F P (N + 2) t') := hJ9.2.2 (by simp)
   have v9 : vs 9 = .int .i64 e0 := hv9 9 _ rfl rfl
   clear hJ9 hv9
   simp only [putAll, Act.put, List.setIfInBounds_toArray, List.set_cons_succ, List.set_cons_zero, Nat.zero_add, Nat.reduceAdd, v9]
   go_wp2
   go_ret
   exact ⟨rfl, HJ9.out⟩
theorem kind_at (r : R) (k : Int) (v : Value) (h : kindO k = some v) (ha : r.act = k) : (kindsM (.int .u8 r.act)).getD kind0 = v := by
 subst ha
 show (kindO r.act).getD kind0 = v
 rw [h]
 rfl
theorem enters_a_made : Enters 125 := enters_of Tryz.func125 (by kernel_rfl) rfl
theorem enters_a_link : Enters 126 := enters_of Tryz.func126 (by kernel_rfl) rfl
theorem enters_a_unlink : Enters 127 := enters_of Tryz.func127 (by kernel_rfl) rfl
theorem enters_a_rename : Enters 128 := enters_of Tryz.func128 (by kernel_rfl) rfl
theorem enters_a_size : Enters 129 := enters_of Tryz.func129 (by kernel_rfl) rfl
theorem enters_a_page : Enters 130 := enters_of Tryz.func130 (by kernel_rfl) rfl
theorem enters_a_free : Enters 131 := enters_of Tryz.func131 (by kernel_rfl) rfl
theorem t_playBad (r : R) (hr : r.Ok) (h1 : r.name.size ≤ maxLen) (h2 : r.name2.size ≤ maxLen) (hc : checkB r = false) (w : World) (h : TreeM w F P N y t) :
  Calls Tryz.prog 27 #[.pointer (some ⟨P, 0, none⟩), r.val] w (ActPost w F P N 2 t) := by
 have hchk := fun w => t_chk r hr h1 h2 w
 rw [show checkE r = 2 by unfold checkE; rw [if_neg (by rw [hc]; simp)]] at hchk
 have HT := Lib.hid h
 unfold R.val at hchk ⊢
 clear h
 go_enter Tryz.func27, Tryz.ntmps27
 go_wp2_with (go_at_call 54; (with_reducible refine (hchk _).mono ?_); rintro e w0 ⟨rfl, hb⟩; have HB := Lib.hid (ptrans (below_a1' w _) hb); clear hb)
 go_ret
 exact ⟨rfl, (Became.same HT.out HB.out).most (by omega)⟩
theorem t_playA (r : R) (hr : r.Texts) (a : Int) (t' : PT) (he : playA t r = (a, t')) (w : World) (h : TreeM w F P N y t) (hW : WellP t) (hK : HeldK 999999999 t) (hN : N < 800000) :
  Calls Tryz.prog 27 #[.pointer (some ⟨P, 0, none⟩), r.val] w (ActPost w F P N a t') := by
 unfold playA at he
 by_cases hc : checkB r = true
 · rw [if_pos hc] at he
   unfold actA at he
   have gen := fun (g : Nat) (eg : Enters g) (wd : Array UInt8) (be bk bm bs bd : Bool) (hkw : (kindsM (.int .u8 r.act)).getD kind0 = .agg #[.string ⟨wd⟩, .bool be, .bool bk, .bool bm, .bool bs, .bool bd, .func (.func g) #[] #[]]) (hcall : ∀ W, TreeM W F P N y t → Calls Tryz.prog g #[actV P r] W (ActPost W F P N a t')) => t_playOf r hr.ok hr.name hr.name2 hc g eg wd be bk bm bs bd hkw a t' hcall w h
   split at he
   · rename_i h1
     exact gen _ enters_a_made _ _ _ _ _ _ (kind_at r 1 _ rfl h1) fun W hT => t_madeA r hr a t' he W hT hW hK (by omega)
   · split at he
     · rename_i h1
       exact gen _ enters_a_link _ _ _ _ _ _ (kind_at r 2 _ rfl h1) fun W hT => t_linkA r hr a t' he W hT hW (by omega)
     · split at he
       · rename_i h1
         exact gen _ enters_a_unlink _ _ _ _ _ _ (kind_at r 3 _ rfl h1) fun W hT => t_unlinkA r hr a t' he W hT hW
       · split at he
         · rename_i h1
           exact gen _ enters_a_rename _ _ _ _ _ _ (kind_at r 4 _ rfl h1) fun W hT => t_renameA r hr a t' he W hT hW (by omega)
         · split at he
           · rename_i h1
             exact gen _ enters_a_size _ _ _ _ _ _ (kind_at r 5 _ rfl h1) fun W hT => t_sizeA r hr a t' he W hT hW (by omega)
           · split at he
             · rename_i h1
               exact gen _ enters_a_page _ _ _ _ _ _ (kind_at r 6 _ rfl h1) fun W hT => t_pageA r hr a t' he W hT hW (by omega)
             · have h7 : r.act = 7 := by
                unfold checkB at hc
                simp only [Bool.and_eq_true, decide_eq_true_eq] at hc
                have := hc.1.1.1.1.1.1
                omega
               exact gen _ enters_a_free _ _ _ _ _ _ (kind_at r 7 _ rfl h7) fun W hT => t_freeA r hr a t' he W hT hW hK
 · rw [if_neg hc] at he
   cases he
   exact t_playBad r hr.ok hr.name hr.name2 (by simpa using hc) w h
end
end Go.Proofs.YtogljgiefmfafaaGreat

namespace Go.Proofs.YtogljgiefmfafaaGreat
open Go.RowKit Go.Maps
theorem below_own {B : Nat} {w w' : World} (hb : Below w.heap.size w w') (hs : B ≤ w.heap.size) : Below B w w' := ⟨hb.os, hb.tape, hb.output, hb.size, fun b h => hb.block b (Nat.lt_of_lt_of_le h hs)⟩
def Own (B : Nat) (w1 : World) (P N : Nat) (t : PT) (w : World) : Prop := ∃ y F, TreeM w F P N y t ∧ WellP t ∧ (∀ b, F b → B ≤ b) ∧ B ≤ w.heap.size ∧ Below B w1 w
def Pair (B : Nat) (w1 : World) (P P2 N : Nat) (t t2 : PT) (w : World) : Prop := ∃ y F y2 F2, TreeM w F P N y t ∧ TreeM w F2 P2 N y2 t2 ∧ WellP t ∧ WellP t2 ∧ (∀ b, F b → B ≤ b) ∧ (∀ b, F2 b → B ≤ b) ∧ (∀ b, F b → ¬ F2 b) ∧ B ≤ w.heap.size ∧ Below B w1 w
section
variable {B P P2 N : Nat} {K : Int} {w1 w w' : World} {t t2 : PT}
theorem heldK_newT (n : Int) : HeldK 0 (newT n) := by
 intro i x hx
 unfold newT PT.set at hx
 simp only at hx
 split at hx
 · cases hx; exact Int.le_refl _
 · cases hx
theorem own_new (n : Int) (w : World) (h1 : 2 ≤ n) (h2 : n ≤ 256) : Calls Tryz.prog 16 #[.int .i64 n] w fun e w' => ∃ P, e = .returned (.tuple #[.pointer (some ⟨P, 0, none⟩), .int .i64 0]) ∧ Own w.heap.size w P 1 (newT n) w' :=
 (t_new n w h1 h2).mono fun _e _w' ⟨P, y, F, he, hT, hb, hF⟩ => ⟨P, he, y, F, hT, WellP.new n h1 h2, hF, hb.size, hb⟩
theorem Own.below (h : Own B w1 P N t w) (hb : Below w.heap.size w w') : Own B w1 P N t w' := by
 obtain ⟨y, F, hT, hW, hF, hs, hB⟩ := h
 exact ⟨y, F, hT.below hb, hW, hF, Nat.le_trans hs hb.size, hB.trans (below_own hb hs)⟩
theorem Own.mem (h : Own B w1 P N t w) : Below B w1 w := by
 obtain ⟨y, F, _, _, _, _, hB⟩ := h
 exact hB
theorem Pair.below (h : Pair B w1 P P2 N t t2 w) (hb : Below w.heap.size w w') : Pair B w1 P P2 N t t2 w' := by
 obtain ⟨y, F, y2, F2, hT, hT2, hW, hW2, hF, hF2, hd, hs, hB⟩ := h
 exact ⟨y, F, y2, F2, hT.below hb, hT2.below hb, hW, hW2, hF, hF2, hd, Nat.le_trans hs hb.size, hB.trans (below_own hb hs)⟩
theorem Pair.mem (h : Pair B w1 P P2 N t t2 w) : Below B w1 w := by
 obtain ⟨y, F, y2, F2, _, _, _, _, _, _, _, _, hB⟩ := h
 exact hB
theorem pair_alike (h : Pair B w1 P P2 N t t w) (hN : N ≤ 60000) :
  Calls Tryz.prog 12 #[.pointer (some ⟨P, 0, none⟩), .pointer (some ⟨P2, 0, none⟩)] w fun e w' => e = .returned (.bool true) ∧ Pair B w1 P P2 N t t w' := by
 have h' := h
 obtain ⟨y, F, y2, F2, hT, hT2, hW, _⟩ := h
 exact (t_alike w hT hT2 hW hN).mono fun e w' ⟨he, hb⟩ => ⟨he, h'.below hb⟩
end
theorem RecOk.texts {r : R} (h : RecOk r) : r.Texts := ⟨h.1, h.2.1, h.2.2.1, h.2.2.2⟩
theorem rAt_at {l : List R} {k : Nat} (h : k < l.length) : l[k]? = some (rAt l k) := by
 unfold rAt
 rw [List.getD_eq_getElem?_getD, List.getElem?_eq_getElem h]
 rfl
end Go.Proofs.YtogljgiefmfafaaGreat

namespace Go.Proofs.YtogljgiefmfafaaGreat
open Go.RowKit Go.Maps
def AtD (w : World) (n : Int) (l : List R) (P2 G2 k : Nat) (wr : World) : Prop := ∃ t d, D.TreeAt wr P2 G2 d ∧ w.heap.size ≤ G2 ∧ Below w.heap.size w wr ∧ Pl (2 * k) t d ∧ runA (newT n) (l.take k) = some t
def PlaysQ (n : Int) (l : List R) (w : World) (e : Ending) (w' : World) : Prop := ∃ b : Bool, e = .returned (.bool b) ∧ (b = true → ∃ u, runA (newT n) l = some u) ∧ Below w.heap.size w w'
theorem PlaysQ.get {n : Int} {l : List R} {w w' : World} {e : Ending} (h : PlaysQ n l w e w') : ∃ b : Bool, e = .returned (.bool b) ∧ (b = true → ∃ u, runA (newT n) l = some u) ∧ Below w.heap.size w w' := h
theorem PlaysQ.no {n : Int} {l : List R} {w w' : World} (h : Below w.heap.size w w') : PlaysQ n l w (.returned (.bool false)) w' := ⟨false, rfl, (fun h => by cases h), h⟩
def KeepP (W W' : World) : Prop := ∀ (b : Nat) (o : Obj), W.heap[b]? = some o → ¬ isPo o → W'.heap[b]? = some o
section
variable {B P P2 N : Nat} {w1 w w' : World} {t t2 : PT}
theorem own_recK (r : R) (hr : r.Texts) (a : Int) (t' : PT) (he : playA t r = (a, t')) (h : Own B w1 P N t w) (hK : HeldK 999999999 t) (hN : N < 800000) :
  Calls Tryz.prog 27 #[.pointer (some ⟨P, 0, none⟩), r.val] w fun e w' => e = .returned (.int .i64 a) ∧ Own B w1 P (N + 2) t' w' ∧ KeepP w w' := by
 obtain ⟨y, F, hT, hW, hF, hs, hB⟩ := h
 have hx := hT.exact
 refine (t_playA r hr a t' he w hx hW hK hN).mono fun e w' ⟨he2, y', F', hT', hU⟩ => ⟨he2, ⟨y', F', hT', ?_, fun b hb => ?_, Nat.le_trans hs hU.size, hB.trans (hU.below (fun b hb => hF b (hT.sub hb)) hs)⟩, fun b o hb ho => ?_⟩
 · have := hW.playA_ hr.ok
   rw [he] at this
   exact this
 · rcases hU.foot b hb with h1 | h1
   · exact hF b (hT.sub h1)
   · exact Nat.le_trans hs h1
 · rw [← hb]
   refine hU.block b (Array.getElem?_eq_some_iff.1 hb).1 fun hf => ?_
   obtain ⟨o', h1, h2⟩ := hx.isP hf
   rw [hb] at h1
   obtain rfl := Option.some.inj h1
   exact ho h2
end
end Go.Proofs.YtogljgiefmfafaaGreat
