/- fair.in, fair.Steps, fair.Bound. -/
import Derived.Test.YtmnombfgahmfkaaGreatDoorOA
namespace Go.Proofs.YtmnombfgahmfkaaGreatDoor
open Go.RowKit Go.Maps

theorem t_in (n a b : Int) (w : World) : Calls Tryz.prog 10 #[.int .i64 n, .int .i64 a, .int .i64 b] w fun e w' => e = .returned (.bool (decide (a ≤ n ∧ n ≤ b))) ∧ w = w' := by
  by_cases h1 : a ≤ n
  · by_cases h2 : n ≤ b
    · have h3 : decide (a ≤ n ∧ n ≤ b) = true := by simp [h1, h2]
      rw [h3]
      go_enter Tryz.func10, Tryz.ntmps10
      go_wp2
      go_ret
      exact ⟨rfl, rfl⟩
    · have h3 : decide (a ≤ n ∧ n ≤ b) = false := by simp [h2]
      rw [h3]
      go_enter Tryz.func10, Tryz.ntmps10
      go_wp2
      go_ret
      exact ⟨rfl, rfl⟩
  · have h3 : decide (a ≤ n ∧ n ≤ b) = false := by simp [h1]
    rw [h3]
    go_enter Tryz.func10, Tryz.ntmps10
    go_wp2
    go_ret
    exact ⟨rfl, rfl⟩
abbrev confV (i c l r : Int) : Value := .agg #[.int .i64 i, .int .i64 c, .int .i64 l, .int .i64 r]
end Go.Proofs.YtmnombfgahmfkaaGreatDoor
