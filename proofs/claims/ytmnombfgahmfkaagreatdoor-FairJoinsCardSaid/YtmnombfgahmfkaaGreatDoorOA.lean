/- Fair picks, plain. -/
import Derived.Test.YtmnombfgahmfkaaGreatDoorRA
namespace Go.Proofs.YtmnombfgahmfkaaGreatDoor
open Go.RowKit Go.Maps

/-- A core that was met is put to the row of those. -/
def met1 (c : Int) (s : List Int) (p : Int) : List Int := if p % c ∈ s then s else p % c :: s
def metL (c : Int) (l : List Int) : List Int := l.foldl (met1 c) []
/-- Is each core met? -/
def hasF (c : Int) (l : List Int) : Bool := decide (((metL c l).length : Int) = c)
def partF (w : Nat) (l : List Int) (i : Nat) : List Int := (l.drop (i * w)).take w
def fairB (c : Int) (w : Nat) (l : List Int) : Nat → Bool
  | 0 => true
  | k + 1 => hasF c (partF w l k) && fairB c w l k
/-- How many parts there are, and whether each has each core. -/
def fairP (c : Int) (w : Nat) (l : List Int) : Nat × Bool := (l.length / w, fairB c w l (l.length / w))
section
variable {c : Int} {w : Nat} {a b l : List Int}
theorem fairB_left {q : Nat} (hq : a.length = q * w) : ∀ k, k ≤ q → fairB c w (a ++ b) k = fairB c w a k
  | 0, _ => rfl
  | k + 1, hk => by
    have hp : partF w (a ++ b) k = partF w a k := by
      unfold partF
      have h1 : (k + 1) * w ≤ q * w := Nat.mul_le_mul_right w hk
      have h2 : (k + 1) * w = k * w + w := by rw [Nat.add_mul, Nat.one_mul]
      rw [List.drop_append_of_le_length (by omega), List.take_append_of_le_length (by rw [List.length_drop]; omega)]
    show (hasF c (partF w (a ++ b) k) && fairB c w (a ++ b) k) = (hasF c (partF w a k) && fairB c w a k)
    rw [hp, fairB_left hq k (by omega)]
theorem fairB_right {q : Nat} (hq : a.length = q * w) : ∀ k, fairB c w (a ++ b) (q + k) = (fairB c w b k && fairB c w a q)
  | 0 => by
    show fairB c w (a ++ b) q = (true && fairB c w a q)
    rw [fairB_left hq q (Nat.le_refl _)]
    rfl
  | k + 1 => by
    have hp : partF w (a ++ b) (q + k) = partF w b k := by
      unfold partF
      have h2 : (q + k) * w = a.length + k * w := by rw [Nat.add_mul, hq]
      rw [h2, List.drop_append, List.drop_eq_nil_of_le (by omega), List.nil_append]
      congr 2
      omega
    show (hasF c (partF w (a ++ b) (q + k)) && fairB c w (a ++ b) (q + k)) = (_ && _)
    rw [hp, fairB_right hq k, ← Bool.and_assoc]
    rfl
/-- Two rows, the first of which is whole parts. -/
theorem fair_join (hw : 0 < w) {q : Nat} (hq : a.length = q * w) : fairP c w (a ++ b) = ((fairP c w a).1 + (fairP c w b).1, (fairP c w a).2 && (fairP c w b).2) := by
  have h1 : a.length / w = q := by rw [hq]; exact Nat.mul_div_cancel q hw
  have h2 : (a ++ b).length / w = q + b.length / w := by
    rw [List.length_append, hq, Nat.add_comm, Nat.add_mul_div_right _ _ hw, Nat.add_comm]
  unfold fairP
  rw [h1, h2, fairB_right hq]
  simp only [Bool.and_comm]
/-- Turns. -/
def turn1 (c : Nat) : List Int := (List.range c).map fun k : Nat => (k : Int)
def turnsL (c : Nat) : Nat → List Int
  | 0 => []
  | n + 1 => turnsL c n ++ turn1 c
theorem turn1_length (c : Nat) : (turn1 c).length = c := by unfold turn1; simp
theorem turns_length (c : Nat) : ∀ n, (turnsL c n).length = n * c
  | 0 => by simp [turnsL]
  | n + 1 => by
    unfold turnsL
    rw [List.length_append, turns_length c n, turn1_length, Nat.add_mul, Nat.one_mul]
theorem turn1_has : ∀ {c : Nat}, 1 ≤ c → c ≤ 8 → hasF (c : Int) (turn1 c) = true := by
  have h : ∀ k : Fin 9, 1 ≤ k.val → hasF (k.val : Int) (turn1 k.val) = true := by decide
  intro c h1 h2
  exact h ⟨c, by omega⟩ h1
theorem fair_turns {c : Nat} (h1 : 1 ≤ c) (h2 : c ≤ 8) : ∀ n, fairP (c : Int) c (turnsL c n) = (n, true)
  | 0 => by unfold fairP turnsL; simp [fairB]
  | n + 1 => by
    unfold turnsL
    rw [fair_join (by omega) (q := n) (turns_length c n), fair_turns h1 h2 n]
    have e : fairP (c : Int) c (turn1 c) = (1, true) := by
      unfold fairP
      rw [turn1_length, Nat.div_self (by omega)]
      show (1, (hasF (c : Int) (partF c (turn1 c) 0) && true)) = _
      have : partF c (turn1 c) 0 = turn1 c := by
        unfold partF
        rw [Nat.zero_mul, List.drop_zero, List.take_of_length_le (by rw [turn1_length]; exact Nat.le_refl _)]
      rw [this, turn1_has h1 h2]
      rfl
    rw [e]
    rfl
end
/-- The bound of a call. -/
def stepsF (inodes tries : Int) : Int := if (2 ≤ inodes ∧ inodes ≤ 256) ∧ (0 ≤ tries ∧ tries ≤ 16) then 48 * (tries + 1) + 3 * (inodes + 1) + 1 else 0
end Go.Proofs.YtmnombfgahmfkaaGreatDoor
