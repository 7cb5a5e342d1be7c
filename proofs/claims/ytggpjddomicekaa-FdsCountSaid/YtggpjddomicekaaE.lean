/- The chapter's example. -/
import Derived.Test.YtggpjddomicekaaD
namespace Go.Proofs.Ytggpjddomicekaa
open Go.RowKit

theorem hits_eq (T : Nat → Int) (ino : Int) (c k : Nat) : hits ino (opens T c k) = (List.range k).countP fun i => decide (ino ≠ 0 ∧ T (c * 16 + i) = ino) := by
  induction k with
  | zero => rfl
  | succ k ih =>
    rw [List.range_succ, List.countP_append, ← ih]
    by_cases h : T (c * 16 + k) = 0
    · rw [opens_zero h]; simp [h]; intro h1 h2; exact h1 h2.symm
    · rw [opens_some h, hits_snoc]; by_cases h2 : ino ≠ 0 ∧ T (c * 16 + k) = ino <;> simp [h2]

def T1 : Nat → Int := upd (fun _ => 0) 0 7
def T2 : Nat → Int := upd T1 1 8
def T3 : Nat → Int := upd T2 16 7
def T4 : Nat → Int := upd T3 0 0
def T5 : Nat → Int := upd T4 0 9


theorem only_setCell' (w : World) (b off : Nat) (v : Value) : w.grownBy (w.setCell ⟨b, off, none⟩ v) (some b) :=
  ⟨rfl, rfl, rfl, by simp [World.setCell], fun k _ hk => Below.heap_setCell _ _ _ k (fun e => hk (by rw [e]))⟩
/-- A call of Open that opens, in words on the table. -/
theorem open_tab (b : Nat) (c fd : Nat) (ino : Int) (T : Nat → Int) (n : Int) (w : World) (ht : Tab w b T n) (h1 : (c : Int) < n) (h2 : fd < 16) (hn : n ≤ 8) (hino : (ino == 0) = false)
    (hz : T (c * 16 + fd) = 0) (hlt : ∀ i, i < fd → T (c * 16 + i) ≠ 0) :
    Calls Try.prog 6 #[.pointer (some ⟨b, 0, none⟩), .int .i64 c, .int .u32 ino] w fun e w' => e = .returned (.tuple #[.int .i64 fd, .int .i64 0]) ∧ Tab w' b (upd T (c * 16 + fd) ino) n ∧ w.grownBy w' (some b) ∧ w'.heap.size = w.heap.size := by
  refine (open_yes b c fd ino T n w ht h1 h2 hn hino hz hlt).mono ?_
  rintro e w' ⟨rfl, rfl⟩
  exact ⟨rfl, ht.set (by omega) ino, only_setCell' w b _ _, by simp [World.setCell]⟩
theorem close_tab (b : Nat) (c fd : Nat) (T : Nat → Int) (n : Int) (w : World) (ht : Tab w b T n) (h1 : (c : Int) < n) (h2 : fd < 16) (hn : n ≤ 8) (hz : T (c * 16 + fd) ≠ 0) :
    Calls Try.prog 9 #[.pointer (some ⟨b, 0, none⟩), .int .i64 c, .int .i64 fd] w fun e w' => e = .returned (.tuple #[.int .u32 (T (c * 16 + fd)), .int .i64 0]) ∧ Tab w' b (upd T (c * 16 + fd) 0) n ∧ w.grownBy w' (some b) ∧ w'.heap.size = w.heap.size := by
  refine (close_yes b c fd T n w ht h1 h2 hn hz).mono ?_
  rintro e w' ⟨rfl, rfl⟩
  exact ⟨rfl, ht.set (by omega) 0, only_setCell' w b _ _, by simp [World.setCell]⟩

theorem opens_any (b : Nat) (n ino : Int) (T : Nat → Int) (w : World) (hT : Tab w b T n) (hn0 : 0 ≤ n) (hn : n ≤ 8) :
    Calls Try.prog 10 #[.pointer (some ⟨b, 0, none⟩), .int .u32 ino] w fun e W' => e = .returned (.int .i64 (hitsTo T n ino n.toNat)) ∧ Below w.heap.size w W' :=
  callsIn_wide.1 (opens_in b n ino T w hT hn0 hn)
theorem list_any (b : Nat) (c n : Int) (T : Nat → Int) (w : World) (hT : Tab w b T n) (hn : n ≤ 8) :
    Calls Try.prog 7 #[.pointer (some ⟨b, 0, none⟩), .int .i64 c] w fun e W' => ∃ v, e = .returned v ∧ W'.ownsRow w.heap.size 39 2 v (rowOf T n c).length (cellsOf (rowOf T n c)) ∧ Below w.heap.size w W' :=
  callsIn_wide.1 (list_in b c n T w hT hn)

def T0 : Nat → Int := fun _ => 0
theorem s1 (b : Nat) (W : World) (h : Tab W b T0 2) : Calls Try.prog 6 #[.pointer (some ⟨b, 0, none⟩), .int .i64 0, .int .u32 7] W fun e w' => e = .returned (.tuple #[.int .i64 0, .int .i64 0]) ∧ Tab w' b T1 2 ∧ W.grownBy w' (some b) ∧ w'.heap.size = W.heap.size :=
  open_tab b 0 0 7 T0 2 W h (by decide) (by decide) (by decide) (by decide) (by decide) (by decide)
theorem s2 (b : Nat) (W : World) (h : Tab W b T1 2) : Calls Try.prog 6 #[.pointer (some ⟨b, 0, none⟩), .int .i64 0, .int .u32 8] W fun e w' => e = .returned (.tuple #[.int .i64 1, .int .i64 0]) ∧ Tab w' b T2 2 ∧ W.grownBy w' (some b) ∧ w'.heap.size = W.heap.size :=
  open_tab b 0 1 8 T1 2 W h (by decide) (by decide) (by decide) (by decide) (by decide) (by decide)
theorem s3 (b : Nat) (W : World) (h : Tab W b T2 2) : Calls Try.prog 6 #[.pointer (some ⟨b, 0, none⟩), .int .i64 1, .int .u32 7] W fun e w' => e = .returned (.tuple #[.int .i64 0, .int .i64 0]) ∧ Tab w' b T3 2 ∧ W.grownBy w' (some b) ∧ w'.heap.size = W.heap.size :=
  open_tab b 1 0 7 T2 2 W h (by decide) (by decide) (by decide) (by decide) (by decide) (by decide)
theorem s4 (b : Nat) (W : World) (h : Tab W b T3 2) : Calls Try.prog 9 #[.pointer (some ⟨b, 0, none⟩), .int .i64 0, .int .i64 0] W fun e w' => e = .returned (.tuple #[.int .u32 7, .int .i64 0]) ∧ Tab w' b T4 2 ∧ W.grownBy w' (some b) ∧ w'.heap.size = W.heap.size :=
  close_tab b 0 0 T3 2 W h (by decide) (by decide) (by decide) (by decide)
theorem s5 (b : Nat) (W : World) (h : Tab W b T4 2) : Calls Try.prog 6 #[.pointer (some ⟨b, 0, none⟩), .int .i64 0, .int .u32 9] W fun e w' => e = .returned (.tuple #[.int .i64 0, .int .i64 0]) ∧ Tab w' b T5 2 ∧ W.grownBy w' (some b) ∧ w'.heap.size = W.heap.size :=
  open_tab b 0 0 9 T4 2 W h (by decide) (by decide) (by decide) (by decide) (by decide) (by decide)
theorem s6 (b : Nat) (W : World) (h : Tab W b T5 2) : Calls Try.prog 9 #[.pointer (some ⟨b, 0, none⟩), .int .i64 0, .int .i64 2] W fun e w' => e = .returned (.tuple #[.int .u32 0, .int .i64 3]) ∧ W = w' :=
  close_free b 0 2 T5 2 W h (by decide) (by decide) (by decide) (by decide)
theorem h7 : hitsTo T5 2 7 2 = 1 := by
  have h0 : rowOf T5 2 ((0 : Nat) : Int) = opens T5 0 16 := by unfold rowOf; rw [if_pos (by decide)]; rfl
  have h1 : rowOf T5 2 ((1 : Nat) : Int) = opens T5 1 16 := by unfold rowOf; rw [if_pos (by decide)]; rfl
  unfold hitsTo hitsTo hitsTo
  rw [h0, h1, hits_eq, hits_eq]
  decide
theorem s7 (b : Nat) (W : World) (h : Tab W b T5 2) : Calls Try.prog 10 #[.pointer (some ⟨b, 0, none⟩), .int .u32 7] W fun e W' => e = .returned (.int .i64 1) ∧ Below W.heap.size W W' := by
  have := opens_any b 2 7 T5 W h (by decide) (by decide)
  rw [show ((2 : Int).toNat) = 2 from rfl, h7] at this
  exact this

set_option maxHeartbeats 1000000 in
theorem alive_any (w : World) : Calls Try.prog 4 #[] w fun e w' => e = .returned (.bool true) ∧ Below w.heap.size w w' := by
  go_enter Try.func4, Try.ntmps4
  go_wp2_with fail
  refine (new_ok 2 (by decide) (by decide) _).mono ?_
  rintro e w' ⟨rfl, rfl⟩
  have hT0 : Tab _ w.heap.size T0 2 := Tab.new w 2
  have hB0 := (Below.refl w.heap.size w).alloc (Nat.le_refl _) (.cells (z48.setIfInBounds 128 (.int .i64 2)) 48)
  generalize w.alloc (.cells (z48.setIfInBounds 128 (.int .i64 2)) 48) = W0 at *
  go_wp2_with fail
  refine (new_bad 0 (by decide) _).mono ?_
  rintro e w' ⟨rfl, rfl⟩
  go_wp2_with fail
  refine (s1 w.heap.size W0 hT0).mono ?_
  rintro e w1 ⟨rfl, hT1, hg1, hz1⟩
  go_wp2_with fail
  refine (s2 w.heap.size w1 hT1).mono ?_
  rintro e w2 ⟨rfl, hT2, hg2, hz2⟩
  go_wp2_with fail
  refine (s3 w.heap.size w2 hT2).mono ?_
  rintro e w3 ⟨rfl, hT3, hg3, hz3⟩
  go_wp2_with fail
  refine (s4 w.heap.size w3 hT3).mono ?_
  rintro e w4 ⟨rfl, hT4, hg4, hz4⟩
  go_wp2_with fail
  refine (s5 w.heap.size w4 hT4).mono ?_
  rintro e w5 ⟨rfl, hT5, hg5, hz5⟩
  go_wp2_with fail
  refine (s6 w.heap.size w5 hT5).mono ?_
  rintro e w6 ⟨rfl, rfl⟩
  have hB5 : Below w.heap.size w w5 := ((((hB0.grown hg1 hB0.size (by rintro k ⟨rfl⟩; exact Nat.le_refl _)).grown hg2 (by have := hB0.size; omega) (by rintro k ⟨rfl⟩; exact Nat.le_refl _)).grown hg3 (by have := hB0.size; omega) (by rintro k ⟨rfl⟩; exact Nat.le_refl _)).grown hg4 (by have := hB0.size; omega) (by rintro k ⟨rfl⟩; exact Nat.le_refl _)).grown hg5 (by have := hB0.size; omega) (by rintro k ⟨rfl⟩; exact Nat.le_refl _)
  clear hz1 hz2 hz3 hz4 hz5 hg1 hg2 hg3 hg4 hg5
  go_wp2_with fail
  refine (s7 w.heap.size w5 hT5).mono ?_
  rintro e w7 ⟨rfl, hB7⟩
  go_wp2
  go_ret
  exact ⟨rfl, hB5.trans (hB7.mono hB5.size)⟩
end Go.Proofs.Ytggpjddomicekaa
