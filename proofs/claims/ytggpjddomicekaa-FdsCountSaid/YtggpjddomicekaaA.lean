/- Words on memory for the descriptors' table, and the contracts of the table's plain methods. -/
import Derived.Test.YtggpjddomicekaaRows
import Derived.WalkKit
import Derived.WalkSpells
import Derived.WalkLawsBesides
import Derived.Lib.Hide
import Derived.Deep.Draws
import Derived.LoopTactic
namespace Go.Proofs.Ytggpjddomicekaa
open Go.RowKit

/-- Block b is a table of n cores: T (16 * core + fd): the inode. -/
structure Tab (w : World) (b : Nat) (T : Nat → Int) (n : Int) : Prop where
  ex : ∃ cs : Array Value, w.heap[b]? = some (.cells cs 48 (0, 0)) ∧ cs.size = 129 ∧ (∀ i, i < 128 → cs[i]? = some (.int .u32 (T i))) ∧ cs[128]? = some (.int .i64 n)

theorem Tab.cell {w : World} {b : Nat} {T : Nat → Int} {n : Int} (h : Tab w b T n) {i : Nat} (hi : i < 128) : w.cell? ⟨b, i, none⟩ = some (.int .u32 (T i)) := by
  obtain ⟨cs, h1, _, h3, _⟩ := h.ex
  simp [World.cell?, h1, h3 i hi]
theorem Tab.cores {w : World} {b : Nat} {T : Nat → Int} {n : Int} (h : Tab w b T n) : w.cell? ⟨b, 128, none⟩ = some (.int .i64 n) := by
  obtain ⟨cs, h1, _, _, h4⟩ := h.ex
  simp [World.cell?, h1, h4]
theorem Tab.frozen {w : World} {b : Nat} {T : Nat → Int} {n : Int} (h : Tab w b T n) (i : Nat) : w.frozen? ⟨b, i, none⟩ = false := by
  obtain ⟨cs, h1, _⟩ := h.ex
  simp [World.frozen?, h1]
theorem Tab.lt {w : World} {b : Nat} {T : Nat → Int} {n : Int} (h : Tab w b T n) : b < w.heap.size := by
  obtain ⟨cs, h1, _⟩ := h.ex
  exact (Array.getElem?_eq_some_iff.1 h1).1
theorem Tab.kept {w w' : World} {b : Nat} {T : Nat → Int} {n : Int} (h : Tab w b T n) (hk : w'.heap[b]? = w.heap[b]?) : Tab w' b T n := by
  obtain ⟨cs, h1, h2⟩ := h.ex
  exact ⟨cs, hk.trans h1, h2⟩
theorem Tab.below {B : Nat} {w w' : World} {b : Nat} {T : Nat → Int} {n : Int} (h : Tab w b T n) (hb : Below B w w') (hB : b < B) : Tab w' b T n := h.kept (hb.block b hB)
theorem Tab.alloc {w : World} {b : Nat} {T : Nat → Int} {n : Int} (h : Tab w b T n) (o : Obj) : Tab (w.alloc o) b T n := h.kept (Below.heap_alloc w o b h.lt)

/-- T with one place set. -/
def upd (T : Nat → Int) (p : Nat) (v : Int) : Nat → Int := fun i => if i = p then v else T i

theorem Tab.set {w : World} {b : Nat} {T : Nat → Int} {n : Int} (h : Tab w b T n) {p : Nat} (hp : p < 128) (v : Int) : Tab (w.setCell ⟨b, p, none⟩ (.int .u32 v)) b (upd T p v) n := by
  obtain ⟨cs, h1, h2, h3, h4⟩ := h.ex
  refine ⟨cs.setIfInBounds p (.int .u32 v), ?_, by simpa using h2, fun i hi => ?_, ?_⟩
  · simp [World.setCell, Array.getElem?_modify, h1]
  · unfold upd
    by_cases e : i = p
    · subst e; simp [Array.getElem?_setIfInBounds, h2]; omega
    · rw [Array.getElem?_setIfInBounds, if_neg (by omega), if_neg e]; exact h3 i hi
  · rw [Array.getElem?_setIfInBounds, if_neg (by omega)]; exact h4

theorem has_yes (b : Nat) (c : Int) (n : Int) (w : World) (hc : w.cell? ⟨b, 128, none⟩ = some (.int .i64 n)) (h0 : 0 ≤ c) (h1 : c < n) :
    Calls Try.prog 11 #[.pointer (some ⟨b, 0, none⟩), .int .i64 c] w fun e w' => e = .returned (.bool true) ∧ w = w' := by
  go_enter Try.func11, Try.ntmps11
  go_wp2
  go_ret
  exact ⟨rfl, rfl⟩
theorem has_no (b : Nat) (c : Int) (n : Int) (w : World) (hc : w.cell? ⟨b, 128, none⟩ = some (.int .i64 n)) (h0 : ¬ (0 ≤ c ∧ c < n)) :
    Calls Try.prog 11 #[.pointer (some ⟨b, 0, none⟩), .int .i64 c] w fun e w' => e = .returned (.bool false) ∧ w = w' := by
  by_cases h : 0 ≤ c
  · have h1 : ¬ c < n := fun hh => h0 ⟨h, hh⟩
    clear h0
    go_enter Try.func11, Try.ntmps11
    go_wp2
    go_ret
    exact ⟨rfl, rfl⟩
  · clear h0
    go_enter Try.func11, Try.ntmps11
    go_wp2
    go_ret
    exact ⟨rfl, rfl⟩

theorem of_no (b : Nat) (c fd : Int) (n : Int) (w : World) (hc : w.cell? ⟨b, 128, none⟩ = some (.int .i64 n)) (h0 : ¬ (0 ≤ c ∧ c < n ∧ 0 ≤ fd ∧ fd ≤ 15)) :
    Calls Try.prog 8 #[.pointer (some ⟨b, 0, none⟩), .int .i64 c, .int .i64 fd] w fun e w' => e = .returned (.tuple #[.int .u32 0, .bool false]) ∧ w = w' := by
  by_cases h : 0 ≤ c ∧ c < n
  · by_cases h1 : 0 ≤ fd
    · have h2 : ¬ fd ≤ 15 := fun hh => h0 ⟨h.1, h.2, h1, hh⟩
      have h2' : 15 < fd := by omega
      have h3 : ¬ fd < 0 := by omega
      clear h0
      go_enter Try.func8, Try.ntmps8
      go_wp2_with (go_at_call 11; refine (has_yes _ _ _ _ hc h.1 h.2).mono ?_; rintro e w' ⟨rfl, rfl⟩)
      go_ret2
      exact ⟨rfl, rfl⟩
    · clear h0
      have h3 : fd < 0 := by omega
      go_enter Try.func8, Try.ntmps8
      go_wp2_with (go_at_call 11; refine (has_yes _ _ _ _ hc h.1 h.2).mono ?_; rintro e w' ⟨rfl, rfl⟩)
      go_ret2
      exact ⟨rfl, rfl⟩
  · clear h0
    go_enter Try.func8, Try.ntmps8
    go_wp2_with (go_at_call 11; refine (has_no _ _ _ _ hc h).mono ?_; rintro e w' ⟨rfl, rfl⟩)
    go_ret2
    exact ⟨rfl, rfl⟩

theorem of_yes (b : Nat) (c fd : Nat) (T : Nat → Int) (n : Int) (w : World) (ht : Tab w b T n) (h1 : (c : Int) < n) (h2 : fd < 16) (hn : n ≤ 8) :
    Calls Try.prog 8 #[.pointer (some ⟨b, 0, none⟩), .int .i64 c, .int .i64 fd] w fun e w' => e = .returned (.tuple #[.int .u32 (T (c * 16 + fd)), .bool (T (c * 16 + fd) != 0)]) ∧ w = w' := by
  have hc := ht.cores
  have hv := ht.cell (i := c * 16 + fd) (by omega)
  go_enter Try.func8, Try.ntmps8
  go_wp2_with (go_at_call 11; refine (has_yes _ _ _ _ hc (by omega) h1).mono ?_; rintro e w' ⟨rfl, rfl⟩)
  go_ret2
  exact ⟨rfl, rfl⟩

theorem close_no (b : Nat) (c fd : Int) (n : Int) (w : World) (hc : w.cell? ⟨b, 128, none⟩ = some (.int .i64 n)) (h0 : ¬ (0 ≤ c ∧ c < n ∧ 0 ≤ fd ∧ fd ≤ 15)) :
    Calls Try.prog 9 #[.pointer (some ⟨b, 0, none⟩), .int .i64 c, .int .i64 fd] w fun e w' => e = .returned (.tuple #[.int .u32 0, .int .i64 3]) ∧ w = w' := by
  go_enter Try.func9, Try.ntmps9
  go_wp2_with (go_at_call 8; refine (of_no _ _ _ _ _ hc h0).mono ?_; rintro e w' ⟨rfl, rfl⟩)
  go_ret2
  exact ⟨rfl, rfl⟩

theorem close_free (b : Nat) (c fd : Nat) (T : Nat → Int) (n : Int) (w : World) (ht : Tab w b T n) (h1 : (c : Int) < n) (h2 : fd < 16) (hn : n ≤ 8) (hz : T (c * 16 + fd) = 0) :
    Calls Try.prog 9 #[.pointer (some ⟨b, 0, none⟩), .int .i64 c, .int .i64 fd] w fun e w' => e = .returned (.tuple #[.int .u32 0, .int .i64 3]) ∧ w = w' := by
  have H := (of_yes b c fd T n w ht h1 h2 hn)
  rw [hz] at H
  clear hz
  go_enter Try.func9, Try.ntmps9
  go_wp2_with (go_at_call 8; refine H.mono ?_; rintro e w' ⟨rfl, rfl⟩)
  go_ret2
  exact ⟨rfl, rfl⟩

theorem close_yes (b : Nat) (c fd : Nat) (T : Nat → Int) (n : Int) (w : World) (ht : Tab w b T n) (h1 : (c : Int) < n) (h2 : fd < 16) (hn : n ≤ 8) (hz : T (c * 16 + fd) ≠ 0) :
    Calls Try.prog 9 #[.pointer (some ⟨b, 0, none⟩), .int .i64 c, .int .i64 fd] w fun e w' => e = .returned (.tuple #[.int .u32 (T (c * 16 + fd)), .int .i64 0]) ∧ w' = w.setCell ⟨b, c * 16 + fd, none⟩ (.int .u32 0) := by
  have H := (of_yes b c fd T n w ht h1 h2 hn)
  have hz' : (T (c * 16 + fd) != 0) = true := by simpa using hz
  rw [hz'] at H
  clear hz hz'
  have hv := ht.cell (i := c * 16 + fd) (by omega)
  have hf := ht.frozen (c * 16 + fd)
  go_enter Try.func9, Try.ntmps9
  go_wp2_with (go_at_call 8; refine H.mono ?_; rintro e w' ⟨rfl, rfl⟩)
  go_ret2
  exact ⟨rfl, rfl⟩

/-- The zero table's cells. -/
def z48 : Array Value := Array.replicate 128 (.int .u32 0) ++ #[.int .i64 0]
theorem z48_size : z48.size = 129 := by simp [z48]
theorem zero48 (w : World) : (zeroValue 48).run Try.prog w = .ok (.agg z48) w := by kernel_rfl

set_option maxRecDepth 100000 in
theorem new_ok (n : Int) (h1 : 1 ≤ n) (h2 : n ≤ 8) (w : World) :
    Calls Try.prog 5 #[.int .i64 n] w fun e w' => e = .returned (.tuple #[.pointer (some ⟨w.heap.size, 0, none⟩), .int .i64 0]) ∧ w' = w.alloc (.cells (z48.setIfInBounds 128 (.int .i64 n)) 48) := by
  have hz := zero48
  have hs := z48_size
  go_enter Try.func5, Try.ntmps5
  go_wp2
  go_ret2
  exact ⟨rfl, rfl⟩

theorem Tab.new (w : World) (n : Int) : Tab (w.alloc (.cells (z48.setIfInBounds 128 (.int .i64 n)) 48)) w.heap.size (fun _ => 0) n := by
  refine ⟨_, heap_alloc_new w _, by simp [z48_size], fun i hi => ?_, ?_⟩
  · rw [Array.getElem?_setIfInBounds, if_neg (by omega)]
    unfold z48
    rw [Array.getElem?_append_left (by simpa using hi)]
    simp [hi]
  · rw [Array.getElem?_setIfInBounds, if_pos rfl, if_pos (by rw [z48_size]; omega)]

theorem new_bad (n : Int) (h : ¬ (1 ≤ n ∧ n ≤ 8)) (w : World) :
    Calls Try.prog 5 #[.int .i64 n] w fun e w' => e = .returned (.tuple #[.pointer none, .int .i64 2]) ∧ w = w' := by
  by_cases h1 : n < 1
  · clear h
    go_enter Try.func5, Try.ntmps5
    go_wp2
    go_ret2
    exact ⟨rfl, rfl⟩
  · have h2 : 8 < n := by omega
    clear h
    go_enter Try.func5, Try.ntmps5
    go_wp2
    go_ret2
    exact ⟨rfl, rfl⟩

theorem open_arg (b : Nat) (c ino : Int) (n : Int) (w : World) (hc : w.cell? ⟨b, 128, none⟩ = some (.int .i64 n)) (h0 : ¬ (0 ≤ c ∧ c < n ∧ ino ≠ 0)) :
    Calls Try.prog 6 #[.pointer (some ⟨b, 0, none⟩), .int .i64 c, .int .u32 ino] w fun e w' => e = .returned (.tuple #[.int .i64 0, .int .i64 2]) ∧ w = w' := by
  by_cases h : 0 ≤ c ∧ c < n
  · have h2 : ino = 0 := Classical.byContradiction fun hh => h0 ⟨h.1, h.2, hh⟩
    subst h2
    clear h0
    go_enter Try.func6, Try.ntmps6
    go_wp2_with (go_at_call 11; refine (has_yes _ _ _ _ hc h.1 h.2).mono ?_; rintro e w' ⟨rfl, rfl⟩)
    go_ret2
    exact ⟨rfl, rfl⟩
  · clear h0
    go_enter Try.func6, Try.ntmps6
    go_wp2_with (go_at_call 11; refine (has_no _ _ _ _ hc h).mono ?_; rintro e w' ⟨rfl, rfl⟩)
    go_ret2
    exact ⟨rfl, rfl⟩

theorem open_yes (b : Nat) (c fd : Nat) (ino : Int) (T : Nat → Int) (n : Int) (w : World) (ht : Tab w b T n) (h1 : (c : Int) < n) (h2 : fd < 16) (hn : n ≤ 8) (hino : (ino == 0) = false)
    (hz : T (c * 16 + fd) = 0) (hlt : ∀ i, i < fd → T (c * 16 + i) ≠ 0) :
    Calls Try.prog 6 #[.pointer (some ⟨b, 0, none⟩), .int .i64 c, .int .u32 ino] w fun e w' => e = .returned (.tuple #[.int .i64 fd, .int .i64 0]) ∧ w' = w.setCell ⟨b, c * 16 + fd, none⟩ (.int .u32 ino) := by
  have hc := ht.cores
  have hf := ht.frozen (c * 16 + fd)
  have hv0 := ht.cell (i := c * 16 + fd) (by omega)
  rw [hz] at hv0
  have HL := Lib.hid hlt
  clear hlt hz
  go_enter Try.func6, Try.ntmps6
  go_wp2_with (go_at_call 11; refine (has_yes _ _ _ _ hc (by omega) h1).mono ?_; rintro e w' ⟨rfl, rfl⟩)
  go_loop [21] (fun i => ∃ k : Nat, k ≤ fd ∧ i = .int .i64 k) (fun i => fd + 1 - (intOf i).toNat)
  case atStart => exact ⟨0, Nat.zero_le _, rfl⟩
  case round =>
    obtain ⟨k, hk, rfl⟩ := hrel
    by_cases he : k = fd
    · subst he
      go_wp2
      go_ret2
      exact ⟨rfl, rfl⟩
    · have hv := ht.cell (i := c * 16 + k) (by omega)
      have hne := HL.out k (by omega)
      have hne' : (T (c * 16 + k) == 0) = false := by simpa using hne
      clear hne hc hf hv0
      go_wp2
      go_round
      case rel => exact ⟨k + 1, by omega, by go_num⟩
      case measure => simp [intOf]; omega

theorem open_full (b : Nat) (c : Nat) (ino : Int) (T : Nat → Int) (n : Int) (w : World) (ht : Tab w b T n) (h1 : (c : Int) < n) (hn : n ≤ 8) (hino : (ino == 0) = false)
    (hlt : ∀ i, i < 16 → T (c * 16 + i) ≠ 0) :
    Calls Try.prog 6 #[.pointer (some ⟨b, 0, none⟩), .int .i64 c, .int .u32 ino] w fun e w' => e = .returned (.tuple #[.int .i64 0, .int .i64 4]) ∧ w = w' := by
  have hc := ht.cores
  have HL := Lib.hid hlt
  clear hlt
  go_enter Try.func6, Try.ntmps6
  go_wp2_with (go_at_call 11; refine (has_yes _ _ _ _ hc (by omega) h1).mono ?_; rintro e w' ⟨rfl, rfl⟩)
  go_loop [21] (fun i => ∃ k : Nat, k ≤ 16 ∧ i = .int .i64 k) (fun i => 17 - (intOf i).toNat)
  case atStart => exact ⟨0, Nat.zero_le _, rfl⟩
  case round =>
    obtain ⟨k, hk, rfl⟩ := hrel
    by_cases he : k = 16
    · subst he
      go_wp2
      go_ret2
      exact ⟨rfl, rfl⟩
    · have hv := ht.cell (i := c * 16 + k) (by omega)
      have hne := HL.out k (by omega)
      have hne' : (T (c * 16 + k) == 0) = false := by simpa using hne
      clear hne hc
      go_wp2
      go_round
      case rel => exact ⟨k + 1, by omega, by go_num⟩
      case measure => simp [intOf]; omega
end Go.Proofs.Ytggpjddomicekaa
