/- Records as the document has them: which may be. -/
import Derived.Test.YtnnidgjfjgkdpaaA
import Derived.Test.YtnnidgjfjgkdpaaM7
namespace Go.Proofs.Ytnnidgjfjgkdpaa
open Go.RowKit

def needsA (d : Int) : Array Value :=
  if d = 1 ∨ d = 3 then #[.bool true, .bool true, .bool false, .bool false, .bool false]
  else if d = 2 then #[.bool true, .bool false, .bool false, .bool false, .bool false]
  else if d = 4 then #[.bool true, .bool true, .bool true, .bool false, .bool false]
  else if d = 5 then #[.bool false, .bool false, .bool false, .bool true, .bool false]
  else if d = 6 then #[.bool false, .bool false, .bool false, .bool true, .bool true]
  else #[.bool false, .bool false, .bool false, .bool false, .bool false]
set_option maxHeartbeats 2000000 in
theorem t_of_lit (d : Int) (hd : d = 1 ∨ d = 2 ∨ d = 3 ∨ d = 4 ∨ d = 5 ∨ d = 6 ∨ d = 7) (w : World) : Calls Try.prog 22 #[.int .u8 d] w fun e w' => e = .returned (.agg (needsA d)) ∧ w.alloc (.cells (needsA d) 69) = w' := by
  rcases hd with rfl | rfl | rfl | rfl | rfl | rfl | rfl
  all_goals
    go_enter Try.func22, Try.ntmps22
    go_wp2
    exact bodyPost_ret (by simp [results, Try.f22, go_sem]; rfl) rfl ⟨rfl, rfl⟩
theorem t_of_other (d : Int) (h1 : d ≠ 1) (h2 : d ≠ 2) (h3 : d ≠ 3) (h4 : d ≠ 4) (h5 : d ≠ 5) (h6 : d ≠ 6) (w : World) : Calls Try.prog 22 #[.int .u8 d] w fun e w' => e = .returned (.agg #[.bool false, .bool false, .bool false, .bool false, .bool false]) ∧ w.alloc (.cells #[.bool false, .bool false, .bool false, .bool false, .bool false] 69) = w' := by
  have b1 : (d == 1) = false := by simpa using h1
  have b2 : (d == 2) = false := by simpa using h2
  have b3 : (d == 3) = false := by simpa using h3
  have b4 : (d == 4) = false := by simpa using h4
  have b5 : (d == 5) = false := by simpa using h5
  have b6 : (d == 6) = false := by simpa using h6
  clear h1 h2 h3 h4 h5 h6
  go_enter Try.func22, Try.ntmps22
  go_wp2
  exact bodyPost_ret (v := .agg #[.bool false, .bool false, .bool false, .bool false, .bool false]) (by simp [results, Try.f22, go_sem]) rfl ⟨rfl, rfl⟩

def inoB (v : Int) : Bool := decide (1 ≤ v) && decide (v ≤ 256)
set_option maxHeartbeats 2000000 in
theorem t_ino (v : Int) (b : Bool) (hb : inoB v = b) (w : World) : Calls Try.prog 23 #[.int .u32 v] w fun e w' => e = .returned (.bool b) ∧ w = w' := by
  have HB := Lib.hid hb
  clear hb
  by_cases h1 : 1 ≤ v
  · go_enter Try.func23, Try.ntmps23
    go_wp2
    go_ret
    exact ⟨ret_bool (by rw [← HB.out]; unfold inoB; simp [h1]), rfl⟩
  · go_enter Try.func23, Try.ntmps23
    go_wp2
    go_ret
    exact ⟨ret_bool (by rw [← HB.out]; unfold inoB; simp; omega), rfl⟩

/-- May a record be? -/
def mayB (r : R) : Bool :=
  decide (1 ≤ r.act) && decide (r.act ≤ 7) && inoB r.ino
  && (if r.act = 1 ∨ r.act = 2 ∨ r.act = 3 ∨ r.act = 4 then inoB r.dir && nameB r.name else r.dir == 0 && r.name.toList.isEmpty)
  && (if r.act = 1 ∨ r.act = 3 ∨ r.act = 4 then r.kind == 1 || r.kind == 2 else r.kind == 0)
  && (if r.act = 4 then inoB r.dir2 && nameB r.name2 && decide (r.old ≤ 256) else r.dir2 == 0 && r.name2.toList.isEmpty && r.old == 0)
  && (if r.act = 5 ∨ r.act = 6 then decide (r.size ≤ 2304) else r.size == 0)
  && (if r.act = 6 then decide (0 ≤ r.page) && decide (r.page < 36) && r.data.size == 64 else r.page == 0 && r.data.toList.isEmpty)
end Go.Proofs.Ytnnidgjfjgkdpaa
