/- The document's Sum and Less. -/
import Derived.Test.YtenddeglhjmhcaaDoorUJ
import Derived.Test.YtenddeglhjmhcaaDoorUF
namespace Go.Proofs.YtenddeglhjmhcaaDoor
open Go.RowKit

theorem fA_one (x y : Int) : fA 1 x y = wrap64 (x + y) := by unfold fA wrap64; omega
theorem fA_neg (x y : Int) : fA (-1) x y = wrap64 (x - y) := by unfold fA wrap64; omega
theorem zip_one (a b : List Int) : List.zipWith (fA 1) a b = addT a b := by unfold addT; congr 1; funext x y; exact fA_one x y
theorem zip_neg (a b : List Int) : List.zipWith (fA (-1)) a b = subT a b := by unfold subT; congr 1; funext x y; exact fA_neg x y
set_option maxRecDepth 100000 in
set_option maxHeartbeats 8000000 in
theorem t_rless (a b : List Int) (ht : a.length = 22) (hy : b.length = 22) (w : World) :
    Calls Tryd.prog 8 #[talV a, talV b] w fun e w' => e = .returned (talV (subT a b)) ∧ Below w.heap.size w w' := by
  have HT := Lib.hid ht
  have HY := Lib.hid hy
  clear ht hy
  obtain ⟨h1, h2, h3, h4, h5⟩ := three_blocks (Below.refl _ (((w.alloc (.cells (a.map intV).toArray 26)).alloc (.cells (b.map intV).toArray 26)).alloc (.cells #[.int .i64 0, .int .i64 0, .int .i64 0, .int .i64 0, .int .i64 0, .int .i64 0, .int .i64 0, .int .i64 0, .int .i64 0, .int .i64 0, .int .i64 0, .int .i64 0, .int .i64 0, .int .i64 0, .int .i64 0, .int .i64 0, .int .i64 0, .int .i64 0, .int .i64 0, .int .i64 0, .int .i64 0, .int .i64 0] 26)))
  have HA0 : Hid (TalB (((w.alloc (.cells (a.map intV).toArray 26)).alloc (.cells (b.map intV).toArray 26)).alloc (.cells #[.int .i64 0, .int .i64 0, .int .i64 0, .int .i64 0, .int .i64 0, .int .i64 0, .int .i64 0, .int .i64 0, .int .i64 0, .int .i64 0, .int .i64 0, .int .i64 0, .int .i64 0, .int .i64 0, .int .i64 0, .int .i64 0, .int .i64 0, .int .i64 0, .int .i64 0, .int .i64 0, .int .i64 0, .int .i64 0] 26)) w.heap.size a) := h1
  have HB0 : Hid (TalB (((w.alloc (.cells (a.map intV).toArray 26)).alloc (.cells (b.map intV).toArray 26)).alloc (.cells #[.int .i64 0, .int .i64 0, .int .i64 0, .int .i64 0, .int .i64 0, .int .i64 0, .int .i64 0, .int .i64 0, .int .i64 0, .int .i64 0, .int .i64 0, .int .i64 0, .int .i64 0, .int .i64 0, .int .i64 0, .int .i64 0, .int .i64 0, .int .i64 0, .int .i64 0, .int .i64 0, .int .i64 0, .int .i64 0] 26)) (w.heap.size + 1) b) := h2
  have HZ0 : Hid (TalB (((w.alloc (.cells (a.map intV).toArray 26)).alloc (.cells (b.map intV).toArray 26)).alloc (.cells #[.int .i64 0, .int .i64 0, .int .i64 0, .int .i64 0, .int .i64 0, .int .i64 0, .int .i64 0, .int .i64 0, .int .i64 0, .int .i64 0, .int .i64 0, .int .i64 0, .int .i64 0, .int .i64 0, .int .i64 0, .int .i64 0, .int .i64 0, .int .i64 0, .int .i64 0, .int .i64 0, .int .i64 0, .int .i64 0] 26)) (w.heap.size + 1 + 1) zT) := by rw [Hid, TalB, zT_arr]; exact h3
  have HW0 := Lib.hid h4
  clear h1 h2 h3 h4 h5
  go_enter Tryd.func8, Tryd.ntmps8
  go_wp2_with (first
    | (refine wpList_load_tal rfl _ rfl w.heap.size a HT.out rfl HA0.out ?_)
    | (refine wpList_load_tal rfl _ rfl (w.heap.size + 1) b HY.out rfl HB0.out ?_)
    | (go_at_call 16; (with_reducible refine (t_add a b HT.out HY.out (-1) _).mono ?_); rintro e w1 ⟨rfl, hb⟩
       rw [zip_neg]
       have HZ1 := Lib.hid (HZ0.out.below hb)
       have HW1 := Lib.hid (ptrans HW0.out hb)
       clear hb)
    | (refine wpList_store_tal rfl _ _ rfl (w.heap.size + 1 + 1) zT (subT a b) rfl (subT_tal HT.out HY.out).1 rfl rfl HZ1.out ?_; intro w7 h7 hg7))
  exact ⟨rfl, _, results_tal (a := 4) rfl rfl h7 (subT_tal HT.out HY.out).1, rfl, below_grown HW1.out hg7 (by omega)⟩
end Go.Proofs.YtenddeglhjmhcaaDoor
