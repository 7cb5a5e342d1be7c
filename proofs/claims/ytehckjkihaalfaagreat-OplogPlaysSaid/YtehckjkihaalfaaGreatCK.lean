/- The chapter's example of closures, walked. -/
import Derived.Test.YtehckjkihaalfaaGreatCJ
namespace Go.Proofs.YtehckjkihaalfaaGreat
open Go.RowKit Go.Maps

def T1 : R := ⟨0, 1, 1, ⟨#[97]⟩, 2, 2, 0, ⟨#[]⟩, 0, 0, 0, ⟨#[]⟩⟩
def T2 : R := ⟨0, 1, 1, ⟨#[98]⟩, 3, 1, 0, ⟨#[]⟩, 0, 0, 0, ⟨#[]⟩⟩
def T3 : R := ⟨0, 1, 2, ⟨#[99]⟩, 4, 1, 0, ⟨#[]⟩, 0, 0, 0, ⟨#[]⟩⟩
def threeL : List R := [T1, T2, T3]
theorem ok_of (r : R) (h : 0 ≤ r.stamp ∧ r.stamp ≤ 18446744073709551615 ∧ 0 ≤ r.act ∧ r.act ≤ 255 ∧ 0 ≤ r.dir ∧ r.dir ≤ 4294967295 ∧ 0 ≤ r.ino ∧ r.ino ≤ 4294967295 ∧ 0 ≤ r.kind ∧ r.kind ≤ 255 ∧ 0 ≤ r.dir2 ∧ r.dir2 ≤ 4294967295 ∧ 0 ≤ r.old ∧ r.old ≤ 4294967295 ∧ 0 ≤ r.size ∧ r.size ≤ 4294967295) (h1 : r.name.size ≤ 100) (h2 : r.name2.size ≤ 100) (h3 : r.data.size ≤ 100) : RecOk r := by
  obtain ⟨a, b, c, d, e, f, g, h, i, j, k, l, m, n, o, p⟩ := h
  exact ⟨⟨⟨a, b⟩, ⟨c, d⟩, ⟨e, f⟩, ⟨g, h⟩, ⟨i, j⟩, ⟨k, l⟩, ⟨m, n⟩, ⟨o, p⟩⟩, Nat.le_trans h1 (by decide), Nat.le_trans h2 (by decide), Nat.le_trans h3 (by decide)⟩
theorem three_ok : ∀ r ∈ threeL, RecOk r := by
  intro r hr
  unfold threeL at hr
  simp only [List.mem_cons, List.not_mem_nil, or_false] at hr
  rcases hr with rfl | rfl | rfl
  · exact ok_of _ (by decide) (by decide) (by decide) (by decide)
  · exact ok_of _ (by decide) (by decide) (by decide) (by decide)
  · exact ok_of _ (by decide) (by decide) (by decide) (by decide)
theorem three_places : placesL threeL [4] = [0, 2] := by decide +kernel
theorem three_of : (pickL threeL [4] true).length = 2 := by decide +kernel
theorem three_rest : (pickL threeL [4] false).length = 1 := by decide +kernel
theorem three_on : onZ threeL 2 = [0] := by decide +kernel
theorem three_closed0 : closedB threeL [0] = true := by decide +kernel
theorem three_closed2 : closedB threeL [2] = false := by decide +kernel
set_option maxRecDepth 100000 in
set_option maxHeartbeats 4000000 in
theorem t_three (w : World) : Calls Tryz.prog 87 #[] w fun e w' => ∃ g, e = .returned (.slice (some ⟨g, 0, none⟩) 3 3) ∧ RecsAt w' (some ⟨g, 0, none⟩) threeL ∧ Below w.heap.size w w' := by
  go_enter Tryz.func87, Tryz.ntmps87
  go_wp2
  have hcells : ∀ (k : Nat) (r : R), threeL[k]? = some r → ∀ (i : Nat) (v : Value), (cellsR r)[i]? = some v → (w.alloc (.cells (flatR threeL).toArray 34)).cell? ⟨w.heap.size, 0 + k * 12 + i, none⟩ = some v := fun k r hk i v hv => by
    rw [Nat.zero_add, World.cell?_alloc_new]
    simpa using flatR_get hk hv
  have HC := Lib.hid hcells
  clear hcells
  go_ret
  exact ⟨_, rfl, ⟨fun _ => ⟨_, 0, rfl, by simp, HC.out⟩, three_ok⟩, below_a1' w _⟩
theorem IntsAt.below {w w' : World} {A : Option Addr} {l : List Int} (h : IntsAt w A l) (hb : Below w.heap.size w w') : IntsAt w' A l := SliceAt.below h hb
theorem ints_of_row {w : World} {base n c : Nat} {A : Option Addr} {e : TypeId} {l : List Nat} {m : List Int} (h : w.ownsRow base e 1 (.slice A n c) n (natV l)) (hm : (l.map fun (n : Nat) => (n : Int)) = m) : IntsAt w A m := by
  subst hm
  have := slice_of_row h
  rw [natV_map] at this
  exact this
theorem inos_one (w : World) (x : Int) (T : TypeId) : InosAt (w.alloc (.cells #[.int .u32 x] T)) (some ⟨w.heap.size, 0, none⟩) [x] := fun _ => ⟨_, 0, rfl, by simp, fun k y hk => by
  cases k with
  | zero =>
    simp at hk
    subst hk
    simp [World.cell?_alloc_new]
  | succ k => simp at hk⟩
theorem ints_one (w : World) (x : Int) (T : TypeId) : IntsAt (w.alloc (.cells #[.int .i64 x] T)) (some ⟨w.heap.size, 0, none⟩) [x] := SliceAt.built w [.int .i64 x] T
theorem ints_two (w : World) (x y : Int) (T : TypeId) : IntsAt (w.alloc (.cells #[.int .i64 x, .int .i64 y] T)) (some ⟨w.heap.size, 0, none⟩) [x, y] := SliceAt.built w [.int .i64 x, .int .i64 y] T
theorem i64_0 : I64 0 := ⟨by decide, by decide⟩
theorem i64_2 : I64 2 := ⟨by decide, by decide⟩
theorem i64_one (x : Int) (h : I64 x) : ∀ y ∈ [x], I64 y := fun y hy => by
  simp at hy
  subst hy
  exact h
set_option maxRecDepth 100000 in
set_option maxHeartbeats 4000000 in
theorem t_alive25 (w : World) : Calls Tryz.prog 37 #[] w fun e w' => e = .returned (.bool true) ∧ Below w.heap.size w w' := by
  go_enter Tryz.func37, Tryz.ntmps37
  go_wp2_with (first
    | (go_at_call 87; (with_reducible refine (t_three _).mono ?_); rintro e w1 ⟨g, rfl, h1, h2⟩; have H1 := Lib.hid (And.intro h1 h2); clear h1 h2)
    | (go_at_call 39; (with_reducible refine (t_places (some ⟨g, 0, none⟩) 3 3 threeL (some ⟨w1.heap.size, 0, none⟩) 1 1 [4] _ (H1.out.1.below (below_a1' w1 _)) rfl (by decide) (by decide) (inos_one w1 4 _) rfl (by decide)).mono ?_); rintro e w2 ⟨v2, rfl, h1, h2⟩; rw [three_places] at h1; have h1 : w2.ownsRow _ 3 1 v2 2 (natV [0, 2]) := h1; obtain ⟨A2, c2, rfl⟩ := row_slice h1; have HI2 := Lib.hid (ints_of_row h1 (m := [0, 2]) rfl); have H2 := Lib.hid (ptrans (below_a1' w1 _) h2); clear h1 h2)
    | (go_at_call 38; (with_reducible refine (t_sameInts A2 (some ⟨w2.heap.size, 0, none⟩) 2 2 c2 2 [0, 2] [0, 2] true (by decide) _ (HI2.out.below (below_a1' w2 _)) rfl (by decide) (ints_two w2 0 2 _) rfl (by decide)).mono ?_); rintro e w3 ⟨rfl, h2⟩; have H3 := Lib.hid (ptrans H2.out (ptrans (below_a1' w2 _) h2)); clear h2)
    | (go_at_call 41; (with_reducible refine (t_of (some ⟨g, 0, none⟩) 3 3 threeL (some ⟨w3.heap.size, 0, none⟩) 1 1 [4] _ (H1.out.1.below (ptrans H3.out (below_a1' w3 _))) rfl (by decide) (by decide) (inos_one w3 4 _) rfl (by decide)).mono ?_); rintro e w4 ⟨v4, rfl, h1, h2⟩; rw [three_of] at h1; obtain ⟨A4, c4, rfl⟩ := row_slice h1; have H4 := Lib.hid (ptrans H3.out (ptrans (below_a1' w3 _) h2)); clear h1 h2)
    | (go_at_call 43; (with_reducible refine (t_rest (some ⟨g, 0, none⟩) 3 3 threeL (some ⟨w4.heap.size, 0, none⟩) 1 1 [4] _ (H1.out.1.below (ptrans H4.out (below_a1' w4 _))) rfl (by decide) (by decide) (inos_one w4 4 _) rfl (by decide)).mono ?_); rintro e w5 ⟨v5, rfl, h1, h2⟩; rw [three_rest] at h1; obtain ⟨A5, c5, rfl⟩ := row_slice h1; have H5 := Lib.hid (ptrans H4.out (ptrans (below_a1' w4 _) h2)); clear h1 h2)
    | (go_at_call 46; (with_reducible refine (t_closed (some ⟨g, 0, none⟩) 3 3 threeL (some ⟨w5.heap.size, 0, none⟩) 1 1 [0] _ (H1.out.1.below (ptrans H5.out (below_a1' w5 _))) rfl (by decide) (by decide) (ints_one w5 0 _) rfl (by decide) (i64_one 0 i64_0)).mono ?_); rintro e w6 ⟨rfl, h2⟩; rw [three_closed0]; have H6 := Lib.hid (ptrans H5.out (ptrans (below_a1' w5 _) h2)); clear h2)
    | (go_at_call 46; (with_reducible refine (t_closed (some ⟨g, 0, none⟩) 3 3 threeL (some ⟨w6.heap.size, 0, none⟩) 1 1 [2] _ (H1.out.1.below (ptrans H6.out (below_a1' w6 _))) rfl (by decide) (by decide) (ints_one w6 2 _) rfl (by decide) (i64_one 2 i64_2)).mono ?_); rintro e w7 ⟨rfl, h2⟩; rw [three_closed2]; have H7 := Lib.hid (ptrans H6.out (ptrans (below_a1' w6 _) h2)); clear h2)
    | (go_at_call 44; (with_reducible refine (t_onZ (some ⟨g, 0, none⟩) 3 3 2 i64_2 threeL _ (H1.out.1.below H7.out) rfl (by decide) (by decide)).mono ?_); rintro e w8 ⟨v8, rfl, h1, h2⟩; rw [three_on] at h1; have h1 : w8.ownsRow _ 3 1 v8 1 (natV [0]) := h1; obtain ⟨A8, c8, rfl⟩ := row_slice h1; have HI8 := Lib.hid (ints_of_row h1 (m := [0]) rfl); have H8 := Lib.hid (ptrans H7.out h2); clear h1 h2)
    | (go_at_call 38; (with_reducible refine (t_sameInts A8 (some ⟨w8.heap.size, 0, none⟩) 1 1 c8 1 [0] [0] true (by decide) _ (HI8.out.below (below_a1' w8 _)) rfl (by decide) (ints_one w8 0 _) rfl (by decide)).mono ?_); rintro e w9 ⟨rfl, h2⟩; have H9 := Lib.hid (ptrans H8.out (ptrans (below_a1' w8 _) h2)); clear h2))
  go_ret
  exact ⟨rfl, ptrans H1.out.2 H9.out⟩
end Go.Proofs.YtehckjkihaalfaaGreat
