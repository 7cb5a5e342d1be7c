/- List and Opens. -/
import Derived.Test.YtggpjddomicekaaB
namespace Go.Proofs.Ytggpjddomicekaa
open Go.RowKit

attribute [local go_sem] Oper.semAt_some

/-- The cells of a list of open descriptors. -/
def cellsOf (l : List (Nat × Int)) : List Value := l.flatMap fun x => [.int .i64 x.1, .int .u32 x.2]
theorem cellsOf_snoc (l : List (Nat × Int)) (x : Nat × Int) : cellsOf (l ++ [x]) = cellsOf l ++ [.int .i64 x.1, .int .u32 x.2] := by simp [cellsOf]

theorem info39 : (Try.prog.info? 39).map (fun i => (i.zero, i.size, i.bytes)) = some (some (.agg #[.int .i64 0, .int .u32 0]), 2, 16) := by kernel_rfl

/-- Block B is a variable of two cells: an open descriptor. -/
def Opened (W : World) (B : Nat) (x : Nat × Int) : Prop := W.heap[B]? = some (.cells #[.int .i64 x.1, .int .u32 x.2] 39 (0, 0))

theorem Opened.kept {W W' : World} {row : Option Nat} {B : Nat} {x : Nat × Int} (h : Opened W B x) (hg : W.grownBy W' row) (hne : some B ≠ row) : Opened W' B x := (hg.block B (Array.getElem?_eq_some_iff.1 h).1 hne).trans h
theorem Opened.not_row {W : World} {B : Nat} {x : Nat × Int} {row : Option Nat} (h : Opened W B x) (hr : ∀ r, row = some r → ∃ o : Obj, W.heap[r]? = some o ∧ o.isCells = false) : some B ≠ row := fun e => by
  obtain ⟨o, ho, hc⟩ := hr B e.symm
  rw [show W.heap[B]? = _ from h] at ho; cases ho; cases hc
theorem Opened.cell0 {W : World} {B : Nat} {x : Nat × Int} (h : Opened W B x) : W.cell? ⟨B, 0, none⟩ = some (.int .i64 x.1) := by simp [World.cell?, show W.heap[B]? = _ from h]
theorem Opened.cell1 {W : World} {B : Nat} {x : Nat × Int} (h : Opened W B x) : W.cell? ⟨B, 1, none⟩ = some (.int .u32 x.2) := by simp [World.cell?, show W.heap[B]? = _ from h]

set_option maxRecDepth 100000 in
set_option maxHeartbeats 2000000 in
theorem list_in (b : Nat) (c n : Int) (T : Nat → Int) (w : World) (hT : Tab w b T n) (hn : n ≤ 8) :
    CallsIn Fence.wide 7 Try.prog 7 #[.pointer (some ⟨b, 0, none⟩), .int .i64 c] w fun e W' => ∃ v, e = .returned v ∧ W'.ownsRow w.heap.size 39 2 v (rowOf T n c).length (cellsOf (rowOf T n c)) ∧ Below w.heap.size w W' := by
  obtain ⟨i0, hi, hz0, hz1, hz2⟩ := info_parts info39
  refine callsIn_of_wp_marks Try.func7 rfl trivial ?_ rfl
  simp only [Try.ntmps7, List.size_toArray, List.length_cons, List.length_nil, Nat.reduceAdd, Nat.reduceSub, Array.replicate_succ, Array.replicate_zero, List.push_toArray, List.append_toArray, List.nil_append, List.cons_append]
  gi_wp2_with (refine ⟨trivial, ?_⟩; gi_at_call 12; refine (callsIn_wide.2 (callsIn_wide.1 (opener b c _))).mono ?_; rintro e w' ⟨rfl, rfl⟩)
  have bO := ((Boxed.new w 34 (.slice none 0 0)).alloc (.cells #[.pointer (some ⟨b, 0, none⟩)] 24)).alloc (.cells #[.int .i64 c] 3)
  have bT := (Boxed.new (w.alloc (.cells #[.slice none 0 0] 34)) 24 (.pointer (some ⟨b, 0, none⟩))).alloc (.cells #[.int .i64 c] 3)
  have bC := Boxed.new ((w.alloc (.cells #[.slice none 0 0] 34)).alloc (.cells #[.pointer (some ⟨b, 0, none⟩)] 24)) 3 (.int .i64 c)
  simp only [World.size_alloc] at bT bC
  have hB0 : Below w.heap.size w (((w.alloc (.cells #[.slice none 0 0] 34)).alloc (.cells #[.pointer (some ⟨b, 0, none⟩)] 24)).alloc (.cells #[.int .i64 c] 3)) := (((Below.refl _ w).alloc (Nat.le_refl _) _).alloc (by simp) _).alloc (by simp; omega) _
  have hsz : (((w.alloc (.cells #[.slice none 0 0] 34)).alloc (.cells #[.pointer (some ⟨b, 0, none⟩)] 24)).alloc (.cells #[.int .i64 c] 3)).heap.size = w.heap.size + 3 := by simp
  obtain ⟨W0, hW0⟩ : ∃ W0, ((w.alloc (.cells #[.slice none 0 0] 34)).alloc (.cells #[.pointer (some ⟨b, 0, none⟩)] 24)).alloc (.cells #[.int .i64 c] 3) = W0 := ⟨_, rfl⟩
  rw [hW0] at bO bT bC hB0 hsz ⊢
  clear hW0
  refine wpIn_rangeFunc_ownH rfl (by omega) (gf := 13) (lb := #[.pointer (some ⟨w.heap.size + 1, 0, none⟩), .pointer (some ⟨w.heap.size + 1 + 1, 0, none⟩)]) rfl trivial (enters_of Try.func13 (by kernel_rfl) rfl)
    (iter_stops (w.heap.size + 1) (w.heap.size + 1 + 1) b c n T w.heap.size W0 hn hT.lt (by omega) (by omega) (by omega) bT.cell bC.cell (hT.below hB0 hT.lt)) belowK_t (belowK_b (by omega)) (Below.refl _ _) (fun _ => rfl)
    (fun pre W => (∃ v, Boxed W w.heap.size 34 v ∧ W.ownsRow w.heap.size 39 2 v pre.length (cellsOf pre) ∧ True) ∧ Below w.heap.size w W)
    (fun _ _ _ => False)
    (OwnFrom.and (Own.from (holdsRow_own w.heap.size w.heap.size 34 39 2 (fun pre : List (Nat × Int) => pre.length) cellsOf (fun _ _ => True)) _) (ownFrom_below (Nat.le_refl _) (by omega)))
    (fun _ _ _ _ _ hs _ _ => hs)
    ⟨⟨_, bO, World.ownsRow_nil _ _ _ _, trivial⟩, hB0⟩
    (fun x a' W => ∃ Bx, w.heap.size < Bx ∧ Opened W Bx x ∧ a' = { tmps := #[.pointer (some ⟨b, 0, none⟩), .int .i64 c, undef, undef, .pointer (some ⟨w.heap.size, 0, none⟩), .pointer (some ⟨Bx, 0, none⟩), .pointer (some ⟨b, 0, none⟩), .int .i64 c, .func (.func 13) #[] #[.pointer (some ⟨w.heap.size + 1, 0, none⟩), .pointer (some ⟨w.heap.size + 1 + 1, 0, none⟩)], .agg #[.int .i64 x.1, .int .u32 x.2], undef, undef, undef, undef, undef], defers := [] })
    (fun x a' _ X Y row hs hg hr => by obtain ⟨Bx, h1, h2, h3⟩ := hs; exact ⟨Bx, h1, h2.kept hg (h2.not_row (fun r e => (hr r e).2)), h3⟩)
    ?assign ?body ?done ?stop
  case assign =>
    rintro l pre x W K ⟨⟨v, hv, hrow, _⟩, hB⟩ hK
    gi_wp2
    exact hK _ _ ((KeepsOthers.alloc _ _).from _) ((Below.refl _ W).alloc hB.size _) ⟨⟨v, hv.alloc _, hrow.alloc _, trivial⟩, hB.alloc hB.size _⟩ ⟨W.heap.size, hv.lt, heap_alloc_new W _, rfl⟩
  case body =>
    rintro l pre x a' W hl _ ⟨⟨v, hv, hrow, _⟩, hB⟩ ⟨Bx, hBx, hX, rfl⟩ hlt
    have hc := hv.cell
    have hx0 := hX.cell0
    have hx1 := hX.cell1
    have hszW := hB.size
    gi_wp2_with (gi_at_builtin; refine wpListIn_append_own _ rfl _ _ 34 rfl w.heap.size 39 i0 (.agg #[.int .i64 0, .int .u32 0]) 2 16 Try.underlying34 hi hz0 hz1 hz2 rfl (by decide) _ _ _ rfl (hrow.alloc _) ⟨W.heap.size, 0, none⟩ 1 1 [.int .i64 x.1, .int .u32 x.2] rfl rfl (cell_two_new _ _ _ _) (by simp [Value.oneCell']) (by unfold maxLen; omega) (by omega) (by simp; omega) ?_; intro v' w1 hown' hgrow _; obtain ⟨g', cap', rfl⟩ := ownsRow_succ hown'; obtain ⟨hv1, hv2, hr2, hk2, hb2⟩ := hv.appended (by decide) hrow hB.size (Nat.le_refl _) hown' hgrow; have hc1 := hv1.cell; have hf1 := hv1.frozen)
    exact ⟨hk2.from _, hb2, ⟨_, hv2, by rw [cellsOf_snoc]; simpa using hr2, trivial⟩, hB.trans hb2⟩
  case done =>
    rintro D ys W hD rfl ⟨⟨v, hv, hrow, _⟩, hB⟩ hK
    have hc := hv.cell
    have hf := hv.frozen
    obtain ⟨va, vn, vc, rfl⟩ : ∃ va vn vc, v = .slice va vn vc := by
      rcases hrow.2 with ⟨h, _⟩ | ⟨g, cap, _, h, _⟩
      · exact ⟨_, _, _, h⟩
      · exact ⟨_, _, _, h⟩
    gi_wp2
    have hv2 := hv.set (.slice va vn vc)
    have hK' : (W.setCell ⟨w.heap.size, 0, none⟩ (.slice va vn vc)).heap[D]? = some (.deferred (some [])) := (Below.heap_setCell _ _ _ D (by simp; omega)).trans hK
    have hrow2 := hrow.kept (grownBy_setCell' W w.heap.size (.slice va vn vc)) (.inr (hv.not_row (by decide) hrow).symm)
    have hc5 := (hv2.kept (grownBy_putObj' _ D (.deferred none)) (by simp; omega)).cell
    have hB2 := hB.setCell (p := ⟨w.heap.size, 0, none⟩) (Nat.le_refl _) (.slice va vn vc)
    refine ⟨by simp, .inl ⟨_, _, rfl, run_takeDeferred hK', ?_⟩⟩
    exact ⟨_, by simp [results, Try.f7, go_sem, hc5], _, rfl, ownsRow_putObj hrow2 _ hK' rfl, hB2.trans (belowK_b (w := w) (Nat.le_refl _) _ D _ _ (by omega) hK' rfl rfl)⟩
  case stop =>
    rintro D c pre W _ _ h _
    exact h.elim
end Go.Proofs.Ytggpjddomicekaa
