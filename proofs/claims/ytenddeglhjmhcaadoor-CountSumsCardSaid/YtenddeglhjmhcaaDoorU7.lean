/- count.Crowd. -/
import Derived.Test.YtenddeglhjmhcaaDoorU5
namespace Go.Proofs.YtenddeglhjmhcaaDoor
open Go.RowKit Go.Shelf

attribute [local go_sem] Oper.semAt_some
def crowdStep (p : Int × Int) (e : CEv) : Int × Int :=
  if e.kind = 1 then (wrap64 (p.1 + 1), max p.2 (wrap64 (p.1 + 1))) else if e.kind = 3 then (wrap64 (p.1 - 1), max p.2 (wrap64 (p.1 - 1))) else (p.1, max p.2 p.1)
def crowdR (es : List CEv) : Int × Int := es.foldl crowdStep (0, 0)
set_option maxRecDepth 100000 in
set_option maxHeartbeats 4000000 in
theorem crowd_in (bb n c : Nat) (es : List CEv) (w : World) (hn : es.length = n) (hn2 : n ≤ 1000) (hbb : bb < w.heap.size) (h : CEvs w bb es) :
    CallsIn Fence.wide 7 Tryd.prog 13 #[.slice (some ⟨bb, 0, none⟩) n c] w fun e W' => e = .returned (.int .i64 (crowdR es).2) ∧ Below w.heap.size w W' := by
  refine callsIn_of_wp_marks Tryd.func13 rfl trivial ?_ rfl
  simp only [Tryd.ntmps13, List.size_toArray, List.length_cons, List.length_nil, Nat.reduceAdd, Nat.reduceSub, Array.replicate_succ, Array.replicate_zero, List.push_toArray, List.append_toArray, List.nil_append, List.cons_append]
  gi_wp2_with (refine ⟨trivial, ?_⟩; gi_at_call 20; refine (callsIn_wide.2 (t_rows _ _ _ _)).mono ?_; rintro e w' ⟨rfl, rfl⟩)
  have bm0 := ((Boxed.new w 3 (.int .i64 0)).alloc (.cells #[.int .i64 0] 3)).alloc (.cells #[.slice (some ⟨bb, 0, none⟩) n c] 44)
  have bn0 := (Boxed.new (w.alloc (.cells #[.int .i64 0] 3)) 3 (.int .i64 0)).alloc (.cells #[.slice (some ⟨bb, 0, none⟩) n c] 44)
  have bt0 := Boxed.new ((w.alloc (.cells #[.int .i64 0] 3)).alloc (.cells #[.int .i64 0] 3)) 44 (.slice (some ⟨bb, 0, none⟩) n c)
  have hB0 := (((Below.refl _ w).alloc (Nat.le_refl _) (.cells #[.int .i64 0] 3)).alloc (by simp) (.cells #[.int .i64 0] 3)).alloc (by simp; omega) (.cells #[.slice (some ⟨bb, 0, none⟩) n c] 44)
  have hs0 : (((w.alloc (.cells #[.int .i64 0] 3)).alloc (.cells #[.int .i64 0] 3)).alloc (.cells #[.slice (some ⟨bb, 0, none⟩) n c] 44)).heap.size = w.heap.size + 3 := by simp
  simp only [World.size_alloc] at bt0 bn0 bm0
  obtain ⟨W0, hW0⟩ : ∃ W0, ((w.alloc (.cells #[.int .i64 0] 3)).alloc (.cells #[.int .i64 0] 3)).alloc (.cells #[.slice (some ⟨bb, 0, none⟩) n c] 44) = W0 := ⟨_, rfl⟩
  rw [hW0] at bm0 bn0 hB0 bt0 hs0 ⊢
  clear hW0
  have h0 : CEvs W0 bb es := fun k e hk j v hv => (World.cell?_of_block (a := ⟨bb, _, none⟩) (hB0.block bb hbb)).trans (h k e hk j v hv)
  refine wpIn_rangeFunc_ownH rfl (by omega) (gf := 28) (lb := #[.pointer (some ⟨w.heap.size + 1 + 1, 0, none⟩)]) rfl trivial (enters_of Tryd.func28 (by kernel_rfl) rfl)
    (rows_stops (w.heap.size + 1 + 1) bb n c w.heap.size es W0 hn hn2 hbb (by omega) bt0 h0) KeepAt.trans (KeepAt.put (by omega) (by omega)) (Below.refl _ _) (fun _ => rfl)
    (fun pre W => Boxed W w.heap.size 3 (.int .i64 (crowdR (pre.map (·.2))).2) ∧ Boxed W (w.heap.size + 1) 3 (.int .i64 (crowdR (pre.map (·.2))).1) ∧ Boxed W (w.heap.size + 1 + 1) 44 (.slice (some ⟨bb, 0, none⟩) n c) ∧ Below w.heap.size w W)
    (fun _ _ _ => False)
    (OwnFrom.and (Own.from (boxed_own _ _ _) _) (OwnFrom.and (Own.from (boxed_own _ _ _) _) (OwnFrom.and (Own.from (boxed_own _ _ _) _) (ownFrom_below (Nat.le_refl _) (by omega)))))
    (fun d => ownFrom_pure _ _)
    ⟨bm0, bn0, bt0, hB0⟩
    (fun y a' W => ∃ Bx, w.heap.size + 2 < Bx ∧ EvBox W Bx y.2 ∧ a' = { tmps := #[.slice (some ⟨bb, 0, none⟩) n c, undef, .pointer (some ⟨w.heap.size, 0, none⟩), .pointer (some ⟨w.heap.size + 1, 0, none⟩), undef, .pointer (some ⟨Bx, 0, none⟩), .slice (some ⟨bb, 0, none⟩) n c, .func (.func 28) #[] #[.pointer (some ⟨w.heap.size + 1 + 1, 0, none⟩)], .int .i64 y.1, .agg y.2.cells.toArray, undef, undef, undef, undef, undef, undef, undef, undef, undef, undef, undef, undef, undef, undef], defers := [] })
    (fun y a' _ X Y row hs hg hr => by obtain ⟨Bx, h1, h2, h3⟩ := hs; exact ⟨Bx, h1, cel_own Bx 43 (fun _ : Unit => y.2.cells.toArray) () X Y row h2 hg (fun r e => (hr r e).2), h3⟩)
    ?assign ?body ?done ?stop
  case stop => exact fun _ _ _ _ _ _ hf => hf.elim
  case assign =>
    rintro l pre y W K ⟨hm, hn', hb, hB⟩ hK
    have hsW := hB.size
    have hlb := hb.lt
    have HZ : Hid ((W.alloc (.cells #[.int .i64 0, .int .u8 0, .int .u8 0, .string ⟨#[]⟩, .string ⟨#[]⟩, .int .i64 0, .int .i64 0, .int .u32 0, .string ⟨#[]⟩, .int .i64 0, .int .i64 0, .int .u32 0, .int .u32 0, .int .u8 0, .int .i64 0, .int .u32 0, .slice none 0 0, .string ⟨#[]⟩] 43)).heap[W.heap.size]? = some (.cells (CEv.cells ⟨0, 0, 0, 0, by decide, by decide⟩).toArray 43 (0, 0))) := heap_alloc_new _ _
    gi_wp2_with (refine wpListIn_store_cel rfl 43 _ _ rfl W.heap.size 18 (CEv.cells ⟨0, 0, 0, 0, by decide, by decide⟩) y.2.cells rfl rfl infoEvC (cev_one y.2) rfl rfl HZ.out ?_; intro w4 h4 hg4)
    have hb4 := below_store2 hg4
    exact hK _ _ (KeepsFrom.of_below hb4) (KeepAt.of_below hb4 hsW hb.lt) ⟨(hb4.block _ hm.lt).trans hm, (hb4.block _ hn'.lt).trans hn', (hb4.block _ hb.lt).trans hb, hB.trans (hb4.mono hsW)⟩ ⟨W.heap.size, by omega, h4, rfl⟩
  case body =>
    rintro l pre y a' W hl _ ⟨hm, hn', hb, hB⟩ ⟨Bx, hBx, hX, rfl⟩ hlt
    have HR := Lib.hid (show crowdR ((pre ++ [y]).map (·.2)) = crowdStep (crowdR (pre.map (·.2))) y.2 by simp [crowdR, List.foldl_append])
    obtain ⟨p, hp⟩ : ∃ p, crowdR (pre.map (·.2)) = p := ⟨_, rfl⟩
    obtain ⟨x, hx⟩ : ∃ x, y.2 = x := ⟨_, rfl⟩
    rw [hp] at hm hn' HR
    rw [hx] at hX HR ⊢
    clear hp hx
    obtain ⟨pn, pm⟩ := p
    simp only at hm hn'
    have ck := hX.kind
    have cm := hm.cell
    have cn := hn'.cell
    have fm := hm.frozen
    have fn := hn'.frozen
    have hlb := hb.lt
    have hsW := hB.size
    have HFin : Hid (∀ W1 : World, KeepsOthers W W1 → KeepAt w.heap.size (w.heap.size + 1 + 1) W W1 → Boxed W1 w.heap.size 3 (.int .i64 pm) → Below w.heap.size w W1 → ∀ qn qm : Int, Boxed W1 (w.heap.size + 1) 3 (.int .i64 qn) → crowdStep (pn, pm) x = (qn, qm) →
        KeepsFrom W0.heap.size W (W1.setCell ⟨w.heap.size, 0, none⟩ (.int .i64 qm)) ∧ KeepAt w.heap.size (w.heap.size + 1 + 1) W (W1.setCell ⟨w.heap.size, 0, none⟩ (.int .i64 qm)) ∧
        Boxed (W1.setCell ⟨w.heap.size, 0, none⟩ (.int .i64 qm)) w.heap.size 3 (.int .i64 (crowdR ((pre ++ [y]).map (·.2))).2) ∧ Boxed (W1.setCell ⟨w.heap.size, 0, none⟩ (.int .i64 qm)) (w.heap.size + 1) 3 (.int .i64 (crowdR ((pre ++ [y]).map (·.2))).1) ∧
        Boxed (W1.setCell ⟨w.heap.size, 0, none⟩ (.int .i64 qm)) (w.heap.size + 1 + 1) 44 (.slice (some ⟨bb, 0, none⟩) n c) ∧ Below w.heap.size w (W1.setCell ⟨w.heap.size, 0, none⟩ (.int .i64 qm))) := Lib.hid fun W1 ko ka bm bw qn qm bn he => by
      have hb1 : Boxed W1 (w.heap.size + 1 + 1) 44 (.slice (some ⟨bb, 0, none⟩) n c) := (ka.box).trans hb
      have hl1 := hb1.lt
      refine ⟨(ko.trans (KeepsOthers.setCell _ _ _)).from _, ka.trans (KeepAt.of_grown (grownBy_setCell' W1 w.heap.size _) (Nat.le_refl _) (by omega) (by omega) (by omega)), ?_, ?_, hb1.other (by omega) _, bw.setCell (p := ⟨w.heap.size, 0, none⟩) (Nat.le_refl _) _⟩
      · rw [HR.out, he]; exact bm.set _
      · rw [HR.out, he]; exact bn.other (by omega) _
    have HM : Hid (∀ v : Value, KeepsOthers W (W.setCell ⟨w.heap.size + 1, 0, none⟩ v) ∧ KeepAt w.heap.size (w.heap.size + 1 + 1) W (W.setCell ⟨w.heap.size + 1, 0, none⟩ v) ∧ Boxed (W.setCell ⟨w.heap.size + 1, 0, none⟩ v) w.heap.size 3 (.int .i64 pm) ∧ Below w.heap.size w (W.setCell ⟨w.heap.size + 1, 0, none⟩ v) ∧ Boxed (W.setCell ⟨w.heap.size + 1, 0, none⟩ v) (w.heap.size + 1) 3 v) := Lib.hid fun v =>
      ⟨KeepsOthers.setCell _ _ _, KeepAt.of_grown (grownBy_setCell' W (w.heap.size + 1) _) (by omega) (by omega) (by omega) (by omega), hm.other (by omega) _, hB.setCell (p := ⟨w.heap.size + 1, 0, none⟩) (by simp) _, hn'.set _⟩
    have HP : Hid (Boxed W w.heap.size 3 (.int .i64 pm) ∧ Below w.heap.size w W ∧ Boxed W (w.heap.size + 1) 3 (.int .i64 pn)) := ⟨hm, hB, hn'⟩
    clear hb hm hB hn' hX HR
    clear hs0
    by_cases k1 : x.kind = 1
    · have k1' : ((x.kind : Int) == 1) = true := by rw [k1]; rfl
      have HS := Lib.hid (show crowdStep (pn, pm) x = (wrap64 (pn + 1), max pm (wrap64 (pn + 1))) by unfold crowdStep; rw [if_pos k1])
      clear k1
      gi_wp2
      obtain ⟨g1, g2, g3, g4, g5⟩ := HM.out (.int .i64 (wrap64 (pn + 1)))
      exact HFin.out _ g1 g2 g3 g4 _ _ g5 HS.out
    · have k1' : ((x.kind : Int) == 1) = false := by simp; omega
      by_cases k3 : x.kind = 3
      · have k3' : ((x.kind : Int) == 3) = true := by rw [k3]; rfl
        have HS := Lib.hid (show crowdStep (pn, pm) x = (wrap64 (pn - 1), max pm (wrap64 (pn - 1))) by unfold crowdStep; rw [if_neg k1, if_pos k3])
        clear k1 k3
        gi_wp2
        obtain ⟨g1, g2, g3, g4, g5⟩ := HM.out (.int .i64 (wrap64 (pn - 1)))
        exact HFin.out _ g1 g2 g3 g4 _ _ g5 HS.out
      · have k3' : ((x.kind : Int) == 3) = false := by simp; omega
        have HS := Lib.hid (show crowdStep (pn, pm) x = (pn, max pm pn) by unfold crowdStep; rw [if_neg k1, if_neg k3])
        clear k1 k3
        gi_wp2
        obtain ⟨g1, g2, g3⟩ := HP.out
        exact HFin.out _ (KeepsOthers.refl _) (KeepAt.refl _ _ _) g1 g2 _ _ g3 HS.out
  case done =>
    rintro D ys W hD rfl ⟨hm, hn', hb, hB⟩ hK
    rw [placed_snd] at hm
    have cm := hm.cell
    have fm := hm.frozen
    gi_wp2
    have hne : D ≠ w.heap.size := by omega
    have hD4 : (W.setCell ⟨w.heap.size, 0, none⟩ (.int .i64 (crowdR es).2)).heap[D]? = some (.deferred (some [])) := (Below.heap_setCell _ _ _ D (by simpa using hne)).trans hK
    have hc5 := ((hm.set (.int .i64 (crowdR es).2)).kept (grownBy_putObj' _ D (.deferred none)) (by simp; omega)).cell
    refine ⟨by simp, .inl ⟨_, _, rfl, run_takeDeferred hD4, ?_⟩⟩
    exact ⟨_, by simp [results, Tryd.f13, go_sem, hc5], rfl, (hB.setCell (p := ⟨w.heap.size, 0, none⟩) (Nat.le_refl _) _).trans (belowK_b (w := w) (Nat.le_refl _) _ D _ _ (by omega) hD4 rfl rfl)⟩
end Go.Proofs.YtenddeglhjmhcaaDoor
