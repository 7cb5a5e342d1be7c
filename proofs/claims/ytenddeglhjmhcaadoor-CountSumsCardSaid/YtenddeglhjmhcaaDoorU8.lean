/- count.stay. -/
import Derived.Test.YtenddeglhjmhcaaDoorU5
import Derived.Test.YtenddeglhjmhcaaDoorAQ
namespace Go.Proofs.YtenddeglhjmhcaaDoor
open Go.RowKit Go.Shelf

attribute [local go_sem] Oper.semAt_some
/-- All but two blocks lie as they lay. -/
structure TwoOff (a b : Nat) (W X : World) : Prop where
  os : X.os = W.os
  tape : X.tape = W.tape
  output : X.output = W.output
  size : W.heap.size ≤ X.heap.size
  block : ∀ k, k < W.heap.size → k ≠ a → k ≠ b → X.heap[k]? = W.heap[k]?
theorem TwoOff.drewN {a b : Nat} (W : World) (q : Nat) : TwoOff a b W (W.drewN q) := ⟨rfl, rfl, rfl, Nat.le_refl _, fun _ _ _ _ => rfl⟩
theorem TwoOff.drew2 {a b : Nat} (W : World) (q r : Nat) : TwoOff a b W ((W.drewN q).drewN r) := ⟨rfl, rfl, rfl, Nat.le_refl _, fun _ _ _ _ => rfl⟩
theorem TwoOff.grown {a b r : Nat} {W X Y : World} (h : TwoOff a b W X) (hg : X.grownBy Y (some r)) (hr : r = a ∨ r = b) : TwoOff a b W Y :=
  ⟨hg.os.trans h.os, hg.tape.trans h.tape, hg.output.trans h.output, Nat.le_trans h.size hg.size, fun k hk h1 h2 => (hg.block k (Nat.lt_of_lt_of_le hk h.size) (fun e => by cases e; omega)).trans (h.block k hk h1 h2)⟩
def stayStep (c0 : Int) (to : Nat) (s : List Int × Bool) (y : Nat × CEv) : List Int × Bool :=
  if y.2.kind = 1 ∧ y.2.core = c0 then ([y.2.core, y.1, to, 0], true) else if y.2.kind = 2 ∧ y.2.core ≠ c0 then (s.1.set 3 (wrap64 (s.1.getD 3 0 + 1)), s.2) else s
def stayR (c0 : Int) (to : Nat) (l : List (Nat × CEv)) : List Int × Bool := l.foldl (stayStep c0 to) ([0, 0, 0, 0], false)
theorem stayStep_len {c0 : Int} {to : Nat} {s : List Int × Bool} (y : Nat × CEv) (h : s.1.length = 4) : (stayStep c0 to s y).1.length = 4 := by
  unfold stayStep
  split
  · rfl
  · split
    · simpa using h
    · exact h
theorem stayR_len (c0 : Int) (to : Nat) (l : List (Nat × CEv)) : (stayR c0 to l).1.length = 4 := by
  suffices h : ∀ (l : List (Nat × CEv)) (s : List Int × Bool), s.1.length = 4 → (l.foldl (stayStep c0 to) s).1.length = 4 from h l _ rfl
  intro l
  induction l with
  | nil => exact fun _ h => h
  | cons y l ih => exact fun s h => ih _ (stayStep_len y h)
theorem infoStay : (Tryd.prog.info? 49).map (·.size) = some 4 := by kernel_rfl
theorem ints_one (t : List Int) : ∀ v ∈ t.map intV, v.oneCell' = true := fun v hv => by obtain ⟨x, _, rfl⟩ := List.mem_map.1 hv; rfl
theorem load_bool {W : World} {b : Nat} {v : Bool} (h : W.cell? ⟨b, 0, none⟩ = some (.bool v)) : (loadVar 4 ⟨b, 0, none⟩).run Tryd.prog W = .ok (.bool v) W := by
  simp [go_sem, h]
theorem results_two {fn : Func} {a c b d : Nat} {T U : TypeId} {tmps : Array Value} {W : World} {v1 v2 : Value} (h : fn.results = #[.cell a T, .cell c U]) (ha : tmps.getD a undef = .pointer (some ⟨b, 0, none⟩)) (hc : tmps.getD c undef = .pointer (some ⟨d, 0, none⟩))
    (h1 : (loadVar T ⟨b, 0, none⟩).run Tryd.prog W = .ok v1 W) (h2 : (loadVar U ⟨d, 0, none⟩).run Tryd.prog W = .ok v2 W) : (results fn tmps).run Tryd.prog W = .ok (.tuple #[v1, v2]) W := by
  rw [Array.getD_eq_getD_getElem?] at ha hc
  unfold results
  rw [h]
  simp [ha, hc, asAddr, h1, h2]
set_option maxRecDepth 100000 in
set_option maxHeartbeats 4000000 in
theorem stay_in (bb n c to : Nat) (es : List CEv) (e0 : CEv) (w : World) (hn : es.length = n) (hbb : bb < w.heap.size) (h : CEvs w bb es) (hto : to < n) (hc : n ≤ c) (hc2 : c ≤ 1000) (he0 : es[to]? = some e0) :
    CallsIn Fence.wide 7 Tryd.prog 22 #[.slice (some ⟨bb, 0, none⟩) n c, .int .i64 to] w fun e W' => e = .returned (.tuple #[.agg ((stayR e0.core to (placed (es.take to))).1.map intV).toArray, .bool (stayR e0.core to (placed (es.take to))).2]) ∧ Below w.heap.size w W' := by
  have h1 : ¬ (c : Int) < to := by omega
  have h2 : ¬ (to : Int) < 0 := by omega
  refine callsIn_of_wp_marks Tryd.func22 rfl trivial ?_ rfl
  simp only [Tryd.ntmps22, List.size_toArray, List.length_cons, List.length_nil, Nat.reduceAdd, Nat.reduceSub, Array.replicate_succ, Array.replicate_zero, List.push_toArray, List.append_toArray, List.nil_append, List.cons_append]
  gi_wp2_with (refine ⟨trivial, ?_⟩; gi_at_call 20; refine (callsIn_wide.2 (t_rows _ _ _ _)).mono ?_; rintro e w' ⟨rfl, rfl⟩)
  clear h1 h2
  have bl0 := ((((Boxed.new w 44 (.slice (some ⟨bb, 0, none⟩) n c)).alloc (.cells #[.int .i64 to] 3)).alloc (.cells #[.int .i64 0, .int .i64 0, .int .i64 0, .int .i64 0] 49)).alloc (.cells #[.bool false] 4)).alloc (.cells #[.slice (some ⟨bb, 0, none⟩) to c] 44)
  have bk0 := (((Boxed.new (w.alloc (.cells #[.slice (some ⟨bb, 0, none⟩) n c] 44)) 3 (.int .i64 to)).alloc (.cells #[.int .i64 0, .int .i64 0, .int .i64 0, .int .i64 0] 49)).alloc (.cells #[.bool false] 4)).alloc (.cells #[.slice (some ⟨bb, 0, none⟩) to c] 44)
  have bw0 : (((((w.alloc (.cells #[.slice (some ⟨bb, 0, none⟩) n c] 44)).alloc (.cells #[.int .i64 to] 3)).alloc (.cells #[.int .i64 0, .int .i64 0, .int .i64 0, .int .i64 0] 49)).alloc (.cells #[.bool false] 4)).alloc (.cells #[.slice (some ⟨bb, 0, none⟩) to c] 44)).heap[w.heap.size + 1 + 1]? = some (.cells ((stayR e0.core to []).1.map intV).toArray 49 (0, 0)) := by
    refine (Below.heap_alloc _ _ _ (by simp)).trans ((Below.heap_alloc _ _ _ (by simp)).trans ?_)
    have := heap_alloc_new ((w.alloc (.cells #[.slice (some ⟨bb, 0, none⟩) n c] 44)).alloc (.cells #[.int .i64 to] 3)) (.cells #[.int .i64 0, .int .i64 0, .int .i64 0, .int .i64 0] 49)
    simp only [World.size_alloc] at this
    exact this
  have bi0 := (Boxed.new (((w.alloc (.cells #[.slice (some ⟨bb, 0, none⟩) n c] 44)).alloc (.cells #[.int .i64 to] 3)).alloc (.cells #[.int .i64 0, .int .i64 0, .int .i64 0, .int .i64 0] 49)) 4 (.bool false)).alloc (.cells #[.slice (some ⟨bb, 0, none⟩) to c] 44)
  have bt0 := Boxed.new ((((w.alloc (.cells #[.slice (some ⟨bb, 0, none⟩) n c] 44)).alloc (.cells #[.int .i64 to] 3)).alloc (.cells #[.int .i64 0, .int .i64 0, .int .i64 0, .int .i64 0] 49)).alloc (.cells #[.bool false] 4)) 44 (.slice (some ⟨bb, 0, none⟩) to c)
  have hB0 := (((((Below.refl _ w).alloc (Nat.le_refl _) (.cells #[.slice (some ⟨bb, 0, none⟩) n c] 44)).alloc (by simp) (.cells #[.int .i64 to] 3)).alloc (by simp; omega) (.cells #[.int .i64 0, .int .i64 0, .int .i64 0, .int .i64 0] 49)).alloc (by simp; omega) (.cells #[.bool false] 4)).alloc (by simp; omega) (.cells #[.slice (some ⟨bb, 0, none⟩) to c] 44)
  have hs0 : (((((w.alloc (.cells #[.slice (some ⟨bb, 0, none⟩) n c] 44)).alloc (.cells #[.int .i64 to] 3)).alloc (.cells #[.int .i64 0, .int .i64 0, .int .i64 0, .int .i64 0] 49)).alloc (.cells #[.bool false] 4)).alloc (.cells #[.slice (some ⟨bb, 0, none⟩) to c] 44)).heap.size = w.heap.size + 5 := by simp
  simp only [World.size_alloc] at bl0 bk0 bi0 bt0
  obtain ⟨W0, hW0⟩ : ∃ W0, ((((w.alloc (.cells #[.slice (some ⟨bb, 0, none⟩) n c] 44)).alloc (.cells #[.int .i64 to] 3)).alloc (.cells #[.int .i64 0, .int .i64 0, .int .i64 0, .int .i64 0] 49)).alloc (.cells #[.bool false] 4)).alloc (.cells #[.slice (some ⟨bb, 0, none⟩) to c] 44) = W0 := ⟨_, rfl⟩
  rw [hW0] at bl0 bk0 bw0 bi0 bt0 hB0 hs0 ⊢
  clear hW0
  have h0 : CEvs W0 bb es := fun k e hk j v hv => (World.cell?_of_block (a := ⟨bb, _, none⟩) (hB0.block bb hbb)).trans (h k e hk j v hv)
  have h0t : CEvs W0 bb (es.take to) := fun k e hk => h0 k e (by rw [List.getElem?_take] at hk; split at hk; exact hk; cases hk)
  refine wpIn_rangeFunc_ownH rfl (by omega) (gf := 28) (lb := #[.pointer (some ⟨w.heap.size + 1 + 1 + 1 + 1, 0, none⟩)]) rfl trivial (enters_of Tryd.func28 (by kernel_rfl) rfl)
    (rows_stops (w.heap.size + 1 + 1 + 1 + 1) bb to c w.heap.size (es.take to) W0 (by rw [List.length_take]; omega) (by omega) hbb (by omega) bt0 h0t) KeepAt.trans (KeepAt.put (by omega) (by omega)) (Below.refl _ _) (fun _ => rfl)
    (fun pre W => W.heap[w.heap.size + 1 + 1]? = some (.cells ((stayR e0.core to pre).1.map intV).toArray 49 (0, 0)) ∧ Boxed W (w.heap.size + 1 + 1 + 1) 4 (.bool (stayR e0.core to pre).2) ∧ (Boxed W w.heap.size 44 (.slice (some ⟨bb, 0, none⟩) n c) ∧ Boxed W (w.heap.size + 1) 3 (.int .i64 to)) ∧ Boxed W (w.heap.size + 1 + 1 + 1 + 1) 44 (.slice (some ⟨bb, 0, none⟩) to c) ∧ Below w.heap.size w W)
    (fun _ _ _ => False)
    (OwnFrom.and (Own.from (cel_own _ _ _) _) (OwnFrom.and (Own.from (boxed_own _ _ _) _) (OwnFrom.and (OwnFrom.and (Own.from (boxed_own _ _ _) _) (Own.from (boxed_own _ _ _) _)) (OwnFrom.and (Own.from (boxed_own _ _ _) _) (ownFrom_below (Nat.le_refl _) (by omega))))))
    (fun d => ownFrom_pure _ _)
    ⟨bw0, bi0, ⟨bl0, bk0⟩, bt0, hB0⟩
    (fun y a' W => ∃ Bx, w.heap.size + 4 < Bx ∧ EvBox W Bx y.2 ∧ a' = { tmps := #[.slice (some ⟨bb, 0, none⟩) n c, .int .i64 to, .pointer (some ⟨w.heap.size, 0, none⟩), .pointer (some ⟨w.heap.size + 1, 0, none⟩), .pointer (some ⟨w.heap.size + 1 + 1, 0, none⟩), .pointer (some ⟨w.heap.size + 1 + 1 + 1, 0, none⟩), .int .i64 y.1, .pointer (some ⟨Bx, 0, none⟩), .slice (some ⟨bb, 0, none⟩) n c, .int .i64 to, .slice (some ⟨bb, 0, none⟩) to c, .func (.func 28) #[] #[.pointer (some ⟨w.heap.size + 1 + 1 + 1 + 1, 0, none⟩)], .int .i64 y.1, .agg y.2.cells.toArray, undef, undef, undef, undef, undef, undef, undef, undef, undef, undef, undef, undef, undef, undef, undef, undef, undef, undef, undef, undef, undef, undef, undef, undef, undef, undef, undef, undef, undef, undef, undef, undef, undef, undef, undef, undef, undef, undef, undef], defers := [] })
    (fun y a' _ X Y row hs hg hr => by obtain ⟨Bx, h1, h2, h3⟩ := hs; exact ⟨Bx, h1, cel_own Bx 43 (fun _ : Unit => y.2.cells.toArray) () X Y row h2 hg (fun r e => (hr r e).2), h3⟩)
    ?assign ?body ?done ?stop
  case stop => exact fun _ _ _ _ _ _ hf => hf.elim
  case assign =>
    rintro l pre y W K ⟨hw, hi, ⟨hL, hk⟩, hb, hB⟩ hK
    have hsW := hB.size
    have hlb := hb.lt
    have HZ : Hid ((W.alloc (.cells #[.int .i64 0, .int .u8 0, .int .u8 0, .string ⟨#[]⟩, .string ⟨#[]⟩, .int .i64 0, .int .i64 0, .int .u32 0, .string ⟨#[]⟩, .int .i64 0, .int .i64 0, .int .u32 0, .int .u32 0, .int .u8 0, .int .i64 0, .int .u32 0, .slice none 0 0, .string ⟨#[]⟩] 43)).heap[W.heap.size]? = some (.cells (CEv.cells ⟨0, 0, 0, 0, by decide, by decide⟩).toArray 43 (0, 0))) := heap_alloc_new _ _
    gi_wp2_with (refine wpListIn_store_cel rfl 43 _ _ rfl W.heap.size 18 (CEv.cells ⟨0, 0, 0, 0, by decide, by decide⟩) y.2.cells rfl rfl infoEvC (cev_one y.2) rfl rfl HZ.out ?_; intro w4 h4 hg4)
    have hb4 := below_store2 hg4
    exact hK _ _ (KeepsFrom.of_below hb4) (KeepAt.of_below hb4 hsW hb.lt) ⟨(hb4.block _ (Array.getElem?_eq_some_iff.1 hw).1).trans hw, (hb4.block _ hi.lt).trans hi, ⟨(hb4.block _ hL.lt).trans hL, (hb4.block _ hk.lt).trans hk⟩, (hb4.block _ hb.lt).trans hb, hB.trans (hb4.mono hsW)⟩ ⟨W.heap.size, by omega, h4, rfl⟩
  case body =>
    rintro l pre y a' W hl _ ⟨hw, hi, ⟨hL, hk⟩, hb, hB⟩ ⟨Bx, hBx, hX, rfl⟩ hlt
    have HR := Lib.hid (show stayR e0.core to (pre ++ [y]) = stayStep e0.core to (stayR e0.core to pre) y by simp [stayR, List.foldl_append])
    have hlen := stayR_len e0.core to pre
    obtain ⟨p, hp⟩ : ∃ p, stayR e0.core to pre = p := ⟨_, rfl⟩
    rw [hp] at hw hi HR hlen
    clear hp
    have hce : W.cell? ⟨bb, to * 18, none⟩ = some (.int .i64 e0.core) := (World.cell?_of_block (a := ⟨bb, _, none⟩) (hB.block bb hbb)).trans (h to e0 he0 0 _ rfl)
    obtain ⟨k, x⟩ := y
    simp only at hX
    have ck := hX.kind
    have cc := hX.core
    have cl := hL.cell
    have ct := hk.cell
    have fi := hi.frozen
    have htn : ¬ (n : Int) ≤ to := by omega
    have ht0 : ¬ (to : Int) < 0 := by omega
    have HWB := Lib.hid hw
    have HFin : Hid (∀ W9 : World, TwoOff (w.heap.size + 1 + 1) (w.heap.size + 1 + 1 + 1) W W9 → ∀ q : List Int × Bool, W9.heap[w.heap.size + 1 + 1]? = some (.cells (q.1.map intV).toArray 49 (0, 0)) → Boxed W9 (w.heap.size + 1 + 1 + 1) 4 (.bool q.2) → stayStep e0.core to p (k, x) = q →
        KeepsFrom W0.heap.size W W9 ∧ KeepAt w.heap.size (w.heap.size + 1 + 1 + 1 + 1) W W9 ∧ W9.heap[w.heap.size + 1 + 1]? = some (.cells ((stayR e0.core to (pre ++ [(k, x)])).1.map intV).toArray 49 (0, 0)) ∧ Boxed W9 (w.heap.size + 1 + 1 + 1) 4 (.bool (stayR e0.core to (pre ++ [(k, x)])).2) ∧ (Boxed W9 w.heap.size 44 (.slice (some ⟨bb, 0, none⟩) n c) ∧ Boxed W9 (w.heap.size + 1) 3 (.int .i64 to)) ∧ Boxed W9 (w.heap.size + 1 + 1 + 1 + 1) 44 (.slice (some ⟨bb, 0, none⟩) to c) ∧ Below w.heap.size w W9) := Lib.hid fun W9 h2 q hq1 hq2 hq => by
      have hs1 := hL.lt
      have hs2 := hk.lt
      have hs3 := hb.lt
      refine ⟨⟨h2.size, fun j o hj ho _ => (h2.block j (Array.getElem?_eq_some_iff.1 ho).1 (by omega) (by omega)).trans ho⟩, ⟨fun j hj => h2.block j (by omega) (by omega) (by omega), h2.block _ hs3 (by omega) (by omega)⟩, by rw [HR.out, hq]; exact hq1, by rw [HR.out, hq]; exact hq2,
        ⟨(h2.block _ hs1 (by omega) (by omega)).trans hL, (h2.block _ hs2 (by omega) (by omega)).trans hk⟩, (h2.block _ hs3 (by omega) (by omega)).trans hb, ⟨h2.os.trans hB.os, h2.tape.trans hB.tape, h2.output.trans hB.output, Nat.le_trans hB.size h2.size, fun j hj => (h2.block j (Nat.lt_of_lt_of_le hj hB.size) (by omega) (by omega)).trans (hB.block j hj)⟩⟩
    have HIB := Lib.hid hi
    clear hw hi hL hk hb hB hX HR hs0
    by_cases k1 : x.kind = 1
    · have k1' : ((x.kind : Int) == 1) = true := by rw [k1]; rfl
      by_cases kc : x.core = e0.core
      · have kc' : (x.core == e0.core) = true := by simpa using kc
        have HS := Lib.hid (show stayStep e0.core to p (k, x) = ([x.core, (k : Int), to, 0], true) by unfold stayStep; exact if_pos ⟨k1, kc⟩)
        clear k1 kc
        gi_wp2
        (refine A.round_quiet (by kernel_rfl) (by kernel_rfl) (by kernel_rfl) ?_; (repeat (go_big_quiet_step (fail))); refine wpQuiet_nil ?_; intro _ hw'; obtain ⟨nq, hw''⟩ := hw'; subst hw'')
        have HZ4 : Hid ((W.drewN nq).heap[w.heap.size + 1 + 1]? = some (.cells (p.1.map intV).toArray 49 (0, 0))) := HWB.out
        have HT0 : Hid (TwoOff (w.heap.size + 1 + 1) (w.heap.size + 1 + 1 + 1) W (W.drewN nq)) := TwoOff.drewN _ _
        obtain ⟨W5, hW5⟩ : ∃ W5, W.drewN nq = W5 := ⟨_, rfl⟩
        have HI5 : Hid (Boxed W5 (w.heap.size + 1 + 1 + 1) 4 (.bool p.2)) := by rw [← hW5]; exact HIB.out
        have cc5 : W5.cell? ⟨Bx, 0, none⟩ = some (.int .i64 x.core) := by rw [← hW5]; exact cc
        have ct5 : W5.cell? ⟨w.heap.size + 1, 0, none⟩ = some (.int .i64 to) := by rw [← hW5]; exact ct
        have fi5 : W5.frozen? ⟨w.heap.size + 1 + 1 + 1, 0, none⟩ = false := by rw [← hW5]; exact fi
        rw [hW5] at HZ4 HT0 ⊢
        clear hW5 HWB HIB
        gi_wp2_with
          (refine wpListIn_store_cel rfl 49 _ _ rfl (w.heap.size + 1 + 1) 4 (p.1.map intV) ([x.core, (k : Int), (to : Int), 0].map intV) (by rw [List.length_map, hlen]) rfl infoStay (ints_one _) rfl rfl HZ4.out ?_; intro w4 h4 hg4
           have HG4 := Lib.hid (HT0.out.grown hg4 (.inl rfl))
           have HC4 := Lib.hid h4
           have HI4 : Hid (Boxed w4 (w.heap.size + 1 + 1 + 1) 4 (.bool p.2)) := HI5.out.kept hg4 (by simp)
           have fi4 := HI4.out.frozen
           have ci4 := HI4.out.cell
           clear h4 hg4)
        have HC9 := (Below.heap_setCell w4 ⟨w.heap.size + 1 + 1 + 1, 0, none⟩ (.bool true) (w.heap.size + 1 + 1) (by simp)).trans HC4.out
        exact HFin.out _ (HG4.out.grown (grownBy_setCell' w4 (w.heap.size + 1 + 1 + 1) (.bool true)) (.inr rfl)) ([x.core, (k : Int), (to : Int), 0], true) HC9 (HI4.out.set _) HS.out
      · have kc' : (x.core == e0.core) = false := by simpa using kc
        have k2' : ((x.kind : Int) == 2) = false := by rw [k1]; rfl
        have HS := Lib.hid (show stayStep e0.core to p (k, x) = p by unfold stayStep; rw [if_neg (fun hh => kc hh.2), if_neg (fun hh => absurd hh.1 (by simp only [k1]; decide))])
        clear k1 kc
        gi_wp2
        (refine A.round_quiet (by kernel_rfl) (by kernel_rfl) (by kernel_rfl) ?_; (repeat (go_big_quiet_step (fail))); refine wpQuiet_nil ?_; intro _ hw'; obtain ⟨nq, hw''⟩ := hw'; subst hw'')
        gi_wp2
        (refine A.round_quiet (by kernel_rfl) (by kernel_rfl) (by kernel_rfl) ?_; (repeat (go_big_quiet_step (fail))); refine wpQuiet_nil ?_; intro _ hw'; obtain ⟨nq, hw''⟩ := hw'; subst hw'')
        gi_wp2
        exact HFin.out _ (TwoOff.drew2 _ _ _) _ HWB.out HIB.out HS.out
    · have k1' : ((x.kind : Int) == 1) = false := by simp; omega
      by_cases k2 : x.kind = 2
      · have k2' : ((x.kind : Int) == 2) = true := by rw [k2]; rfl
        by_cases kc : x.core = e0.core
        · have kc' : (x.core != e0.core) = false := by simpa using kc
          have HS := Lib.hid (show stayStep e0.core to p (k, x) = p by unfold stayStep; rw [if_neg (fun hh => k1 hh.1), if_neg (fun hh => hh.2 kc)])
          clear k1 k2 kc
          gi_wp2
          (refine A.round_quiet (by kernel_rfl) (by kernel_rfl) (by kernel_rfl) ?_; (repeat (go_big_quiet_step (fail))); refine wpQuiet_nil ?_; intro _ hw'; obtain ⟨nq, hw''⟩ := hw'; subst hw'')
          gi_wp2
          (refine A.round_quiet (by kernel_rfl) (by kernel_rfl) (by kernel_rfl) ?_; (repeat (go_big_quiet_step (fail))); refine wpQuiet_nil ?_; intro _ hw'; obtain ⟨nq, hw''⟩ := hw'; subst hw'')
          gi_wp2
          exact HFin.out _ (TwoOff.drew2 _ _ _) _ HWB.out HIB.out HS.out
        · have kc' : (x.core != e0.core) = true := by simpa using kc
          have HS := Lib.hid (show stayStep e0.core to p (k, x) = (p.1.set 3 (wrap64 (p.1.getD 3 0 + 1)), p.2) by unfold stayStep; rw [if_neg (fun hh => k1 hh.1), if_pos ⟨k2, kc⟩])
          clear k1 k2 kc
          obtain ⟨p1, p2⟩ := p
          obtain ⟨t, ht⟩ : ∃ t, p1 = t := ⟨_, rfl⟩
          subst ht
          obtain ⟨v, hv⟩ : ∃ v, p1.getD 3 0 = v := ⟨_, rfl⟩
          simp only at hlen
          have HA : Hid (ArrB 49 W (w.heap.size + 1 + 1) p1) := HWB.out
          have hv3 : p1[3]? = some v := by rw [← hv, List.getD_eq_getElem?_getD, List.getElem?_eq_getElem (by omega)]; rfl
          have c3 := HA.out.cell hv3
          have f3 := HA.out.froz 3
          have HA9 : Hid (∀ q : Nat, TwoOff (w.heap.size + 1 + 1) (w.heap.size + 1 + 1 + 1) W ((W.drewN q).setCell ⟨w.heap.size + 1 + 1, 3, none⟩ (.int .i64 (wrap64 (v + 1)))) ∧ ArrB 49 ((W.drewN q).setCell ⟨w.heap.size + 1 + 1, 3, none⟩ (.int .i64 (wrap64 (v + 1)))) (w.heap.size + 1 + 1) (p1.set 3 (wrap64 (p1.getD 3 0 + 1))) ∧
              Boxed ((W.drewN q).setCell ⟨w.heap.size + 1 + 1, 3, none⟩ (.int .i64 (wrap64 (v + 1)))) (w.heap.size + 1 + 1 + 1) 4 (.bool p2)) := Lib.hid fun q => by
            refine ⟨(TwoOff.drewN W q).grown (pgrown_set _ _ _ _) (.inl rfl), ?_, (show Boxed (W.drewN q) (w.heap.size + 1 + 1 + 1) 4 (.bool p2) from HIB.out).kept (pgrown_set _ _ _ _) (by simp)⟩
            rw [hv]
            exact ArrB.set (show ArrB 49 (W.drewN q) (w.heap.size + 1 + 1) p1 from HA.out) 3 (wrap64 (v + 1))
          clear hv hv3
          gi_wp2
          (refine A.round_quiet (by kernel_rfl) (by kernel_rfl) (by kernel_rfl) ?_; (repeat (go_big_quiet_step (fail))); refine wpQuiet_nil ?_; intro _ hw'; obtain ⟨nq, hw''⟩ := hw'; subst hw'')
          gi_wp2
          (refine A.round_quiet (by kernel_rfl) (by kernel_rfl) (by kernel_rfl) ?_; (repeat (go_big_quiet_step (fail))); refine wpQuiet_nil ?_; intro _ hw'; obtain ⟨nq, hw''⟩ := hw'; subst hw'')
          gi_wp2
          obtain ⟨g1, g2, g3⟩ := HA9.out _
          exact HFin.out _ g1 (p1.set 3 (wrap64 (p1.getD 3 0 + 1)), p2) g2 g3 HS.out
      · have k2' : ((x.kind : Int) == 2) = false := by simp; omega
        have HS := Lib.hid (show stayStep e0.core to p (k, x) = p by unfold stayStep; rw [if_neg (fun hh => k1 hh.1), if_neg (fun hh => k2 hh.1)])
        clear k1 k2
        gi_wp2
        (refine A.round_quiet (by kernel_rfl) (by kernel_rfl) (by kernel_rfl) ?_; (repeat (go_big_quiet_step (fail))); refine wpQuiet_nil ?_; intro _ hw'; obtain ⟨nq, hw''⟩ := hw'; subst hw'')
        gi_wp2
        (refine A.round_quiet (by kernel_rfl) (by kernel_rfl) (by kernel_rfl) ?_; (repeat (go_big_quiet_step (fail))); refine wpQuiet_nil ?_; intro _ hw'; obtain ⟨nq, hw''⟩ := hw'; subst hw'')
        gi_wp2
        exact HFin.out _ (TwoOff.drew2 _ _ _) _ HWB.out HIB.out HS.out
  case done =>
    rintro D ys W hD rfl ⟨hw, hi, ⟨hL, hk⟩, hb, hB⟩ hK
    have hlen := stayR_len e0.core to (placed (es.take to))
    obtain ⟨p, hp⟩ : ∃ p, stayR e0.core to (placed (es.take to)) = p := ⟨_, rfl⟩
    rw [hp] at hw hi hlen
    obtain ⟨p1, p2⟩ := p
    simp only at hw hi hlen
    have HP := Lib.hid hp
    have HK := Lib.hid hK
    have HW := Lib.hid hw
    have HI := Lib.hid hi
    have HB := Lib.hid hB
    have HD : Hid (w.heap.size + 5 ≤ D) := by rw [← hs0]; exact hD
    clear hp hK hw hi hB hL hk hb bl0 bk0 bw0 bi0 bt0 hB0 hs0 h0 h0t hD
    gi_wp2
    refine wpIn_region_frontM 3 (phi [isV (.agg (p1.map intV).toArray), isV (.bool p2), fun _ _ => True]) (by kernel_rfl) (by kernel_rfl) (by kernel_rfl) ?_ ?_ ?_
    · refine stays_phiF ?_
      simp only [List.forall_mem_cons]
      exact ⟨fun _ _ _ h _ => h, fun _ _ _ h _ => h, fun _ _ _ _ _ => trivial, fun _ h => absurd h (by simp)⟩
    · refine ⟨?_, ?_, ?_, trivial⟩
      · refine opMIn_mk rfl fun aa W2 hB2 hp hq K hK => ?_
        have e4 : aa.tmps[4]?.getD undef = .pointer (some ⟨w.heap.size + 1 + 1, 0, none⟩) := hp 4 (by kernel_rfl)
        have hw2 := (hB2.block _ (Array.getElem?_eq_some_iff.1 HW.out).1).trans HW.out
        clear hp hq
        exact wpIn_load_cel 49 _ rfl _ 0 (ev_tmp e4) _ _ (cel_range hw2) Tryd.underlying49 rfl (by rw [List.length_map, hlen]; exact infoStay) (hK _ _ (Below.refl _ _) rfl)
      · refine opMIn_mk rfl fun aa W2 hB2 hp hq K hK => ?_
        have e5 : aa.tmps[5]?.getD undef = .pointer (some ⟨w.heap.size + 1 + 1 + 1, 0, none⟩) := hp 5 (by kernel_rfl)
        have c5 := (show Boxed W2 (w.heap.size + 1 + 1 + 1) 4 (.bool p2) from (hB2.block _ HI.out.lt).trans HI.out).cell
        clear hp hq
        go_simp
        exact hK _ _ (Below.refl _ _) rfl
      · refine opMIn_mk rfl fun aa W2 hB2 hp hq K hK => ?_
        have e4 : aa.tmps[4]?.getD undef = .pointer (some ⟨w.heap.size + 1 + 1, 0, none⟩) := hp 4 (by kernel_rfl)
        have e51 : aa.tmps[51]?.getD undef = .agg (p1.map intV).toArray := hq 0 _ (by kernel_rfl) rfl
        have hw2 := (hB2.block _ (Array.getElem?_eq_some_iff.1 HW.out).1).trans HW.out
        clear hp hq
        exact wpIn_store_cel 49 _ _ rfl _ 4 _ _ (by rw [List.length_map, hlen]) (by rw [List.length_map, hlen]) infoStay (ints_one p1) (ev_tmp e4) (ev_tmp e51) hw2 (fun w' h4 hg4 => hK _ _ (below_same hw2 h4 hg4) trivial)
    · intro vs W5 hB5 hv
      have f0 : vs 0 = .agg (p1.map intV).toArray := hv 0 (by decide) (by kernel_rfl)
      have f1 : vs 1 = .bool p2 := hv 1 (by decide) (by kernel_rfl)
      have HW5 : Hid (W5.heap[w.heap.size + 1 + 1]? = some (.cells (p1.map intV).toArray 49 (0, 0))) := (hB5.block _ (Array.getElem?_eq_some_iff.1 HW.out).1).trans HW.out
      have HI5 : Hid (Boxed W5 (w.heap.size + 1 + 1 + 1) 4 (.bool p2)) := (hB5.block _ HI.out.lt).trans HI.out
      have HK5 : Hid (W5.heap[D]? = some (.deferred (some []))) := (hB5.block _ (Array.getElem?_eq_some_iff.1 HK.out).1).trans HK.out
      have HB5 := Lib.hid (HB.out.trans (hB5.mono HB.out.size))
      have c5 := HI5.out.cell
      have i5 := HI5.out.frozen
      clear hv hB5
      refine (show wpAnyIn _ _ Tryd.prog .any _ _ 1 _ _ W5 from ?_)
      refine wpAnyIn_one (i := 3) (by kernel_rfl) (by rfl) rfl (fun K hK => ?_)
      simp only [List.take_succ_cons, List.take_zero, putAll, Act.put, List.setIfInBounds_toArray, List.set_cons_succ, List.set_cons_zero, Nat.zero_add, f0, f1] at hK ⊢
      go_simp
      refine hK _ _ (wpAnyIn_end (by kernel_rfl) ?_)
      clear hK
      gi_wp2
      have hd : w.heap.size + 5 ≤ D := HD.out
      have hD6 : (W5.setCell ⟨w.heap.size + 1 + 1 + 1, 0, none⟩ (.bool p2)).heap[D]? = some (.deferred (some [])) := (Below.heap_setCell _ _ _ D (by simp; omega)).trans HK5.out
      have hS6 : (W5.setCell ⟨w.heap.size + 1 + 1 + 1, 0, none⟩ (.bool p2)).heap[w.heap.size + 1 + 1]? = some (.cells (p1.map intV).toArray 49 (0, 0)) := (Below.heap_setCell _ _ _ _ (by simp)).trans HW5.out
      have hI6 := HI5.out.set (.bool p2)
      have hB6 := HB5.out.setCell (p := ⟨w.heap.size + 1 + 1 + 1, 0, none⟩) (by simp; omega) (.bool p2)
      refine ⟨by simp, .inl ⟨_, _, rfl, run_takeDeferred hD6, ?_⟩⟩
      have hc5 := (hI6.kept (grownBy_putObj' _ D (.deferred none)) (by simp; omega)).cell
      have hl := run_loadVar_mid (P := Tryd.prog) ((W5.setCell ⟨w.heap.size + 1 + 1 + 1, 0, none⟩ (.bool p2)).putObj D (.deferred none)) (w.heap.size + 1 + 1) 0 49 (p1.map intV) _ (cel_range (take_own hS6 hD6)) Tryd.underlying49 rfl (by rw [List.length_map, hlen]; exact infoStay)
      refine ⟨.tuple #[.agg (p1.map intV).toArray, .bool p2], ?_, ?_, hB6.trans (belowK_b (w := w) (Nat.le_refl _) _ D _ _ (by omega) hD6 rfl rfl)⟩
      · exact results_two (a := 4) (c := 5) rfl rfl rfl hl (load_bool hc5)
      · rw [HP.out]
end Go.Proofs.YtenddeglhjmhcaaDoor
