/- count.Stays. -/
import Derived.Test.YtenddeglhjmhcaaDoorU8
namespace Go.Proofs.YtenddeglhjmhcaaDoor
open Go.RowKit Go.Shelf

attribute [local go_sem] Oper.semAt_some
def stayOf (es : List CEv) (k : Nat) : List Int × Bool := stayR ((es.getD k ⟨0, 0, 0, 0, by decide, by decide⟩).core) k (placed (es.take k))
def staysStep (es : List CEv) (L : List (List Int)) (y : Nat × CEv) : List (List Int) := if y.2.kind = 3 then (if (stayOf es y.1).2 then L ++ [(stayOf es y.1).1] else L) else L
def staysTo (es : List CEv) (l : List (Nat × CEv)) : List (List Int) := l.foldl (staysStep es) []
def staysR (es : List CEv) : List (List Int) := staysTo es (placed es)
def stayCells (L : List (List Int)) : List Value := L.flatMap (·.map intV)
theorem staysTo_snoc (es : List CEv) (l : List (Nat × CEv)) (y : Nat × CEv) : staysTo es (l ++ [y]) = staysStep es (staysTo es l) y := by simp [staysTo, List.foldl_append]
theorem staysStep_len (es : List CEv) (L : List (List Int)) (y : Nat × CEv) : (staysStep es L y).length ≤ L.length + 1 := by
  unfold staysStep
  split
  · split
    · simp
    · omega
  · omega
theorem staysTo_len (es : List CEv) (l : List (Nat × CEv)) : (staysTo es l).length ≤ l.length := by
  suffices h : ∀ (l : List (Nat × CEv)) (L : List (List Int)), (l.foldl (staysStep es) L).length ≤ L.length + l.length from by have := h l []; rw [List.length_nil, Nat.zero_add] at this; exact this
  intro l
  induction l with
  | nil => intro L; simp
  | cons y l ih => intro L; have := ih (staysStep es L y); have := staysStep_len es L y; simp only [List.foldl_cons, List.length_cons]; omega
set_option maxRecDepth 100000 in
theorem infoStay2 : ∃ i : TypeInfo, Tryd.prog.info? 49 = some i ∧ i.zero = some (.agg #[.int .i64 0, .int .i64 0, .int .i64 0, .int .i64 0]) ∧ i.size = 4 ∧ i.bytes = 32 := by
  refine ⟨_, rfl, ?_, ?_, ?_⟩ <;> kernel_rfl
theorem four_of_len {t : List Int} (h : t.length = 4) : ∃ a b c d, t = [a, b, c, d] := by
  match t, h with
  | [a, b, c, d], _ => exact ⟨a, b, c, d, rfl⟩
theorem load_sl {W : World} {b : Nat} {v : Value} (h : W.cell? ⟨b, 0, none⟩ = some v) : (loadVar 46 ⟨b, 0, none⟩).run Tryd.prog W = .ok v W := by
  simp [go_sem, h]
theorem results_one {fn : Func} {a b : Nat} {T : TypeId} {tmps : Array Value} {W : World} {v1 : Value} (h : fn.results = #[.cell a T]) (ha : tmps.getD a undef = .pointer (some ⟨b, 0, none⟩))
    (h1 : (loadVar T ⟨b, 0, none⟩).run Tryd.prog W = .ok v1 W) : (results fn tmps).run Tryd.prog W = .ok v1 W := by
  rw [Array.getD_eq_getD_getElem?] at ha
  unfold results
  rw [h]
  simp [ha, asAddr, h1]
set_option maxRecDepth 100000 in
set_option maxHeartbeats 4000000 in
theorem stays_in (bb n c : Nat) (es : List CEv) (w : World) (hn : es.length = n) (hn2 : n ≤ 1000) (hbb : bb < w.heap.size) (h : CEvs w bb es) (hc : n ≤ c) (hc2 : c ≤ 1000) :
    CallsIn Fence.wide 7 Tryd.prog 12 #[.slice (some ⟨bb, 0, none⟩) n c] w fun e W' => ∃ v, e = .returned v ∧ W'.ownsRow w.heap.size 49 4 v (staysR es).length (stayCells (staysR es)) ∧ Below w.heap.size w W' := by
  refine callsIn_of_wp_marks Tryd.func12 rfl trivial ?_ rfl
  simp only [Tryd.ntmps12, List.size_toArray, List.length_cons, List.length_nil, Nat.reduceAdd, Nat.reduceSub, Array.replicate_succ, Array.replicate_zero, List.push_toArray, List.append_toArray, List.nil_append, List.cons_append]
  gi_wp2_with (refine ⟨trivial, ?_⟩; gi_at_call 20; refine (callsIn_wide.2 (t_rows _ _ _ _)).mono ?_; rintro e w' ⟨rfl, rfl⟩)
  have bl0 := ((Boxed.new w 44 (.slice (some ⟨bb, 0, none⟩) n c)).alloc (.cells #[.slice none 0 0] 46)).alloc (.cells #[.slice (some ⟨bb, 0, none⟩) n c] 44)
  have bo0 := (Boxed.new (w.alloc (.cells #[.slice (some ⟨bb, 0, none⟩) n c] 44)) 46 (.slice none 0 0)).alloc (.cells #[.slice (some ⟨bb, 0, none⟩) n c] 44)
  have bt0 := Boxed.new ((w.alloc (.cells #[.slice (some ⟨bb, 0, none⟩) n c] 44)).alloc (.cells #[.slice none 0 0] 46)) 44 (.slice (some ⟨bb, 0, none⟩) n c)
  have hB0 := (((Below.refl _ w).alloc (Nat.le_refl _) (.cells #[.slice (some ⟨bb, 0, none⟩) n c] 44)).alloc (by simp) (.cells #[.slice none 0 0] 46)).alloc (by simp; omega) (.cells #[.slice (some ⟨bb, 0, none⟩) n c] 44)
  have hs0 : (((w.alloc (.cells #[.slice (some ⟨bb, 0, none⟩) n c] 44)).alloc (.cells #[.slice none 0 0] 46)).alloc (.cells #[.slice (some ⟨bb, 0, none⟩) n c] 44)).heap.size = w.heap.size + 3 := by simp
  simp only [World.size_alloc] at bl0 bo0 bt0
  obtain ⟨W0, hW0⟩ : ∃ W0, ((w.alloc (.cells #[.slice (some ⟨bb, 0, none⟩) n c] 44)).alloc (.cells #[.slice none 0 0] 46)).alloc (.cells #[.slice (some ⟨bb, 0, none⟩) n c] 44) = W0 := ⟨_, rfl⟩
  rw [hW0] at bl0 bo0 bt0 hB0 hs0 ⊢
  clear hW0
  have h0 : CEvs W0 bb es := fun k e hk j v hv => (World.cell?_of_block (a := ⟨bb, _, none⟩) (hB0.block bb hbb)).trans (h k e hk j v hv)
  refine wpIn_rangeFunc_ownH rfl (by omega) (gf := 28) (lb := #[.pointer (some ⟨w.heap.size + 1 + 1, 0, none⟩)]) rfl trivial (enters_of Tryd.func28 (by kernel_rfl) rfl)
    (rows_stops_lt (w.heap.size + 1 + 1) bb n c w.heap.size es W0 hn hn2 hbb (by omega) bt0 h0) KeepAt.trans (KeepAt.put (by omega) (by omega)) (Below.refl _ _) (fun _ => rfl)
    (fun pre W => (∃ v, Boxed W (w.heap.size + 1) 46 v ∧ W.ownsRow w.heap.size 49 4 v (staysTo es (pre.map (·.1))).length (stayCells (staysTo es (pre.map (·.1)))) ∧ True) ∧ Boxed W w.heap.size 44 (.slice (some ⟨bb, 0, none⟩) n c) ∧ Boxed W (w.heap.size + 1 + 1) 44 (.slice (some ⟨bb, 0, none⟩) n c) ∧ Below w.heap.size w W)
    (fun _ _ _ => False)
    (OwnFrom.and (Own.from (holdsRow_own _ _ _ _ _ _ _ _) _) (OwnFrom.and (Own.from (boxed_own _ _ _) _) (OwnFrom.and (Own.from (boxed_own _ _ _) _) (ownFrom_below (Nat.le_refl _) (by omega)))))
    (fun d => ownFrom_pure _ _)
    ⟨⟨_, bo0, World.ownsRow_nil _ _ _ _, trivial⟩, bl0, bt0, hB0⟩
    (fun y a' W => ∃ Bx, w.heap.size + 2 < Bx ∧ EvBox W Bx y.1.2 ∧ a' = { tmps := #[.slice (some ⟨bb, 0, none⟩) n c, .pointer (some ⟨w.heap.size, 0, none⟩), .pointer (some ⟨w.heap.size + 1, 0, none⟩), .int .i64 y.1.1, .pointer (some ⟨Bx, 0, none⟩), undef, undef, .slice (some ⟨bb, 0, none⟩) n c, .func (.func 28) #[] #[.pointer (some ⟨w.heap.size + 1 + 1, 0, none⟩)], .int .i64 y.1.1, .agg y.1.2.cells.toArray, undef, undef, undef, undef, undef, undef, undef, undef, undef, undef, undef, undef, undef, undef, undef], defers := [] })
    (fun y a' _ X Y row hs hg hr => by obtain ⟨Bx, h1, h2, h3⟩ := hs; exact ⟨Bx, h1, cel_own Bx 43 (fun _ : Unit => y.1.2.cells.toArray) () X Y row h2 hg (fun r e => (hr r e).2), h3⟩)
    ?assign ?body ?done ?stop
  case stop => exact fun _ _ _ _ _ _ hf => hf.elim
  case assign =>
    rintro l pre y W K ⟨⟨v, ho, hr, _⟩, hL, hb, hB⟩ hK
    have hsW := hB.size
    have hlb := hb.lt
    have HZ : Hid ((W.alloc (.cells #[.int .i64 0, .int .u8 0, .int .u8 0, .string ⟨#[]⟩, .string ⟨#[]⟩, .int .i64 0, .int .i64 0, .int .u32 0, .string ⟨#[]⟩, .int .i64 0, .int .i64 0, .int .u32 0, .int .u32 0, .int .u8 0, .int .i64 0, .int .u32 0, .slice none 0 0, .string ⟨#[]⟩] 43)).heap[W.heap.size]? = some (.cells (CEv.cells ⟨0, 0, 0, 0, by decide, by decide⟩).toArray 43 (0, 0))) := heap_alloc_new _ _
    have hr4 : ∀ W4 : World, Below W.heap.size W W4 → W4.ownsRow w.heap.size 49 4 v (staysTo es (pre.map (·.1))).length (stayCells (staysTo es (pre.map (·.1)))) := fun W4 hb4 =>
      hr.kept (row := none) ⟨hb4.os, hb4.tape, hb4.output, hb4.size, fun k hk _ => hb4.block k hk⟩ (by
        rcases hr.2 with ⟨rfl, _⟩ | ⟨g, cap, cur, rfl, _⟩
        · exact .inl rfl
        · exact .inr (by simp [Value.ownBlock]))
    gi_wp2_with (refine wpListIn_store_cel rfl 43 _ _ rfl W.heap.size 18 (CEv.cells ⟨0, 0, 0, 0, by decide, by decide⟩) y.1.2.cells rfl rfl infoEvC (cev_one y.1.2) rfl rfl HZ.out ?_; intro w4 h4 hg4)
    have hb4 := below_store2 hg4
    exact hK _ _ (KeepsFrom.of_below hb4) (KeepAt.of_below hb4 hsW hb.lt) ⟨⟨v, (hb4.block _ ho.lt).trans ho, hr4 _ hb4, trivial⟩, (hb4.block _ hL.lt).trans hL, (hb4.block _ hb.lt).trans hb, hB.trans (hb4.mono hsW)⟩ ⟨W.heap.size, by omega, h4, rfl⟩
  case body =>
    rintro l pre y a' W hl _ ⟨⟨v, ho, hr, _⟩, hL, hb, hB⟩ ⟨Bx, hBx, hX, rfl⟩ hlt
    obtain ⟨⟨k, x⟩, hk⟩ := y
    simp only at hX hk ⊢
    have HR := Lib.hid (show staysTo es ((pre ++ [(⟨(k, x), hk⟩ : {x : Nat × CEv // x.1 < n})]).map (·.1)) = staysStep es (staysTo es (pre.map (·.1))) (k, x) by rw [List.map_append]; exact staysTo_snoc _ _ _)
    have hll := staysTo_len es (pre.map (·.1))
    rw [List.length_map] at hll
    obtain ⟨L, hLL⟩ : ∃ L, staysTo es (pre.map (·.1)) = L := ⟨_, rfl⟩
    rw [hLL] at hr hll HR
    clear hLL
    have ck := hX.kind
    have cl := hL.cell
    have HPP := Lib.hid (And.intro ho (And.intro hr (And.intro hL (And.intro hb hB))))
    have hsz := hb.lt
    have hcs : CEvs W bb es := fun k e hk j v hv => (World.cell?_of_block (a := ⟨bb, _, none⟩) (hB.block bb hbb)).trans (h k e hk j v hv)
    obtain ⟨e0, he0⟩ : ∃ e0, es[k]? = some e0 := ⟨_, List.getElem?_eq_getElem (by rw [hn]; exact hk)⟩
    have HST := Lib.hid (callsIn_wide.1 (stay_in bb n c k es e0 W hn (by omega) hcs hk hc hc2 he0))
    have HSE := Lib.hid (show stayR e0.core k (placed (es.take k)) = stayOf es k by unfold stayOf; rw [List.getD_eq_getElem?_getD, he0]; rfl)
    have hslen := stayR_len e0.core k (placed (es.take k))
    clear hb hB hL hr ho hX hcs hs0 he0
    by_cases k3 : x.kind = 3
    · have k3' : ((x.kind : Int) != 3) = false := by rw [k3]; rfl
      rw [HSE.out] at HST hslen
      have HS := Lib.hid (show staysStep es L (k, x) = if (stayOf es k).2 then L ++ [(stayOf es k).1] else L by unfold staysStep; rw [if_pos k3])
      obtain ⟨⟨q1, q2⟩, hq⟩ : ∃ q, stayOf es k = q := ⟨_, rfl⟩
      rw [hq] at HST hslen HS
      obtain ⟨a1, b1, c1, d1, rfl⟩ := four_of_len hslen
      clear hq HSE k3 hslen
      have hr4 : ∀ W4 : World, Below W.heap.size W W4 → (Boxed W4 (w.heap.size + 1) 46 v ∧ W4.ownsRow w.heap.size 49 4 v L.length (stayCells L) ∧ Boxed W4 w.heap.size 44 (.slice (some ⟨bb, 0, none⟩) n c) ∧ Boxed W4 (w.heap.size + 1 + 1) 44 (.slice (some ⟨bb, 0, none⟩) n c) ∧ Below w.heap.size w W4) := fun W4 hb4 =>
        ⟨(hb4.block _ HPP.out.1.lt).trans HPP.out.1, HPP.out.2.1.kept (row := none) ⟨hb4.os, hb4.tape, hb4.output, hb4.size, fun k hk _ => hb4.block k hk⟩ (by
          rcases HPP.out.2.1.2 with ⟨rfl, _⟩ | ⟨g, cap, cur, rfl, _⟩
          · exact .inl rfl
          · exact .inr (by simp [Value.ownBlock])), (hb4.block _ HPP.out.2.2.1.lt).trans HPP.out.2.2.1, (hb4.block _ HPP.out.2.2.2.1.lt).trans HPP.out.2.2.2.1, HPP.out.2.2.2.2.trans (hb4.mono HPP.out.2.2.2.2.size)⟩
      have HR4 := Lib.hid hr4
      clear hr4
      cases q2 with
      | false =>
        gi_wp2_with (first
          | (refine ⟨trivial, ?_⟩; gi_at_call 22; refine (show CallsIn (Fence.wide.inRound l) _ _ _ _ _ _ from (callsIn_wide.2 HST.out : CallsIn Fence.wide _ _ _ _ _ _)).mono ?_; rintro e W3 ⟨rfl, hb3⟩
             have HB3 := Lib.hid hb3
             have HZ3 : Hid ((W3.alloc (.cells #[.int .i64 0, .int .i64 0, .int .i64 0, .int .i64 0] 49)).heap[W3.heap.size]? = some (.cells (([0, 0, 0, 0] : List Int).map intV).toArray 49 (0, 0))) := heap_alloc_new _ _
             clear hb3)
          | (refine wpListIn_store_cel rfl 49 _ _ rfl W3.heap.size 4 (([0, 0, 0, 0] : List Int).map intV) (([a1, b1, c1, d1] : List Int).map intV) rfl rfl infoStay (ints_one _) rfl rfl HZ3.out ?_; intro w4 h4 hg4))
        have hb4 := ptrans HB3.out (below_store2 hg4)
        obtain ⟨g1, g2, g3, g4, g5⟩ := HR4.out _ hb4
        refine ⟨KeepsFrom.of_below hb4, KeepAt.of_below hb4 (by omega) (by omega), ⟨v, g1, ?_, trivial⟩, g3, g4, g5⟩
        rw [HR.out, HS.out]; exact g2
      | true =>
        obtain ⟨is, his⟩ := infoStay2
        have his := Lib.hid his
        have HCN : Hid (∀ (w4 : World) (j : Nat) (u : Value), (([a1, b1, c1, d1] : List Int).map intV)[j]? = some u → (w4.alloc (.cells #[intV a1, intV b1, intV c1, intV d1] 49)).cell? (Addr.add ⟨w4.heap.size, 0, none⟩ j) = some u) := Lib.hid fun w4 j u hu => by
          rw [Addr.add_lit, Nat.zero_add, cell_of (heap_alloc_new _ _)]
          simpa using hu
        gi_wp2_with (first
          | (refine ⟨trivial, ?_⟩; gi_at_call 22; refine (show CallsIn (Fence.wide.inRound l) _ _ _ _ _ _ from (callsIn_wide.2 HST.out : CallsIn Fence.wide _ _ _ _ _ _)).mono ?_; rintro e W3 ⟨rfl, hb3⟩
             have HB3 := Lib.hid hb3
             have HZ3 : Hid ((W3.alloc (.cells #[.int .i64 0, .int .i64 0, .int .i64 0, .int .i64 0] 49)).heap[W3.heap.size]? = some (.cells (([0, 0, 0, 0] : List Int).map intV).toArray 49 (0, 0))) := heap_alloc_new _ _
             clear hb3)
          | (refine wpListIn_store_cel rfl 49 _ _ rfl W3.heap.size 4 (([0, 0, 0, 0] : List Int).map intV) (([a1, b1, c1, d1] : List Int).map intV) rfl rfl infoStay (ints_one _) rfl rfl HZ3.out ?_; intro w4 h4 hg4
             have HB4 := Lib.hid (ptrans HB3.out (below_store2 hg4))
             have HG4 := Lib.hid (HR4.out _ HB4.out)
             have c4 := HG4.out.1.cell
             have HC4 := Lib.hid h4
             clear h4 hg4)
          | (refine wpListIn_load_mid rfl 49 _ rfl W3.heap.size 0 rfl (([a1, b1, c1, d1] : List Int).map intV) _ (cel_range HC4.out) Tryd.underlying49 rfl infoStay ?_)
          | (refine wpListIn_append_own (w4.alloc (.cells #[intV a1, intV b1, intV c1, intV d1] 49)) rfl _ _ 46 rfl w.heap.size 49 is (.agg #[.int .i64 0, .int .i64 0, .int .i64 0, .int .i64 0]) 4 32 Tryd.underlying46 his.out.1 his.out.2.1 his.out.2.2.1 his.out.2.2.2 rfl (by decide) v L.length (stayCells L) rfl (HG4.out.2.1.alloc _) ⟨w4.heap.size, 0, none⟩ 1 1 (([a1, b1, c1, d1] : List Int).map intV) rfl rfl (HCN.out w4) (ints_one _) (by unfold maxLen; omega) (by omega) (by have := HB4.out.size; simp; omega) ?_; intro v' w6 ho6 hg6 _
             obtain ⟨g, cap, rfl⟩ := ownsRow_succ ho6
             have HAP := Lib.hid (Boxed.appended HG4.out.1 (by decide) HG4.out.2.1 (by have := HB4.out.size; omega) (by omega) ho6 hg6)
             have HL6 := Lib.hid (Boxed.other ((HG4.out.2.2.1.alloc _).kept hg6 (HG4.out.2.2.1.not_row (by decide) HG4.out.2.1)) (B' := w.heap.size + 1) (by omega) (.slice (some ⟨g, 0, none⟩) (L.length + 1) cap))
             have HT6 := Lib.hid (Boxed.other ((HG4.out.2.2.2.1.alloc _).kept hg6 (HG4.out.2.2.2.1.not_row (by decide) HG4.out.2.1)) (B' := w.heap.size + 1) (by omega) (.slice (some ⟨g, 0, none⟩) (L.length + 1) cap))
             have c6 := HAP.out.1.cell
             have f6 := HAP.out.1.frozen
             clear ho6 hg6))
        obtain ⟨p1, p2, p3, p4, p5⟩ := HAP.out
        have hT6 := HT6.out
        refine ⟨(KeepsFrom.of_below HB4.out).trans (p4.from _), ⟨fun j hj => (p5.block j hj).trans (HB4.out.block j (by omega)), hT6.trans HPP.out.2.2.2.1.symm⟩, ⟨_, p2, ?_, trivial⟩, HL6.out, hT6, HG4.out.2.2.2.2.trans p5⟩
        rw [HR.out, HS.out, if_pos (by trivial), List.length_append]
        have e2 : stayCells (L ++ [[a1, b1, c1, d1]]) = stayCells L ++ ([a1, b1, c1, d1] : List Int).map intV := by simp [stayCells]
        rw [e2]
        exact p3
    · have k3' : ((x.kind : Int) != 3) = true := by simp; omega
      have HS := Lib.hid (show staysStep es L (k, x) = L by unfold staysStep; rw [if_neg k3])
      clear k3
      gi_wp2
      obtain ⟨g1, g2, g3, g4, g5⟩ := HPP.out
      refine ⟨KeepsFrom.refl _ _, KeepAt.refl _ _ _, ⟨v, g1, ?_, trivial⟩, g3, g4, g5⟩
      rw [HR.out, HS.out]; exact g2
  case done =>
    rintro D ys W hD hS ⟨⟨v, ho, hr, _⟩, hL, hb, hB⟩ hK
    rw [hS] at hr
    have co := ho.cell
    have fo := ho.frozen
    have HV : Hid (Boxed W (w.heap.size + 1) 46 v ∧ W.ownsRow w.heap.size 49 4 v (staysR es).length (stayCells (staysR es)) ∧ Below w.heap.size w W ∧ W.heap[D]? = some (.deferred (some [])) ∧ w.heap.size + 3 ≤ D) := ⟨ho, hr, hB, hK, by omega⟩
    clear hL hb hB hK hD ho hs0 bl0 bo0 bt0 hB0 h0
    have hvs : (v = .slice none 0 0 ∧ True) ∨ ∃ g m cap, v = .slice (some ⟨g, 0, none⟩) m cap := by
      rcases hr.2 with ⟨rfl, _⟩ | ⟨g, cap, cur, rfl, _⟩
      · exact .inl ⟨rfl, trivial⟩
      · exact .inr ⟨_, _, _, rfl⟩
    have HE : Hid ((W.setCell ⟨w.heap.size + 1, 0, none⟩ v).heap[D]? = some (.deferred (some [])) ∧ (loadVar 46 ⟨w.heap.size + 1, 0, none⟩).run Tryd.prog ((W.setCell ⟨w.heap.size + 1, 0, none⟩ v).putObj D (.deferred none)) = .ok v ((W.setCell ⟨w.heap.size + 1, 0, none⟩ v).putObj D (.deferred none)) ∧
        ((W.setCell ⟨w.heap.size + 1, 0, none⟩ v).putObj D (.deferred none)).ownsRow w.heap.size 49 4 v (staysR es).length (stayCells (staysR es)) ∧ Below w.heap.size w ((W.setCell ⟨w.heap.size + 1, 0, none⟩ v).putObj D (.deferred none))) := by
      obtain ⟨h1, h2, h3, h4, h5⟩ := HV.out
      have hD6 : (W.setCell ⟨w.heap.size + 1, 0, none⟩ v).heap[D]? = some (.deferred (some [])) := (Below.heap_setCell _ _ _ D (by simp; omega)).trans h4
      have hb6 := h1.set v
      have hr6 : (W.setCell ⟨w.heap.size + 1, 0, none⟩ v).ownsRow w.heap.size 49 4 v (staysR es).length (stayCells (staysR es)) := h2.kept (grownBy_setCell' W (w.heap.size + 1) v) (.inr (h1.not_row (by decide) h2).symm)
      exact Lib.hid ⟨hD6, load_sl (hb6.kept (grownBy_putObj' _ D (.deferred none)) (by simp; omega)).cell, ownsRow_putObj hr6 _ hD6 rfl, (h3.setCell (p := ⟨w.heap.size + 1, 0, none⟩) (by simp) v).trans (belowK_b (w := w) (Nat.le_refl _) _ D _ _ (by omega) hD6 rfl rfl)⟩
    rcases hvs with ⟨rfl, _⟩ | ⟨g, m, cap, rfl⟩
    · clear hr
      gi_wp2
      obtain ⟨hD6, hl6, hr6, hB6⟩ := HE.out
      refine ⟨by simp, .inl ⟨_, _, rfl, run_takeDeferred hD6, ?_⟩⟩
      exact ⟨_, results_one (a := 2) rfl rfl hl6, _, rfl, hr6, hB6⟩
    · clear hr
      gi_wp2
      obtain ⟨hD6, hl6, hr6, hB6⟩ := HE.out
      refine ⟨by simp, .inl ⟨_, _, rfl, run_takeDeferred hD6, ?_⟩⟩
      exact ⟨_, results_one (a := 2) rfl rfl hl6, _, rfl, hr6, hB6⟩
end Go.Proofs.YtenddeglhjmhcaaDoor
