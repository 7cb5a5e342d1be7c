/- count.rows$1: the iterator over a history. -/
import Derived.Test.YtenddeglhjmhcaaDoorU1
namespace Go.Proofs.YtenddeglhjmhcaaDoor
open Go.RowKit Go.Shelf

attribute [local go_sem] Oper.semAt_some
theorem infoEvC : (Tryd.prog.info? 43).map (·.size) = some 18 := by kernel_rfl
theorem cev_one (e : CEv) : ∀ v ∈ e.cells, v.oneCell' = true := by
  intro v hv
  simp only [CEv.cells, List.mem_cons, List.not_mem_nil, or_false] at hv
  rcases hv with rfl | rfl | rfl | rfl | rfl | rfl | rfl | rfl | rfl | rfl | rfl | rfl | rfl | rfl | rfl | rfl | rfl | rfl <;> rfl
/-- Events with their places. -/
def placed (es : List CEv) : List (Nat × CEv) := es.zipIdx.map fun x => (x.2, x.1)
theorem placed_len (es : List CEv) : (placed es).length = es.length := by simp [placed]
theorem placed_step {es : List CEv} {j : Nat} {e : CEv} (h : es[j]? = some e) : (placed es).take (j + 1) = (placed es).take j ++ [(j, e)] := by
  have hg : (placed es)[j]? = some (j, e) := by simp [placed, h]
  rw [List.take_add_one, hg]; rfl
/-- What a round keeps: all below n₁, and one box. -/
structure KeepAt (n₁ bt : Nat) (A B : World) : Prop where
  low : ∀ k, k < n₁ → B.heap[k]? = A.heap[k]?
  box : B.heap[bt]? = A.heap[bt]?
theorem KeepAt.refl (n₁ bt : Nat) (A : World) : KeepAt n₁ bt A A := ⟨fun _ _ => rfl, rfl⟩
theorem KeepAt.trans {n₁ bt : Nat} {A B C : World} (h : KeepAt n₁ bt A B) (k : KeepAt n₁ bt B C) : KeepAt n₁ bt A C := ⟨fun i hi => (k.low i hi).trans (h.low i hi), k.box.trans h.box⟩
theorem KeepAt.put {n₁ bt : Nat} {w : World} (hn : n₁ ≤ w.heap.size) (hb : bt < w.heap.size) (W : World) (l : Nat) (o o' : Obj) (hl : w.heap.size ≤ l) (_ : W.heap[l]? = some o) (_ : o.isCells = false) (_ : o.isWalk = false) : KeepAt n₁ bt W (W.putObj l o') :=
  ⟨fun i hi => World.putObj_heap_other (by omega), World.putObj_heap_other (by omega)⟩
set_option maxRecDepth 100000 in
set_option maxHeartbeats 4000000 in
theorem rows_in (l bt bb n c n₁ : Nat) (es : List CEv) (J Jx : List (Nat × CEv) → World → Prop) (hJa : ∀ ys W W', J ys W → Below W.heap.size W W' → J ys W') (hn : es.length = n) (hn2 : n ≤ 1000) (hbb : bb < n₁)
    (hY : ∀ pre x W, x.1 < n → J pre W → pre.length < n → YieldAt Fence.wide 5 Tryd.prog l #[.int .i64 x.1, .agg x.2.cells.toArray] W fun e W' =>
      (e = .returned (.bool true) ∧ J (pre ++ [x]) W' ∧ KeepAt n₁ bt W W') ∨ (e = .returned (.bool false) ∧ Jx (pre ++ [x]) W'))
    (W : World) (hbt : Boxed W bt 44 (.slice (some ⟨bb, 0, none⟩) n c)) (h : CEvs W bb es) (hbW : bb < W.heap.size) (h0 : J [] W) :
    CallsIn Fence.wide 6 Tryd.prog 28 #[.func (.yield l) #[] #[], .pointer (some ⟨bt, 0, none⟩)] W fun e W' => (∃ v, e = .returned v) ∧
      ((∃ ys, ys = placed es ∧ J ys W') ∨ (∃ pre, pre <+: placed es ∧ Jx pre W')) := by
  have cb := hbt.cell
  refine callsIn_of_wp Tryd.func28 rfl trivial ?_ rfl
  simp only [Tryd.ntmps28, List.size_toArray, List.length_cons, List.length_nil, Nat.reduceAdd, Nat.reduceSub, Array.replicate_succ, Array.replicate_zero, List.push_toArray, List.append_toArray, List.nil_append, List.cons_append]
  gi_wp2
  gi_loopw [7] (fun v wr => ∃ i : Nat, i ≤ n ∧ v = .int .i64 (i : Int) ∧ Boxed wr bt 44 (.slice (some ⟨bb, 0, none⟩) n c) ∧ CEvs wr bb es ∧ J ((placed es).take i) wr ∧ bb < wr.heap.size) (fun v _ => n - (intOf v).toNat)
  case atStart => exact ⟨0, Nat.zero_le _, rfl, hbt, h, h0, hbW⟩
  case round =>
    obtain ⟨i, hi, rfl, hbx, hev, hJ, hbs⟩ := hrel
    have cb := hbx.cell
    by_cases he : i = n
    · have hfin : (placed es).take i = placed es := List.take_of_length_le (by rw [placed_len, hn]; omega)
      rw [hfin] at hJ
      have he' : ¬ (i : Int) < n := by omega
      clear hfin he
      gi_wp2
      go_end0
      exact ⟨⟨_, rfl⟩, .inl hJ⟩
    · have hin : i < n := by omega
      have hini : (i : Int) < n := by omega
      obtain ⟨e, hx⟩ : ∃ e, es[i]? = some e := ⟨_, List.getElem?_eq_getElem (by rw [hn]; exact hin)⟩
      have hr := hev i e hx
      have hst := placed_step hx
      have hlen : ((placed es).take i).length < n := by rw [List.length_take, placed_len]; omega
      have HZ : Hid ((wr.alloc (.cells #[.int .i64 0, .int .u8 0, .int .u8 0, .string ⟨#[]⟩, .string ⟨#[]⟩, .int .i64 0, .int .i64 0, .int .u32 0, .string ⟨#[]⟩, .int .i64 0, .int .i64 0, .int .u32 0, .int .u32 0, .int .u8 0, .int .i64 0, .int .u32 0, .slice none 0 0, .string ⟨#[]⟩] 43)).heap[wr.heap.size]? = some (.cells (CEv.cells ⟨0, 0, 0, 0, by decide, by decide⟩).toArray 43 (0, 0))) := heap_alloc_new _ _
      have HRL := Lib.hid hr
      have HST := Lib.hid hst
      have HJ := Lib.hid hJ
      have HLN := Lib.hid hlen
      have HEV := Lib.hid hev
      have HBX := Lib.hid hbx
      have HY := Lib.hid hY
      clear hr hst hJ hlen hev hbx hY hx he
      gi_wp2_with (first
        | (refine wpListIn_load_mid rfl 43 _ rfl bb (i * 18) rfl e.cells _ HRL.out Tryd.underlying43 rfl infoEvC ?_)
        | (refine wpListIn_store_cel rfl 43 _ _ rfl wr.heap.size 18 (CEv.cells ⟨0, 0, 0, 0, by decide, by decide⟩) e.cells rfl rfl infoEvC (cev_one e) rfl rfl HZ.out ?_; intro w4 h4 hg4
           have HB4 := Lib.hid (below_store2 hg4)
           have HD4 := Lib.hid (cel_range h4)
           obtain ⟨fn, tmps, assign, body, hy, hR⟩ := HY.out _ (i, e) w4 hin (hJa _ _ _ HJ.out HB4.out) HLN.out
           rw [← HST.out] at hR
           clear h4 hg4)
        | (refine wpListIn_load_mid rfl 43 _ rfl wr.heap.size 0 rfl e.cells _ HD4.out Tryd.underlying43 rfl infoEvC ?_))
      have hw4 : ∀ W3, KeepAt n₁ bt w4 W3 → Boxed W3 bt 44 (.slice (some ⟨bb, 0, none⟩) n c) ∧ CEvs W3 bb es ∧ bb < W3.heap.size := fun W3 hk => by
        have hbb4 : w4.heap[bb]? = wr.heap[bb]? := HB4.out.block bb hbs
        have hb3 : W3.heap[bb]? = wr.heap[bb]? := (hk.low bb hbb).trans hbb4
        refine ⟨(hk.box.trans (HB4.out.block bt HBX.out.lt)).trans HBX.out, fun k e2 hk2 j v hv => (World.cell?_of_block (a := ⟨bb, _, none⟩) hb3).trans (HEV.out k e2 hk2 j v hv), ?_⟩
        rw [Array.getElem?_eq_getElem hbs] at hb3
        exact (Array.getElem?_eq_some_iff.1 hb3).1
      have HW4 := Lib.hid hw4
      clear hw4 hy
      refine hR.mono ?_
      rintro e3 W3 (⟨rfl, hJ3, hk3⟩ | ⟨rfl, hJx3⟩)
      · obtain ⟨hb3, hr3, hs3⟩ := HW4.out W3 hk3
        have HF := Lib.hid (And.intro hb3 (And.intro hr3 (And.intro hJ3 hs3)))
        clear hb3 hr3 hs3 hJ3 hk3 hR cb
        gi_wp2
        go_roundw
        case rel => exact ⟨i + 1, by omega, by go_num, HF.out.1, HF.out.2.1, HF.out.2.2.1, HF.out.2.2.2⟩
        case measure => simp [intOf]; omega
      · have HX := Lib.hid hJx3
        clear hJx3 hR cb
        gi_wp2
        refine bodyPost_ret (results_none rfl _ _ _) rfl ?_
        exact ⟨⟨_, rfl⟩, .inr ⟨_, List.take_prefix _ _, HX.out⟩⟩
theorem rows_stops (bt bb n c n₁ : Nat) (es : List CEv) (w : World) (hn : es.length = n) (hn2 : n ≤ 1000) (hbb : bb < n₁) (hn₁ : n₁ ≤ w.heap.size) (hbt : Boxed w bt 44 (.slice (some ⟨bb, 0, none⟩) n c)) (h : CEvs w bb es) :
    SeqStopsK Fence.wide 6 Tryd.prog 28 #[.pointer (some ⟨bt, 0, none⟩)] (fun x : Nat × CEv => #[.int .i64 x.1, .agg x.2.cells.toArray]) (KeepAt n₁ bt) (fun ys => ys = placed es) (fun pre => pre <+: placed es) n w := by
  intro l J Jx W hW hJ _ hY h0
  have hbw : bb < w.heap.size := Nat.lt_of_lt_of_le hbb hn₁
  refine rows_in l bt bb n c n₁ es J Jx (fun ys A B hj hb => hJ ys A B none hj ⟨hb.os, hb.tape, hb.output, hb.size, fun k hk _ => hb.block k hk⟩ (fun r e => by cases e)) hn hn2 hbb (fun pre x W1 _ => hY pre x W1) W ((hW.block bt hbt.lt).trans hbt) (fun k e hk j v hv => (World.cell?_of_block (a := ⟨bb, _, none⟩) (hW.block bb hbw)).trans (h k e hk j v hv)) (Nat.lt_of_lt_of_le hbw hW.size) h0
/-- The same, with places in bounds. -/
theorem rows_stops_lt (bt bb n c n₁ : Nat) (es : List CEv) (w : World) (hn : es.length = n) (hn2 : n ≤ 1000) (hbb : bb < n₁) (hn₁ : n₁ ≤ w.heap.size) (hbt : Boxed w bt 44 (.slice (some ⟨bb, 0, none⟩) n c)) (h : CEvs w bb es) :
    SeqStopsK Fence.wide 6 Tryd.prog 28 #[.pointer (some ⟨bt, 0, none⟩)] (fun x : {x : Nat × CEv // x.1 < n} => #[.int .i64 x.1.1, .agg x.1.2.cells.toArray]) (KeepAt n₁ bt) (fun ys => ys.map (·.1) = placed es) (fun pre => pre.map (·.1) <+: placed es) n w := by
  intro l J Jx W hW hJ _ hY h0
  have hbw : bb < w.heap.size := Nat.lt_of_lt_of_le hbb hn₁
  refine (rows_in l bt bb n c n₁ es (fun ys A => ∃ ys' : List {x : Nat × CEv // x.1 < n}, ys'.map (·.1) = ys ∧ J ys' A) (fun ys A => ∃ ys' : List {x : Nat × CEv // x.1 < n}, ys'.map (·.1) = ys ∧ Jx ys' A)
    (fun ys A B ⟨ys', e, hj⟩ hb => ⟨ys', e, hJ ys' A B none hj ⟨hb.os, hb.tape, hb.output, hb.size, fun k hk _ => hb.block k hk⟩ (fun r e => by cases e)⟩) hn hn2 hbb (fun pre x W1 hx ⟨pre', e, hj⟩ hl => (hY pre' ⟨x, hx⟩ W1 hj (by rw [← e, List.length_map] at hl; exact hl)).mono ?_)
    W ((hW.block bt hbt.lt).trans hbt) (fun k e hk j v hv => (World.cell?_of_block (a := ⟨bb, _, none⟩) (hW.block bb hbw)).trans (h k e hk j v hv)) (Nat.lt_of_lt_of_le hbw hW.size) ⟨[], rfl, h0⟩).mono ?_
  · rintro e' W' (⟨h1, h2, h3⟩ | ⟨h1, h2⟩)
    · exact .inl ⟨h1, ⟨_, by rw [List.map_append, e]; rfl, h2⟩, h3⟩
    · exact .inr ⟨h1, _, by rw [List.map_append, e]; rfl, h2⟩
  · rintro e' W' ⟨hv, ⟨ys, h1, ys', h2, h3⟩ | ⟨pre, h1, ys', h2, h3⟩⟩
    · exact ⟨hv, .inl ⟨ys', h2.trans h1, h3⟩⟩
    · exact ⟨hv, .inr ⟨ys', (show ys'.map (·.1) <+: placed es by rw [h2]; exact h1), h3⟩⟩
end Go.Proofs.YtenddeglhjmhcaaDoor
