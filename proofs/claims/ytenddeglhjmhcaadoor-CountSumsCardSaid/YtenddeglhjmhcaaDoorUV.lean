/- law40.alive. -/
import Derived.Test.YtenddeglhjmhcaaDoorU3
import Derived.Test.YtenddeglhjmhcaaDoorU7
import Derived.Test.YtenddeglhjmhcaaDoorU9
import Derived.Test.YtenddeglhjmhcaaDoorUX
import Derived.Test.YtenddeglhjmhcaaDoorUO
namespace Go.Proofs.YtenddeglhjmhcaaDoor
open Go.RowKit Go.Shelf

def es0 : List CEv := [⟨0, 1, 15, 0, by decide, by decide⟩, ⟨1, 1, 15, 0, by decide, by decide⟩, ⟨1, 2, 0, 0, by decide, by decide⟩, ⟨0, 2, 0, 0, by decide, by decide⟩, ⟨0, 3, 0, 0, by decide, by decide⟩]
def tt : List Int := [0, 2, 2, 1, 0, 0, 0, 0, 0, 0, 0, 0, 0, 0, 0, 0, 0, 0, 0, 2, 1, 0]
theorem of_es0 : ofR es0 = tt := by kernel_rfl
theorem crowd_es0 : (crowdR es0).2 = 2 := by kernel_rfl
theorem stays_es0 : staysR es0 = [[0, 0, 4, 1]] := by kernel_rfl
theorem flat_cells : ∀ (l : List CEv) (k : Nat) (e : CEv) (j : Nat) (v : Value), l[k]? = some e → e.cells[j]? = some v → (l.flatMap CEv.cells)[k * 18 + j]? = some v
  | [], _, _, _, _, h, _ => by simp at h
  | x :: l, 0, e, j, v, h, hv => by
    simp only [List.getElem?_cons_zero, Option.some.injEq] at h
    subst h
    rw [List.flatMap_cons, Nat.zero_mul, Nat.zero_add, List.getElem?_append_left ((List.getElem?_eq_some_iff.1 hv).1)]
    exact hv
  | x :: l, k + 1, e, j, v, h, hv => by
    rw [List.flatMap_cons, List.getElem?_append_right (by simp [CEv.cells]; omega)]
    have : (k + 1) * 18 + j - x.cells.length = k * 18 + j := by simp [CEv.cells]; omega
    rw [this]
    exact flat_cells l k e j v (by simpa using h) hv
theorem evs_alloc (w : World) (l : List CEv) : CEvs (w.alloc (.cells (l.flatMap CEv.cells).toArray 43)) w.heap.size l := fun k e hk j v hv => by
  rw [cell_of (heap_alloc_new _ _), List.getElem?_toArray]
  exact flat_cells l k e j v hk hv
theorem evs_below {W W' : World} {b : Nat} {l : List CEv} (h : CEvs W b l) (hb : Below W.heap.size W W') (hl : b < W.heap.size) : CEvs W' b l := fun k e hk j v hv => (World.cell?_of_block (a := ⟨b, _, none⟩) (hb.block b hl)).trans (h k e hk j v hv)
theorem t_of (bb n c : Nat) (es : List CEv) (w : World) (hn : es.length = n) (hn2 : n ≤ 1000) (hbb : bb < w.heap.size) (h : CEvs w bb es) :
    Calls Tryd.prog 11 #[.slice (some ⟨bb, 0, none⟩) n c] w fun e W' => e = .returned (talV (ofR es)) ∧ Below w.heap.size w W' := callsIn_wide.1 (of_in bb n c es w hn hn2 hbb h)
theorem t_crowd (bb n c : Nat) (es : List CEv) (w : World) (hn : es.length = n) (hn2 : n ≤ 1000) (hbb : bb < w.heap.size) (h : CEvs w bb es) :
    Calls Tryd.prog 13 #[.slice (some ⟨bb, 0, none⟩) n c] w fun e W' => e = .returned (.int .i64 (crowdR es).2) ∧ Below w.heap.size w W' := callsIn_wide.1 (crowd_in bb n c es w hn hn2 hbb h)
theorem t_stays (bb n c : Nat) (es : List CEv) (w : World) (hn : es.length = n) (hn2 : n ≤ 1000) (hbb : bb < w.heap.size) (h : CEvs w bb es) (hc : n ≤ c) (hc2 : c ≤ 1000) :
    Calls Tryd.prog 12 #[.slice (some ⟨bb, 0, none⟩) n c] w fun e W' => ∃ v, e = .returned v ∧ W'.ownsRow w.heap.size 49 4 v (staysR es).length (stayCells (staysR es)) ∧ Below w.heap.size w W' := callsIn_wide.1 (stays_in bb n c es w hn hn2 hbb h hc hc2)
theorem own_cell {W : World} {base size n cap g : Nat} {e : TypeId} {xs : List Value} (h : W.ownsRow base e size (.slice (some ⟨g, 0, none⟩) n cap) n xs) {j : Nat} {v : Value} (hj : xs[j]? = some v) : W.cell? ⟨g, j, none⟩ = some v := by
  rcases h.2 with ⟨h1, _⟩ | ⟨g', cap', cur, he, _, hg, _, _, _, ht⟩
  · cases h1
  · cases he
    rw [cell_of hg, ← Array.getElem?_toList]
    rw [← ht] at hj
    rw [List.getElem?_take] at hj
    split at hj
    · exact hj
    · cases hj
theorem wpList_eql_aggG {T : TypeId} {ops : Array Oper} {rest : List Oper} {op : Oper} {a : Act} {w : World} {Q : Exit → Act → World → Prop} (hw : Region.wanted op (yielded ops a.tmps) = true) (x y : Operand) (u : TypeId) (ho : op.op = .binOp .eql T x y u)
    (hg : Tryd.prog.eqGuardType Tryd.prog.depth T = false) (X Y : Array Value) (hx : a.eval x = .agg X) (hy : a.eval y = .agg Y) (r : Bool) (hr : (binOp .eql T (.agg X) (.agg Y)).run Tryd.prog w = .ok (.bool r) w)
    (h : wpList Tryd.prog ops Q rest (a.put op.dst (.bool r)) w) : wpList Tryd.prog ops Q (op :: rest) a w :=
  wpList_step fun K hK => by
    rw [if_pos hw]
    unfold Oper.wp execOp
    simp only [ho, hx, hy, Sem.run_bind, run_eqGuard_agg w .eql T x y X Y hg, hr, Sem.run_pure, Result.andThen_ok]
    exact hK _ _ h
theorem guardA4 : Tryd.prog.eqGuardType Tryd.prog.depth 23 = false := by kernel_rfl
theorem guardA8 : Tryd.prog.eqGuardType Tryd.prog.depth 51 = false := by kernel_rfl
theorem guardStay : Tryd.prog.eqGuardType Tryd.prog.depth 49 = false := by kernel_rfl
theorem eql_a8 (w : World) (xs ys : List Int) (hx : xs.length = 8) (hy : ys.length = 8) : (binOp .eql 51 (.agg (xs.map intV).toArray) (.agg (ys.map intV).toArray)).run Tryd.prog w = .ok (.bool (xs == ys)) w := by
  rw [run_eql_struct, eq_ints w 9998 51 8 Tryd.underlying51 xs ys hx hy]
  rfl
theorem fields_stay : (Tryd.prog.fieldsOf 49).toList.map (fun f => (f.name, f.type, f.offset)) = [("Core", 3, 0), ("From", 3, 1), ("To", 3, 2), ("Others", 3, 3)] := by kernel_rfl
theorem eq_stay_d (w : World) (d : Nat) (a b c e : Int) : (Op.equalIn (d + 3) 49 (.agg (([a, b, c, e] : List Int).map intV).toArray) (.agg (([a, b, c, e] : List Int).map intV).toArray)).run Tryd.prog w = .ok true w := by
  refine (run_equalIn_struct w (d + 2) 49 _ _ (by unfold Program.fieldsOf; rw [Tryd.underlying49]) (by kernel_rfl)).trans ((eq_four w (d + 2) _ _ _ _ _ _ _ _ _ _ _ _ _ _ _ (by decide) (by decide) (by decide) (by decide) fields_stay _ _ _ _ _ _ _ _ _ _ _ _
    (part_int w [a, b, c, e] 0 rfl) (part_int w [a, b, c, e] 0 rfl) (run_equalIn_int w (d + 1) 3 .i64 .i64 _ _ Tryd.underlying3)
    (part_int w [a, b, c, e] 1 rfl) (part_int w [a, b, c, e] 1 rfl) (run_equalIn_int w (d + 1) 3 .i64 .i64 _ _ Tryd.underlying3)
    (part_int w [a, b, c, e] 2 rfl) (part_int w [a, b, c, e] 2 rfl) (run_equalIn_int w (d + 1) 3 .i64 .i64 _ _ Tryd.underlying3)
    (part_int w [a, b, c, e] 3 rfl) (part_int w [a, b, c, e] 3 rfl) (run_equalIn_int w (d + 1) 3 .i64 .i64 _ _ Tryd.underlying3)).trans ?_)
  simp
theorem eql_stay (w : World) (a b c e : Int) : (binOp .eql 49 (.agg (([a, b, c, e] : List Int).map intV).toArray) (.agg (([a, b, c, e] : List Int).map intV).toArray)).run Tryd.prog w = .ok (.bool true) w := by
  rw [run_eql_struct]
  have h3 : (Op.equalIn 10000 49 (.agg (([a, b, c, e] : List Int).map intV).toArray) (.agg (([a, b, c, e] : List Int).map intV).toArray)).run Tryd.prog w = .ok true w := eq_stay_d w 9997 a b c e
  rw [h3]
  rfl
def tb : List Int := [0, 0, 0, 0, 0, 0, 0, 0, 0, 0, 0, 0, 0, 0, 0, 0, 0, 0, 0, 0, 0, -1]
theorem tb_tal : Tal tb := ⟨rfl, fun x hx => by
  have h : x = 0 ∨ x = -1 := by simpa [tb] using hx
  rcases h with rfl | rfl <;> exact ⟨by decide, by decide⟩⟩
theorem line_tb : lineT tb = [0x6b,0x30,0x2c,0x30,0x2c,0x30,0x2c,0x30,0x20,0x63,0x30,0x2c,0x30,0x2c,0x30,0x2c,0x30,0x2c,0x30,0x2c,0x30,0x2c,0x30,0x2c,0x30,0x2c,0x30,0x2c,0x30,0x2c,0x30,0x2c,0x30,0x2c,0x30,0x2c,0x30,0x2c,0x30,0x2c,0x30,0x20,0x67,0x30,0x20,0x62,0x2d,0x31] := by kernel_rfl
theorem line_tbV : strV (lineT tb) = .string ⟨#[0x6b,0x30,0x2c,0x30,0x2c,0x30,0x2c,0x30,0x20,0x63,0x30,0x2c,0x30,0x2c,0x30,0x2c,0x30,0x2c,0x30,0x2c,0x30,0x2c,0x30,0x2c,0x30,0x2c,0x30,0x2c,0x30,0x2c,0x30,0x2c,0x30,0x2c,0x30,0x2c,0x30,0x2c,0x30,0x2c,0x30,0x20,0x67,0x30,0x20,0x62,0x2d,0x31]⟩ := by rw [line_tb]; rfl
def callV : Array Value := #[.int .u8 15, .string ⟨#[]⟩, .string ⟨#[]⟩, .int .i64 0, .int .i64 0, .int .u32 0, .string ⟨#[]⟩]
set_option maxRecDepth 100000 in
set_option maxHeartbeats 4000000 in
theorem t_alive40 (w : World) (hT : Tab w) : Calls Tryd.prog 4 #[] w fun e w' => e = .returned (.bool true) ∧ Below w.heap.size w w' := by
  have HOF := Lib.hid (t_of (w.heap.size + 1) 5 5 es0 ((w.alloc (.cells callV 35)).alloc (.cells (es0.flatMap CEv.cells).toArray 43)) rfl (by decide) (by simp) (by simpa using evs_alloc (w.alloc (.cells callV 35)) es0))
  have HEV := Lib.hid (show CEvs ((w.alloc (.cells callV 35)).alloc (.cells (es0.flatMap CEv.cells).toArray 43)) (w.heap.size + 1) es0 by simpa using evs_alloc (w.alloc (.cells callV 35)) es0)
  go_enter Tryd.func4, Tryd.ntmps4
  go_wp2_with (first
    | (go_at_call 11
       refine (show Calls _ _ _ ((w.alloc (.cells callV 35)).alloc (.cells (es0.flatMap CEv.cells).toArray 43)) _ from ?_)
       refine HOF.out.mono ?_
       rintro e W1 ⟨rfl, hb1⟩
       rw [of_es0]
       have HB1 := Lib.hid ((((Below.refl _ w).alloc (Nat.le_refl _) (.cells callV 35)).alloc (by simp) (.cells (es0.flatMap CEv.cells).toArray 43)).trans (hb1.mono (by simp; omega)))
       have hs1 : w.heap.size + 1 < W1.heap.size := by have := hb1.size; rw [World.size_alloc, World.size_alloc] at this; omega
       have HE1 := Lib.hid (evs_below HEV.out hb1 (by simp))
       have HZ1 : Hid ((W1.alloc (.cells (zT.map intV).toArray 26)).heap[W1.heap.size]? = some (.cells (zT.map intV).toArray 26 (0, 0))) := heap_alloc_new _ _
       clear hb1)
    | (refine wpList_store_tal rfl _ _ rfl W1.heap.size zT tt rfl rfl rfl rfl HZ1.out ?_; intro W2 h2 hg2
       have HB2 := Lib.hid (below_store2 hg2)
       have HE2 := Lib.hid (evs_below HE1.out HB2.out hs1)
       have HT2 := Lib.hid h2
       have hs2 : w.heap.size + 1 < W2.heap.size := by have := HB2.out.size; omega
       clear h2 hg2)
    | (go_at_call 12
       refine (t_stays (w.heap.size + 1) 5 5 es0 W2 rfl (by decide) hs2 HE2.out (by decide) (by decide)).mono ?_
       rintro e W3 ⟨v, rfl, hr3, hb3⟩
       rw [stays_es0] at hr3
       have HB3 := Lib.hid hb3
       have HE3 := Lib.hid (evs_below HE2.out hb3 hs2)
       have HT3 := Lib.hid (HT2.out.below hb3)
       have HR3 := Lib.hid hr3
       have hs3 : w.heap.size + 1 < W3.heap.size := by have := hb3.size; omega
       obtain ⟨g, cap, rfl⟩ := ownsRow_succ (k := 0) hr3
       have c19 := HT3.out.cell (k := 19) rfl
       have c20 := HT3.out.cell (k := 20) rfl
       have c21 := HT3.out.cell (k := 21) rfl
       have g0 := own_cell hr3 (j := 0) rfl
       have g1 := own_cell hr3 (j := 1) rfl
       have g2 := own_cell hr3 (j := 2) rfl
       have g3 := own_cell hr3 (j := 3) rfl
       clear hr3 hb3)
    | (refine wpList_load_4 rfl _ rfl W1.heap.size tt rfl rfl HT3.out ?_)
    | (refine wpList_eql_aggG (T := 23) (by rfl) _ _ _ rfl guardA4 _ _ rfl rfl true (eql_a4 W3 [0, 2, 2, 1] [0, 2, 2, 1] rfl rfl) ?_)
    | (refine wpList_eql_aggG (T := 49) (by rfl) _ _ _ rfl guardStay _ _ rfl rfl true (eql_stay W3 0 0 4 1) ?_)
    | (go_at_call 13
       refine (t_crowd (w.heap.size + 1) 5 5 es0 W3 rfl (by decide) hs3 HE3.out).mono ?_
       rintro e W4 ⟨rfl, hb4⟩
       rw [crowd_es0]
       have HB4 := Lib.hid (ptrans HB1.out (ptrans HB2.out (ptrans HB3.out hb4)))
       have HR4 := Lib.hid (t_recs W4.heap.size (W4.alloc (.cells (recV 7).toArray 55)) (heap_alloc_new _ _))
       clear hb4)
    | (go_at_call 14
       refine (show Calls _ _ _ (W4.alloc (.cells (recV 7).toArray 55)) _ from ?_)
       refine HR4.out.mono ?_
       rintro e W5 ⟨rfl, hb5⟩
       have HB5 := Lib.hid ((HB4.out.alloc HB4.out.size (.cells (recV 7).toArray 55)).trans (hb5.mono (by have := HB4.out.size; simp; omega)))
       clear hb5)
    | (refine wpList_eql_aggG (T := 51) (by rfl) _ _ _ rfl guardA8 _ _ rfl rfl true (eql_a8 W5 [0, 0, 0, 0, 0, 0, 0, 1] [0, 0, 0, 0, 0, 0, 0, 1] rfl rfl) ?_)
    | (go_at_call 9
       refine (show Calls _ _ #[talV tb] _ _ from ?_)
       refine (t_line tb tb_tal W5 (hT.below HB5.out)).mono ?_
       rintro e W6 ⟨rfl, hb6⟩
       rw [line_tbV]
       have HB6 := Lib.hid (ptrans HB5.out hb6)
       clear hb6))
  go_ret
  exact ⟨rfl, HB6.out⟩
end Go.Proofs.YtenddeglhjmhcaaDoor
