/- Tallies are compared. -/
import Derived.Test.YtenddeglhjmhcaaDoorUE
import Derived.ChangeKeysEq
namespace Go.Proofs.YtenddeglhjmhcaaDoor
open Go.RowKit

theorem all_range_int : ∀ (xs ys : List Int), xs.length = ys.length → ((List.range xs.length).all fun i => xs.getD i 0 == ys.getD i 0) = (xs == ys)
  | [], [], _ => rfl
  | x :: xs, y :: ys, h => by
    have ih := all_range_int xs ys (by simpa using h)
    rw [List.length_cons, List.range_succ_eq_map, List.all_cons, List.all_map]
    simp only [List.getD_cons_zero, Function.comp_def, List.getD_cons_succ, ih]
    simp [List.cons_beq_cons]
  | [], _ :: _, h => by simp at h
  | _ :: _, [], h => by simp at h
theorem eq_ints (w : World) (d : Nat) (t : TypeId) (n : Nat) (ht : Tryd.prog.underlying t = some (.array n 3)) (xs ys : List Int) (hx : xs.length = n) (hy : ys.length = n) :
    (Op.equalIn (d + 2) t (.agg (xs.map intV).toArray) (.agg (ys.map intV).toArray)).run Tryd.prog w = .ok (xs == ys) w := by
  have he := Tryd.underlying3
  have hsz := Tryd.sizeOf3
  rw [← all_range_int xs ys (hx.trans hy.symm), hx, List.range_eq_range', Op.equalIn]
  simp only [Sem.run_bind, run_underlying ht, Result.andThen_ok, hsz, Std.Legacy.Range.forIn_eq_forIn_range', Std.Legacy.Range.size, Nat.sub_zero, Nat.add_sub_cancel, Nat.div_one]
  have hl : ∀ i ∈ List.range' 0 n 1, i < n := fun i hi => by simpa using (List.mem_range'_1.1 hi).2
  generalize List.range' 0 n 1 = l at hl ⊢
  induction l with
  | nil => simp
  | cons i l ih =>
    have hi : i < n := hl i (by simp)
    have px : (part 3 (xs.map intV).toArray (i * 1)).run Tryd.prog w = .ok (intV (xs.getD i 0)) w := by
      simp [part, isAgg, run_underlying he, List.getD, List.getElem?_eq_getElem (show i < xs.length by omega)]
    have py : (part 3 (ys.map intV).toArray (i * 1)).run Tryd.prog w = .ok (intV (ys.getD i 0)) w := by
      simp [part, isAgg, run_underlying he, List.getD, List.getElem?_eq_getElem (show i < ys.length by omega)]
    have pe : (Op.equalIn (d + 1) 3 (intV (xs.getD i 0)) (intV (ys.getD i 0))).run Tryd.prog w = .ok (xs.getD i 0 == ys.getD i 0) w := run_equalIn_int w d 3 .i64 .i64 _ _ he
    simp only [List.forIn_cons, Sem.run_bind, px, py, pe, Result.andThen_ok, List.all_cons]
    cases hb : (xs.getD i 0 == ys.getD i 0)
    · simp
    · simp only [Bool.not_true, Bool.false_eq_true, if_false, Sem.run_pure, Result.andThen_ok, Bool.true_and]
      exact ih fun j hj => hl j (by simp [hj])
theorem eql_a4 (w : World) (xs ys : List Int) (hx : xs.length = 4) (hy : ys.length = 4) : (binOp .eql 23 (.agg (xs.map intV).toArray) (.agg (ys.map intV).toArray)).run Tryd.prog w = .ok (.bool (xs == ys)) w := by
  rw [run_eql_struct, eq_ints w 9998 23 4 Tryd.underlying23 xs ys hx hy]
  rfl
theorem part_arr (w : World) (t : TypeId) (n : Nat) (ht : ∀ w, (isAgg t).run Tryd.prog w = .ok true w) (hs : ∀ w, (sizeOf t).run Tryd.prog w = .ok n w) (xs : List Int) (off : Nat) :
    (part t (xs.map intV).toArray off).run Tryd.prog w = .ok (.agg (((xs.drop off).take n).map intV).toArray) w := by
  unfold part
  simp only [Sem.run_bind, ht, hs, Result.andThen_ok, if_true, Sem.run_pure]
  congr 2
  simp [List.map_take, List.map_drop]
theorem part_int (w : World) (xs : List Int) (off : Nat) {x : Int} (h : xs[off]? = some x) : (part 3 (xs.map intV).toArray off).run Tryd.prog w = .ok (intV x) w := by
  unfold part
  simp [isAgg, run_underlying Tryd.underlying3, h]
theorem tal_split {x : List Int} (hx : x.length = 22) : ∃ a b, x[20]? = some a ∧ x[21]? = some b ∧ x = x.take 4 ++ ((x.drop 4).take 16 ++ [a, b]) := by
  obtain ⟨a, ha⟩ : ∃ a, x[20]? = some a := ⟨_, List.getElem?_eq_getElem (by omega)⟩
  obtain ⟨b, hb⟩ : ∃ b, x[21]? = some b := ⟨_, List.getElem?_eq_getElem (by omega)⟩
  refine ⟨a, b, ha, hb, ?_⟩
  have h1 : x.drop 20 = [a, b] := by
    rw [List.drop_eq_getElem_cons (by omega), List.drop_eq_getElem_cons (by omega), List.drop_of_length_le (by omega), (List.getElem?_eq_some_iff.1 ha).2, (List.getElem?_eq_some_iff.1 hb).2]
  rw [← h1, show x.drop 20 = (x.drop 4).drop 16 by rw [List.drop_drop], List.take_append_drop, List.take_append_drop]
theorem fields_tal : (Tryd.prog.fieldsOf 26).toList.map (fun f => (f.name, f.type, f.offset)) = [("Kinds", 23, 0), ("Calls", 24, 4), ("Good", 3, 20), ("Bad", 3, 21)] := by kernel_rfl
/-- Four fields are compared. -/
theorem eq_four (w : World) (d : Nat) (X Y : Array Value) (fs : List Field) (t1 t2 t3 t4 : TypeId) (o1 o2 o3 o4 : Nat) (n1 n2 n3 n4 : String) (h1 : n1 ≠ "_") (h2 : n2 ≠ "_") (h3 : n3 ≠ "_") (h4 : n4 ≠ "_")
    (hf : fs.map (fun f => (f.name, f.type, f.offset)) = [(n1, t1, o1), (n2, t2, o2), (n3, t3, o3), (n4, t4, o4)]) (X1 X2 X3 X4 Y1 Y2 Y3 Y4 : Value) (r1 r2 r3 r4 : Bool)
    (p1x : (part t1 X o1).run Tryd.prog w = .ok X1 w) (p1y : (part t1 Y o1).run Tryd.prog w = .ok Y1 w) (q1 : (Op.equalIn d t1 X1 Y1).run Tryd.prog w = .ok r1 w)
    (p2x : (part t2 X o2).run Tryd.prog w = .ok X2 w) (p2y : (part t2 Y o2).run Tryd.prog w = .ok Y2 w) (q2 : (Op.equalIn d t2 X2 Y2).run Tryd.prog w = .ok r2 w)
    (p3x : (part t3 X o3).run Tryd.prog w = .ok X3 w) (p3y : (part t3 Y o3).run Tryd.prog w = .ok Y3 w) (q3 : (Op.equalIn d t3 X3 Y3).run Tryd.prog w = .ok r3 w)
    (p4x : (part t4 X o4).run Tryd.prog w = .ok X4 w) (p4y : (part t4 Y o4).run Tryd.prog w = .ok Y4 w) (q4 : (Op.equalIn d t4 X4 Y4).run Tryd.prog w = .ok r4 w) :
    (Op.eqFields d X Y fs).run Tryd.prog w = .ok (r1 && (r2 && (r3 && r4))) w := by
  match fs, hf with
  | [f1, f2, f3, f4], hf =>
    simp only [List.map_cons, List.map_nil, List.cons.injEq, Prod.mk.injEq, and_true] at hf
    obtain ⟨⟨rfl, rfl, rfl⟩, ⟨rfl, rfl, rfl⟩, ⟨rfl, rfl, rfl⟩, ⟨rfl, rfl, rfl⟩⟩ := hf
    cases r1 <;> cases r2 <;> cases r3 <;> cases r4 <;> simp [Op.eqFields, Sem.run_bind, h1, h2, h3, h4, p1x, p1y, p2x, p2y, p3x, p3y, p4x, p4y, q1, q2, q3, q4]
theorem eq_tal_d (w : World) (d : Nat) (x y : List Int) (hx : x.length = 22) (hy : y.length = 22) : ∃ r : Bool, (Op.equalIn (d + 3) 26 (talV x) (talV y)).run Tryd.prog w = .ok r w ∧ (r = true ↔ x = y) := by
  obtain ⟨a, b, ha, hb, e1⟩ := tal_split hx
  obtain ⟨c, e, hc, he, e2⟩ := tal_split hy
  refine ⟨_, (run_equalIn_struct w (d + 2) 26 _ _ (by unfold Program.fieldsOf; rw [Tryd.underlying26]) (by kernel_rfl)).trans (eq_four w (d + 2) _ _ _ _ _ _ _ _ _ _ _ _ _ _ _ (by decide) (by decide) (by decide) (by decide) fields_tal _ _ _ _ _ _ _ _ _ _ _ _
    (part_arr w 23 4 Tryd.isAgg23 Tryd.sizeOf23 x 0) (part_arr w 23 4 Tryd.isAgg23 Tryd.sizeOf23 y 0) (eq_ints w d 23 4 Tryd.underlying23 _ _ (by simp [hx]) (by simp [hy]))
    (part_arr w 24 16 Tryd.isAgg24 Tryd.sizeOf24 x 4) (part_arr w 24 16 Tryd.isAgg24 Tryd.sizeOf24 y 4) (eq_ints w d 24 16 Tryd.underlying24 _ _ (by simp [hx]) (by simp [hy]))
    (part_int w x 20 ha) (part_int w y 20 hc) (run_equalIn_int w (d + 1) 3 .i64 .i64 _ _ Tryd.underlying3)
    (part_int w x 21 hb) (part_int w y 21 he) (run_equalIn_int w (d + 1) 3 .i64 .i64 _ _ Tryd.underlying3)), ?_⟩
  simp only [Bool.and_eq_true, beq_iff_eq, List.drop_zero]
  refine ⟨fun ⟨h1, h2, h3, h4⟩ => by rw [e1, e2, h1, h2, h3, h4], fun h => ?_⟩
  subst h
  rw [ha] at hc
  rw [hb] at he
  cases hc
  cases he
  exact ⟨rfl, rfl, rfl, rfl⟩
theorem eql_tal (w : World) (x y : List Int) (hx : x.length = 22) (hy : y.length = 22) : ∃ r : Bool, (binOp .eql 26 (talV x) (talV y)).run Tryd.prog w = .ok (.bool r) w ∧ (r = true ↔ x = y) := by
  obtain ⟨r, h1, h2⟩ := eq_tal_d w 9997 x y hx hy
  refine ⟨r, ?_, h2⟩
  rw [run_eql_struct]
  have h3 : (Op.equalIn 10000 26 (talV x) (talV y)).run Tryd.prog w = .ok r w := h1
  rw [h3]
  rfl
theorem eq_in4 (w : World) (x y : List Int) (hx : x.length = 22) (hy : y.length = 22) : (Op.equalIn 10000 23 (.agg ((x.map intV).take 4).toArray) (.agg ((y.map intV).take 4).toArray)).run Tryd.prog w = .ok (x.take 4 == y.take 4) w := by
  have h := eq_ints w 9998 23 4 Tryd.underlying23 (x.take 4) (y.take 4) (by simp [hx]) (by simp [hy])
  rw [List.map_take, List.map_take] at h
  exact h
theorem eq_inT (w : World) (x y : List Int) (hx : x.length = 22) (hy : y.length = 22) : ∃ r : Bool, (Op.equalIn 10000 26 (talV x) (talV y)).run Tryd.prog w = .ok r w ∧ (r = true ↔ x = y) := eq_tal_d w 9997 x y hx hy
end Go.Proofs.YtenddeglhjmhcaaDoor
