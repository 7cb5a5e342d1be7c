/- Loads of tallies and their comparison, in a walk. -/
import Derived.Test.YtenddeglhjmhcaaDoorUG
namespace Go.Proofs.YtenddeglhjmhcaaDoor
open Go.RowKit

theorem infoA4 : (Tryd.prog.info? 23).map (·.size) = some 4 := by kernel_rfl
theorem tal4 {W : World} {b : Nat} {t : List Int} (h : TalB W b t) : W.rangeAt b 0 ((t.take 4).map intV) := fun j v hv => by
  refine h.range j v ?_
  have hj : j < 4 := by have := (List.getElem?_eq_some_iff.1 hv).1; rw [List.length_map, List.length_take] at this; omega
  rw [← hv, List.getElem?_map, List.getElem?_map, List.getElem?_take_of_lt hj]
theorem wpList_load_4 {ops : Array Oper} {rest : List Oper} {op : Oper} {a : Act} {w : World} {Q : Exit → Act → World → Prop} (hgd : op.guard = none) (x : Operand) (ho : op.op = .load 23 x)
    (b : Nat) (t : List Int) (ht : t.length = 22) (hx : a.eval x = .pointer (some ⟨b, 0, none⟩)) (hT : TalB w b t)
    (h : wpList Tryd.prog ops Q rest (a.put op.dst (.agg ((t.take 4).map intV).toArray)) w) : wpList Tryd.prog ops Q (op :: rest) a w :=
  wpList_load_mid hgd 23 x ho b 0 hx ((t.take 4).map intV) _ (tal4 hT) Tryd.underlying23 rfl (by rw [List.length_map, List.length_take, ht]; exact infoA4) h
theorem wpList_load_talG {ops : Array Oper} {rest : List Oper} {op : Oper} {a : Act} {w : World} {Q : Exit → Act → World → Prop} (hw : Region.wanted op (yielded ops a.tmps) = true) (x : Operand) (ho : op.op = .load 26 x)
    (b : Nat) (t : List Int) (ht : t.length = 22) (hx : a.eval x = .pointer (some ⟨b, 0, none⟩)) (hT : TalB w b t)
    (h : wpList Tryd.prog ops Q rest (a.put op.dst (talV t)) w) : wpList Tryd.prog ops Q (op :: rest) a w :=
  wpList_step fun K hK => by
    rw [if_pos hw]
    exact wp_load_mid 26 x ho b 0 hx (t.map intV) _ hT.range Tryd.underlying26 rfl (by rw [List.length_map, ht]; exact infoT) (hK _ _ h)
theorem guardT : Tryd.prog.eqGuardType Tryd.prog.depth 26 = false := by kernel_rfl
theorem wpList_eql_talG {ops : Array Oper} {rest : List Oper} {op : Oper} {a : Act} {w : World} {Q : Exit → Act → World → Prop} (hw : Region.wanted op (yielded ops a.tmps) = true) (x y : Operand) (u : TypeId) (ho : op.op = .binOp .eql 26 x y u)
    (X Y : List Int) (hx : a.eval x = talV X) (hy : a.eval y = talV Y) (r : Bool) (hr : (binOp .eql 26 (talV X) (talV Y)).run Tryd.prog w = .ok (.bool r) w)
    (h : wpList Tryd.prog ops Q rest (a.put op.dst (.bool r)) w) : wpList Tryd.prog ops Q (op :: rest) a w :=
  wpList_step fun K hK => by
    rw [if_pos hw]
    unfold Oper.wp execOp
    simp only [ho, hx, hy, Sem.run_bind, run_eqGuard_agg w .eql 26 x y (X.map intV).toArray (Y.map intV).toArray guardT, hr, Sem.run_pure, Result.andThen_ok]
    exact hK _ _ h
end Go.Proofs.YtenddeglhjmhcaaDoor
