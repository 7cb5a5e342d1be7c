/- count.rows: a history, gone over. -/
import Derived.Test.YtenddeglhjmhcaaDoorUX
import Derived.RangeFuncNested
import Derived.RangeFuncBound
import Derived.RangeFuncLeaves
import Derived.RangeFuncBox
import Derived.RangeFuncFrom
import Derived.Shelf.Abstract
import Derived.Shelf.RegionOpen
import Derived.OwnWalkIn
import Derived.TacticsInMore
import Derived.LoopNIn
import Derived.LoopIn
namespace Go.Proofs.YtenddeglhjmhcaaDoor
open Go.RowKit Go.Shelf

attribute [local go_sem] Oper.semAt_some
/-- An event: what figures look at. -/
structure CEv where
  core : Int
  kind : Nat
  act : Nat
  err : Int
  hk : kind ≤ 255
  ha : act ≤ 255
def CEv.cells (e : CEv) : List Value := [.int .i64 e.core, .int .u8 (e.kind : Int), .int .u8 (e.act : Int), .string ⟨#[]⟩, .string ⟨#[]⟩, .int .i64 0, .int .i64 0, .int .u32 0, .string ⟨#[]⟩, .int .i64 e.err, .int .i64 0, .int .u32 0, .int .u32 0, .int .u8 0, .int .i64 0, .int .u32 0, .slice none 0 0, .string ⟨#[]⟩]
/-- Events in a block. -/
def CEvs (W : World) (b : Nat) (l : List CEv) : Prop := ∀ (k : Nat) (e : CEv), l[k]? = some e → W.rangeAt b (k * 18) e.cells
theorem t_rows (A : Option Addr) (n c : Nat) (w : World) :
    Calls Tryd.prog 20 #[.slice A n c] w fun e w' => e = .returned (.func (.func 28) #[] #[.pointer (some ⟨w.heap.size, 0, none⟩)]) ∧ w' = w.alloc (.cells #[.slice A n c] 44) := by
  go_enter Tryd.func20, Tryd.ntmps20
  go_wp2
  go_ret
  exact ⟨rfl, rfl⟩
theorem wpListIn_load_mid {F : Fence} {n : Nat} {ops : Array Oper} {rest : List Oper} {op : Oper} {a : Act} {w : World} {Q : Exit → Act → World → Prop} (hgd : op.guard = none) (ty : TypeId) (x : Operand) (ho : op.op = .load ty x)
    (b o : Nat) (hx : a.eval x = .pointer (some ⟨b, o, none⟩)) (cs : List Value) (d : TypeDesc) (hc : w.rangeAt b o cs)
    (hu : Tryd.prog.underlying ty = some d) (hd : d.isRow = true) (hi : (Tryd.prog.info? ty).map (·.size) = some cs.length)
    (h : wpListIn F n Tryd.prog ops Q rest (a.put op.dst (.agg cs.toArray)) w) : wpListIn F n Tryd.prog ops Q (op :: rest) a w := by
  refine wpListIn_plain hgd fun K hK => ?_
  have hl := run_loadAt_mid (P := Tryd.prog) w b o ty cs d hc hu hd hi
  unfold Oper.wpIn
  refine ⟨?_, ?_⟩
  · simp [Oper.about, ho]
  · rw [Oper.semAt_plain F _ _ (by rw [ho]; intro c hc'; cases hc')]
    simp only [execOp, ho, hx, Sem.run_bind, hl, Result.andThen_ok, Sem.run_pure]
    exact hK _ _ h
theorem wpListIn_store_cel {F : Fence} {n : Nat} {ops : Array Oper} {rest : List Oper} {op : Oper} {a : Act} {w : World} {Q : Exit → Act → World → Prop} (hgd : op.guard = none) (T : TypeId) (x y : Operand) (ho : op.op = .store T x y)
    (b m : Nat) (z cs : List Value) (hz : z.length = m) (hc : cs.length = m) (hi : (Tryd.prog.info? T).map (·.size) = some m) (h1 : ∀ v ∈ cs, v.oneCell' = true) (hx : a.eval x = .pointer (some ⟨b, 0, none⟩)) (hy : a.eval y = .agg cs.toArray) (hT : w.heap[b]? = some (.cells z.toArray T (0, 0)))
    (h : ∀ w', w'.heap[b]? = some (.cells cs.toArray T (0, 0)) → w.grownBy w' (some b) → wpListIn F n Tryd.prog ops Q rest (a.put op.dst undef) w') : wpListIn F n Tryd.prog ops Q (op :: rest) a w := by
  obtain ⟨g1, g2⟩ := cel_put hT hz hc
  have hl : cs.toArray.size = m := by simpa using hc
  have hrun := run_storeAt_mid (P := Tryd.prog) w b 0 T cs.toArray (by rw [hl]; exact cel_there hT hz) (by rw [hl]; exact hi) (all_oneCell_toArray h1)
  rw [List.toList_toArray] at hrun
  refine wpListIn_plain hgd fun K hK => ?_
  unfold Oper.wpIn
  refine ⟨?_, ?_⟩
  · simp [Oper.about, ho]
  · rw [Oper.semAt_plain F _ _ (by rw [ho]; intro c hc'; cases hc')]
    simp only [execOp, ho, hx, hy, Sem.run_bind, hrun, Result.andThen_ok, Sem.run_pure]
    exact hK _ _ (h _ g1 g2)
end Go.Proofs.YtenddeglhjmhcaaDoor
