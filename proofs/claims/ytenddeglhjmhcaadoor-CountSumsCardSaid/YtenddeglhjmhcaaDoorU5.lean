/- Events in rounds: the box of an event, what a round keeps. -/
import Derived.Test.YtenddeglhjmhcaaDoorU2
import Derived.Test.YtenddeglhjmhcaaDoorU4
namespace Go.Proofs.YtenddeglhjmhcaaDoor
open Go.RowKit Go.Shelf

/-- A struct in a block speaks of cells alone. -/
theorem cel_own {β : Type} (B : Nat) (T : TypeId) (f : β → Array Value) : Own (fun s W => W.heap[B]? = some (.cells (f s) T (0, 0))) := fun s X Y row hs hg hrow =>
  (hg.block B (Array.getElem?_eq_some_iff.1 hs).1 (fun e' => by obtain ⟨o, ho, hc⟩ := hrow B e'.symm; rw [hs] at ho; cases ho; cases hc)).trans hs
/-- Block B holds an event. -/
def EvBox (W : World) (B : Nat) (e : CEv) : Prop := W.heap[B]? = some (.cells e.cells.toArray 43 (0, 0))
section
variable {W : World} {B : Nat} {e : CEv}
theorem EvBox.core (h : EvBox W B e) : W.cell? ⟨B, 0, none⟩ = some (.int .i64 e.core) := by rw [cell_of h]; rfl
theorem EvBox.kind (h : EvBox W B e) : W.cell? ⟨B, 1, none⟩ = some (.int .u8 e.kind) := by rw [cell_of h]; rfl
theorem EvBox.act (h : EvBox W B e) : W.cell? ⟨B, 2, none⟩ = some (.int .u8 e.act) := by rw [cell_of h]; rfl
theorem EvBox.err (h : EvBox W B e) : W.cell? ⟨B, 9, none⟩ = some (.int .i64 e.err) := by rw [cell_of h]; rfl
theorem EvBox.lt (h : EvBox W B e) : B < W.heap.size := (Array.getElem?_eq_some_iff.1 h).1
theorem EvBox.below {W' : World} (h : EvBox W B e) (hb : Below W.heap.size W W') : EvBox W' B e := (hb.block B h.lt).trans h
theorem EvBox.kept {W' : World} {r : Nat} (h : EvBox W B e) (hg : W.grownBy W' (some r)) (hne : B ≠ r) : EvBox W' B e := (hg.block B h.lt fun e => hne (by injection e)).trans h
end
theorem KeepAt.of_grown {n₁ bt B : Nat} {W W' : World} (hg : W.grownBy W' (some B)) (h1 : n₁ ≤ B) (h2 : B ≠ bt) (h3 : n₁ ≤ W.heap.size) (h4 : bt < W.heap.size) : KeepAt n₁ bt W W' :=
  ⟨fun k hk => hg.block k (by omega) (fun e => by cases e; omega), hg.block bt h4 (fun e => by cases e; exact h2 rfl)⟩
theorem KeepAt.of_below {n₁ bt : Nat} {W W' : World} (hb : Below W.heap.size W W') (h3 : n₁ ≤ W.heap.size) (h4 : bt < W.heap.size) : KeepAt n₁ bt W W' :=
  ⟨fun k hk => hb.block k (by omega), hb.block bt h4⟩
theorem KeepsFrom.of_below {B : Nat} {W W' : World} (hb : Below W.heap.size W W') : KeepsFrom B W W' := ⟨hb.size, fun k _ _ h _ => (hb.block k (Array.getElem?_eq_some_iff.1 h).1).trans h⟩
theorem KeepsFrom.of_grown {B r : Nat} {W W' : World} (hg : W.grownBy W' (some r)) (h : r < B) : KeepsFrom B W W' := KeepsFrom.of_grownBy hg (fun j e => by cases e; exact h)
theorem placed_snd (es : List CEv) : (placed es).map (·.2) = es := by
  simp only [placed, List.map_map]
  exact List.ext_getElem? fun i => by simp; cases es[i]? <;> rfl
/-- A range's end: the deferred list is empty. -/
theorem take_own {T : TypeId} {W : World} {B D : Nat} {cs : Array Value} (h : W.heap[B]? = some (.cells cs T (0, 0))) (hD : W.heap[D]? = some (.deferred (some []))) : (W.putObj D (.deferred none)).heap[B]? = some (.cells cs T (0, 0)) :=
  (World.putObj_heap_other (fun e => by subst e; rw [h] at hD; cases hD)).trans h
theorem wpIn_load_cel {F : Fence} {n : Nat} {op : Oper} {a : Act} {w : World} {K : Act → World → Prop} {Q : Exit → Act → World → Prop} (ty : TypeId) (x : Operand) (ho : op.op = .load ty x)
    (b o : Nat) (hx : a.eval x = .pointer (some ⟨b, o, none⟩)) (cs : List Value) (d : TypeDesc) (hc : w.rangeAt b o cs)
    (hu : Tryd.prog.underlying ty = some d) (hd : d.isRow = true) (hi : (Tryd.prog.info? ty).map (·.size) = some cs.length)
    (h : K (a.put op.dst (.agg cs.toArray)) w) : op.wpIn F n Tryd.prog a w K Q := by
  have hl := run_loadAt_mid (P := Tryd.prog) w b o ty cs d hc hu hd hi
  unfold Oper.wpIn
  refine ⟨?_, ?_⟩
  · simp [Oper.about, ho]
  · rw [Oper.semAt_plain F _ _ (by rw [ho]; intro c hc'; cases hc')]
    simp only [execOp, ho, hx, Sem.run_bind, hl, Result.andThen_ok, Sem.run_pure]
    exact h
theorem wpIn_store_cel {F : Fence} {n : Nat} {op : Oper} {a : Act} {w : World} {K : Act → World → Prop} {Q : Exit → Act → World → Prop} (T : TypeId) (x y : Operand) (ho : op.op = .store T x y)
    (b m : Nat) (z cs : List Value) (hz : z.length = m) (hc : cs.length = m) (hi : (Tryd.prog.info? T).map (·.size) = some m) (h1 : ∀ v ∈ cs, v.oneCell' = true) (hx : a.eval x = .pointer (some ⟨b, 0, none⟩)) (hy : a.eval y = .agg cs.toArray) (hT : w.heap[b]? = some (.cells z.toArray T (0, 0)))
    (h : ∀ w', w'.heap[b]? = some (.cells cs.toArray T (0, 0)) → w.grownBy w' (some b) → K (a.put op.dst undef) w') : op.wpIn F n Tryd.prog a w K Q := by
  obtain ⟨g1, g2⟩ := cel_put hT hz hc
  have hl : cs.toArray.size = m := by simpa using hc
  have hrun := run_storeAt_mid (P := Tryd.prog) w b 0 T cs.toArray (by rw [hl]; exact cel_there hT hz) (by rw [hl]; exact hi) (all_oneCell_toArray h1)
  rw [List.toList_toArray] at hrun
  unfold Oper.wpIn
  refine ⟨?_, ?_⟩
  · simp [Oper.about, ho]
  · rw [Oper.semAt_plain F _ _ (by rw [ho]; intro c hc'; cases hc')]
    simp only [execOp, ho, hx, hy, Sem.run_bind, hrun, Result.andThen_ok, Sem.run_pure]
    exact h _ g1 g2
/-- What is stored as it lay. -/
theorem below_same {W W' : World} {b : Nat} {o : Obj} (h : W.heap[b]? = some o) (h' : W'.heap[b]? = some o) (hg : W.grownBy W' (some b)) : Below W.heap.size W W' :=
  ⟨hg.os, hg.tape, hg.output, hg.size, fun k hk => by
    by_cases e : k = b
    · subst e; exact h'.trans h.symm
    · exact hg.block k hk (fun h => by cases h; exact e rfl)⟩
theorem bel_grown {W W5 W7 : World} {r : Nat} (hb : Below W.heap.size W W5) (hg : W5.grownBy W7 (some r)) : W.grownBy W7 (some r) :=
  ⟨hg.os.trans hb.os, hg.tape.trans hb.tape, hg.output.trans hb.output, Nat.le_trans hb.size hg.size, fun k hk hne => (hg.block k (Nat.lt_of_lt_of_le hk hb.size) hne).trans (hb.block k hk)⟩
end Go.Proofs.YtenddeglhjmhcaaDoor
