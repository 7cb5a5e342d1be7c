/- count.more; count.Recs of one record. -/
import Derived.Test.YtenddeglhjmhcaaDoorUI
namespace Go.Proofs.YtenddeglhjmhcaaDoor
open Go.RowKit

set_option maxRecDepth 100000 in
theorem t_more (T : TypeId) (B : Nat) (t : List Int) (o n c : Nat) (k : Nat) (hk : k ≤ 255) (i : Nat) (hi : i = if k < n then k else 0) (x : Int) (hx : t[o + i]? = some x) (hn : 0 < n) (_hn2 : n ≤ 1000) (w : World) (hT : ArrB T w B t) :
    Calls Tryd.prog 21 #[.slice (some ⟨B, o, none⟩) n c, .int .u8 (k : Int)] w fun e w' => e = .returned (.tuple #[]) ∧ ArrB T w' B (t.set (o + i) (wrap64 (x + 1))) ∧ w.grownBy w' (some B) := by
  have HT := Lib.hid hT
  have c1 := hT.cell hx
  have f1 := hT.froz (o + i)
  clear hT hx
  by_cases h : k < n
  · rw [if_pos h] at hi
    subst hi
    have hni : ¬ (n : Int) ≤ (i : Int) := by omega
    go_enter Tryd.func21, Tryd.ntmps21
    go_wp2
    go_end0
    exact ⟨rfl, HT.out.set _ _, pgrown_set _ _ _ _⟩
  · rw [if_neg h] at hi
    subst hi
    have hni : (n : Int) ≤ (k : Int) := by omega
    rw [Nat.add_zero] at c1 f1 ⊢
    go_enter Tryd.func21, Tryd.ntmps21
    go_wp2
    go_end0
    exact ⟨rfl, HT.out.set _ _, pgrown_set _ _ _ _⟩
/-- A struct in a block: stored over another one. -/
theorem cel_there {T : TypeId} {W : World} {b n : Nat} {z : List Value} (h : W.heap[b]? = some (.cells z.toArray T (0, 0))) (hz : z.length = n) : W.there b 0 n := fun j hj => by
  obtain ⟨x, hx⟩ : ∃ x, z[j]? = some x := ⟨_, List.getElem?_eq_getElem (by rw [hz]; exact hj)⟩
  refine ⟨?_, ?_⟩
  · rw [Nat.zero_add, cell_of h, List.getElem?_toArray, hx]
    rfl
  · simp [World.frozen?, h]
theorem cel_put {T : TypeId} {W : World} {b n : Nat} {z cs : List Value} (h : W.heap[b]? = some (.cells z.toArray T (0, 0))) (hz : z.length = n) (hc : cs.length = n) : (W.setCells b 0 cs).heap[b]? = some (.cells cs.toArray T (0, 0)) ∧ W.grownBy (W.setCells b 0 cs) (some b) := by
  have hth : W.there b 0 cs.length := by rw [hc]; exact cel_there h hz
  refine ⟨?_, grown_setCells b _ 0 _⟩
  obtain ⟨cs', g1, g2⟩ := setCells_form b T (0, 0) cs 0 _ _ h
  have hr := World.rangeAt_setCells_same W b 0 cs hth
  have hcs : cs' = cs.toArray := ?_
  · rw [g1, hcs]
  apply Array.ext_getElem?
  intro j
  by_cases hj : j < cs.length
  · have hv : cs[j]? = some (cs[j]'hj) := List.getElem?_eq_getElem _
    have := hr j _ hv
    simp only [World.cell?, g1, Nat.zero_add] at this
    have e2 : cs.toArray[j]? = some (cs[j]'hj) := by simp only [List.getElem?_toArray]; exact hv
    rw [e2]
    simpa using this
  · rw [hc] at hj
    rw [Array.getElem?_eq_none (by rw [g2]; simp [hz]; omega), Array.getElem?_eq_none (by simp [hc]; omega)]
/-- A struct is stored into a block of its own. -/
theorem wpList_store_cel {ops : Array Oper} {rest : List Oper} {op : Oper} {a : Act} {w : World} {Q : Exit → Act → World → Prop} (hgd : op.guard = none) (T : TypeId) (x y : Operand) (ho : op.op = .store T x y)
    (b n : Nat) (z cs : List Value) (hz : z.length = n) (hc : cs.length = n) (hi : (Tryd.prog.info? T).map (·.size) = some n) (h1 : ∀ v ∈ cs, v.oneCell' = true) (hx : a.eval x = .pointer (some ⟨b, 0, none⟩)) (hy : a.eval y = .agg cs.toArray) (hT : w.heap[b]? = some (.cells z.toArray T (0, 0)))
    (h : ∀ w', w'.heap[b]? = some (.cells cs.toArray T (0, 0)) → w.grownBy w' (some b) → wpList Tryd.prog ops Q rest (a.put op.dst undef) w') : wpList Tryd.prog ops Q (op :: rest) a w := by
  obtain ⟨g1, g2⟩ := cel_put hT hz hc
  have hl : cs.toArray.size = n := by simpa using hc
  refine wpList_store_mid hgd T x y ho b 0 cs.toArray hx hy (by rw [hl]; exact cel_there hT hz) (by rw [hl]; exact hi) (all_oneCell_toArray h1) ?_
  rw [List.toList_toArray]
  exact h _ g1 g2
theorem cel_range {T : TypeId} {W : World} {b : Nat} {cs : List Value} (h : W.heap[b]? = some (.cells cs.toArray T (0, 0))) : W.rangeAt b 0 cs := fun j v hv => by
  rw [Nat.zero_add, cell_of h]
  simpa using hv
end Go.Proofs.YtenddeglhjmhcaaDoor
