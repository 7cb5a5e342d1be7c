/- Rows of one-cell values of the call's own: appended to, read. -/
import Derived.Test.YtenddeglhjmhcaaDoorUA
import Derived.Test.YtenddeglhjmhcaaDoorOR
import Derived.Maps.AppendAt
import Derived.Deep.MidRow
import Derived.Below
namespace Go.Proofs.YtenddeglhjmhcaaDoor
open Go.RowKit

/-- A slice's type and its element's, of one cell. -/
structure ElemOf (s e : TypeId) (z : Value) : Prop where
  und : Tryd.prog.underlying s = some (.slice e)
  info : ∃ b, b ≤ 32 ∧ (Tryd.prog.info? e).map (fun i => (i.zero, i.size, i.bytes)) = some (some z, 1, b)
  zero : z.cells.size = 1
theorem run_append_v {s e : TypeId} {z : Value} (E : ElemOf s e z) (base ty : Nat) (w : World) (v : Value) (l : List Value) (n : Nat) (hn : l.length = n) (hown : w.ownsRow base e 1 v n l) (q : Nat) (x : Value) (h1 : x.oneCell' = true) (hq : w.heap[q]? = some (.cells #[x] e (0, 0)))
    (hl : n ≤ 100000) (hbase : base ≤ w.heap.size) :
    ∃ v' w', (Builtin.append_ #[s, s] ty #[v, .slice (some ⟨q, 0, none⟩) 1 1]).run Tryd.prog w = .ok v' w' ∧ w'.ownsRow base e 1 v' (n + 1) (l ++ [x]) ∧ w.grownBy w' v.ownBlock := by
  subst hn
  obtain ⟨b, hb, hm⟩ := E.info
  obtain ⟨i0, hi, he⟩ := Option.map_eq_some_iff.1 hm
  simp only [Prod.mk.injEq] at he
  obtain ⟨hz0, hz1, hz2⟩ := he
  obtain ⟨v', w', hrun, h2, h3, _, _⟩ := run_append_own_at (P := Tryd.prog) w base s ty e i0 _ 1 b E.und hi hz0 hz1 hz2 E.zero (by decide) v l.length l hown ⟨q, 0, none⟩ 1 1 [x]
    rfl (fun j u hu => by
      rw [Addr.add_mid, Nat.zero_add]
      simp only [World.cell?, hq]
      simpa using hu) (by simpa using h1) (by unfold maxLen; omega) (by have := Nat.mul_le_mul (show l.length + 1 ≤ 100001 by omega) hb; omega) hbase
  exact ⟨v', w', hrun, h2, h3⟩
theorem slice_of_row {w : World} {base size n : Nat} {e : TypeId} {v : Value} {xs : List Value} (h : w.ownsRow base e size v n xs) : ∃ A c, v = .slice A n c := by
  rcases h.2 with ⟨rfl, h0⟩ | ⟨g, cap, cur, rfl, _⟩
  · exact ⟨none, 0, by rw [show n = 0 by have := h.1; omega]⟩
  · exact ⟨_, _, rfl⟩
theorem wpList_append_v {ops : Array Oper} {rest : List Oper} {o : Oper} {a : Act} {Q : Exit → Act → World → Prop} {w : World} {ts te : TypeId} {z : Value} (E : ElemOf ts te z) (hgd : o.guard = none) (s x : Operand)
    (ho : o.op = .call { callee := .builtin .append, args := #[s, x], argTypes := #[ts, ts] })
    (base : Nat) (v : Value) (l : List Value) (n k : Nat) (hn : l.length = n) (hk : n + 1 = k) (hs : a.eval s = v) (hown : w.ownsRow base te 1 v n l) (q : Nat) (p : Value) (h1 : p.oneCell' = true) (hx : a.eval x = .slice (some ⟨q, 0, none⟩) 1 1)
    (hq : w.heap[q]? = some (.cells #[p] te (0, 0))) (hl : n ≤ 100000) (hbase : base ≤ w.heap.size)
    (h : ∀ A1 c1 w', w'.ownsRow base te 1 (.slice A1 k c1) k (l ++ [p]) → w.grownBy w' v.ownBlock → wpList Tryd.prog ops Q rest (a.put o.dst (.slice A1 k c1)) w') : wpList Tryd.prog ops Q (o :: rest) a w :=
  wpList_plain hgd fun _ hK => by
    subst hk
    obtain ⟨v', w', hrun, h2, h3⟩ := run_append_v E base o.type w v l n hn hown q p h1 hq hl hbase
    unfold Oper.wp execOp
    simp only [ho, resolve, invoke, builtin, Sem.run_bind, Sem.run_pure, Result.andThen_ok, List.map_toArray, List.map_cons, List.map_nil, hs, hx, hrun]
    obtain ⟨A1, c1, rfl⟩ := slice_of_row h2
    exact hK _ _ (h A1 c1 w' h2 h3)
theorem row_geV {w : World} {base n size : Nat} {e : TypeId} {v : Value} {xs : List Value} (h : w.ownsRow base e size v n xs) : ∀ q, v.ownBlock = some q → base ≤ q := fun q hq => by
  rcases h.2 with ⟨rfl, _⟩ | ⟨g, cap, cur, rfl, hb, _⟩
  · simp [Value.ownBlock] at hq
  · simp [Value.ownBlock] at hq; omega
theorem grow_below {w W W' : World} {o : Obj} {v : Value} {n size : Nat} {e : TypeId} {xs : List Value} (h : Below w.heap.size w W) (hr : (W.alloc o).ownsRow w.heap.size e size v n xs) (hg : (W.alloc o).grownBy W' v.ownBlock) : Below w.heap.size w W' := by
  have h2 : Below w.heap.size w (W.alloc o) := h.alloc h.size _
  refine ⟨hg.os.trans h2.os, hg.tape.trans h2.tape, hg.output.trans h2.output, Nat.le_trans h2.size hg.size, fun b hb => (hg.block b (Nat.lt_of_lt_of_le hb h2.size) fun e => ?_).trans (h2.block b hb)⟩
  have := row_geV hr b e.symm
  omega
/-- A row of the call's own. -/
def VR (e : TypeId) (w W : World) (v : Value) (l : List Value) : Prop := W.ownsRow w.heap.size e 1 v l.length l ∧ Below w.heap.size w W
theorem VR.nil (e : TypeId) (w : World) : VR e w w (.slice none 0 0) [] := ⟨⟨rfl, .inl ⟨rfl, rfl⟩⟩, Below.refl _ _⟩
theorem VR.later {e : TypeId} {w W W' : World} {v : Value} {l : List Value} (h : VR e w W v l) (hb : Below W.heap.size W W') : VR e w W' v l :=
  ⟨h.1.kept (row := none) ⟨hb.os, hb.tape, hb.output, hb.size, fun k hk _ => hb.block k hk⟩ (by cases hv : v.ownBlock with | none => exact .inl rfl | some x => exact .inr (by simp)), ptrans h.2 hb⟩
theorem VR.mono {e : TypeId} {w w1 W : World} {v : Value} {l : List Value} (h : VR e w1 W v l) (hb : Below w.heap.size w w1) : VR e w W v l := by
  obtain ⟨⟨h1, h2⟩, h3⟩ := h
  refine ⟨⟨h1, ?_⟩, ptrans hb h3⟩
  rcases h2 with h | ⟨g, cap, cur, a, c, r⟩
  · exact .inl h
  · exact .inr ⟨g, cap, cur, a, Nat.le_trans hb.size c, r⟩
/-- A row of values that is read. -/
def VRead (w : World) (A : Option Addr) (l : List Value) : Prop := l ≠ [] → ∃ b o, A = some ⟨b, o, none⟩ ∧ b < w.heap.size ∧ ∀ (k : Nat) (x : Value), l[k]? = some x → w.cell? ⟨b, o + k, none⟩ = some x
theorem VRead.below {w w' : World} {A : Option Addr} {l : List Value} (h : VRead w A l) (hb : Below w.heap.size w w') : VRead w' A l := fun hn => by
  obtain ⟨b, o, h1, h2, h3⟩ := h hn
  exact ⟨b, o, h1, Nat.lt_of_lt_of_le h2 hb.size, fun k x hk => (World.cell?_of_block (a := ⟨b, _, none⟩) (hb.block b h2)).trans (h3 k x hk)⟩
theorem VRead.get {w : World} {A : Option Addr} {l : List Value} (h : VRead w A l) {k : Nat} {x : Value} (hk : l[k]? = some x) : ∃ b o, A = some ⟨b, o, none⟩ ∧ b < w.heap.size ∧ ∀ W, Below w.heap.size w W → W.cell? ⟨b, o + k, none⟩ = some x := by
  obtain ⟨b, o, h1, h2, h3⟩ := h (fun e => by rw [e] at hk; simp at hk)
  exact ⟨b, o, h1, h2, fun W hW => (World.cell?_of_block (a := ⟨b, _, none⟩) (hW.block b h2)).trans (h3 k x hk)⟩
theorem VR.reads {e : TypeId} {w W : World} {v : Value} {l : List Value} (h : VR e w W v l) : ∃ A c, v = .slice A l.length c ∧ l.length ≤ c ∧ VRead W A l := by
  rcases h.1.2 with ⟨rfl, h0⟩ | ⟨g, cap, cur, rfl, _, hg, hc1, hc2, hc3, hc4⟩
  · have hl : l = [] := List.eq_nil_of_length_eq_zero h0
    subst hl
    exact ⟨none, 0, rfl, Nat.le_refl _, fun e => absurd rfl e⟩
  · refine ⟨_, _, rfl, hc1, fun _ => ⟨g, 0, rfl, (Array.getElem?_eq_some_iff.1 hg).1, fun k x hk => ?_⟩⟩
    have hk2 := hk
    rw [← hc4, List.getElem?_take_of_lt (by have := (List.getElem?_eq_some_iff.1 hk).1; omega)] at hk2
    simp only [World.cell?, hg, Nat.zero_add]
    simpa using hk2
end Go.Proofs.YtenddeglhjmhcaaDoor
