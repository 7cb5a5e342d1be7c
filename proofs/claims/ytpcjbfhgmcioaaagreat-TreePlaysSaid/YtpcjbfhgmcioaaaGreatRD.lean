/- The program's tree: what it is, and how it lies in memory. -/
import Derived.Test.YtpcjbfhgmcioaaaGreatRC
namespace Go.Proofs.YtpcjbfhgmcioaaaGreat
open Go.RowKit Go.Maps

/-- An inode. -/
structure PN where
  kind : Int
  links : Int
  size : Int
  l : List UInt8 → Option Int
  pages : Int → Option (List UInt8)
  held : Int
  up : Int
/-- A tree. -/
structure PT where
  room : Int
  n : Int → Option PN
def PT.set (t : PT) (i : Int) (x : PN) : PT := { t with n := fun j => if j = i then some x else t.n j }
def PT.del (t : PT) (i : Int) : PT := { t with n := fun j => if j = i then none else t.n j }

def entsM (l : List UInt8 → Option Int) : Lit → Option Value
  | .string s => (l s).map (Value.int .u32)
  | _ => none
def pageV (b : List UInt8) : Value := .agg (b.map fun c => Value.int .u8 (c.toNat : Int)).toArray
def pagesM (p : Int → Option (List UInt8)) : Lit → Option Value
  | .int .i64 k => (p k).map pageV
  | _ => none
def nodesM (n : Int → Option PN) (f : Int → Nat) : Lit → Option Value
  | .int .u32 i => (n i).map fun _ => .pointer (some ⟨f i, 0, none⟩)
  | _ => none

/-- An inode's three blocks. -/
structure NodeM (w : World) (Q L G N : Nat) (x : PN) : Prop where
  cells : w.heap[Q]? = some (.cells #[.int .u8 x.kind, .int .i64 x.links, .int .u32 x.size, .map (some L), .map (some G), .int .i64 x.held, .int .u32 x.up] 81 (0, 0))
  ents : MapAt w Tryz.prog 9 L N (entsM x.l)
  pages : MapAt w Tryz.prog 3 G N (pagesM x.pages)
/-- Where the blocks lie, and whose each is. -/
structure Lay where
  M : Nat
  f : Int → Nat
  L : Int → Nat
  G : Int → Nat
  own : Nat → Int
/-- A tree, within the blocks F; no map of it has more than N entries. -/
structure TreeM (w : World) (F : Nat → Prop) (P N : Nat) (y : Lay) (t : PT) : Prop where
  head : w.heap[P]? = some (.cells #[.int .u32 t.room, .map (some y.M)] 68 (0, 0))
  nodes : MapAt w Tryz.prog 23 y.M N (nodesM t.n y.f)
  node : ∀ i x, t.n i = some x → NodeM w (y.f i) (y.L i) (y.G i) N x
  pos : ∀ i x, t.n i = some x → 1 ≤ i ∧ i ≤ 4294967295
  own : ∀ i x, t.n i = some x → y.own (y.f i) = i ∧ y.own (y.L i) = i ∧ y.own (y.G i) = i ∧ y.L i ≠ y.G i
  ownM : y.own y.M = 0
  ownP : y.own P = 0
  fP : F P
  fM : F y.M
  foot : ∀ i x, t.n i = some x → F (y.f i) ∧ F (y.L i) ∧ F (y.G i)
  lt : ∀ b, F b → b < w.heap.size

theorem MapAt.below {w w' : World} {P : Program} {k : TypeId} {b n : Nat} {m : Lit → Option Value} (h : MapAt w P k b n m) (hb : Below w.heap.size w w') : MapAt w' P k b n m := h.same (hb.block b h.lt)

section
variable {w w' : World} {F F' : Nat → Prop} {P N N' : Nat} {y : Lay} {t : PT} {i : Int} {x : PN}

theorem NodeM.same {Q L G : Nat} (h : NodeM w Q L G N x) (h1 : w'.heap[Q]? = w.heap[Q]?) (h2 : w'.heap[L]? = w.heap[L]?) (h3 : w'.heap[G]? = w.heap[G]?) : NodeM w' Q L G N x :=
  ⟨h1.trans h.cells, h.ents.same h2, h.pages.same h3⟩
theorem NodeM.mono {Q L G : Nat} (h : NodeM w Q L G N x) (hN : N ≤ N') : NodeM w Q L G N' x := ⟨h.cells, h.ents.mono hN, h.pages.mono hN⟩
theorem NodeM.ltQ {Q L G : Nat} (h : NodeM w Q L G N x) : Q < w.heap.size := (Array.getElem?_eq_some_iff.1 h.cells).1
theorem NodeM.cell {Q L G : Nat} (h : NodeM w Q L G N x) (j : Nat) : w.cell? ⟨Q, j, none⟩ = (#[Value.int .u8 x.kind, .int .i64 x.links, .int .u32 x.size, .map (some L), .map (some G), .int .i64 x.held, .int .u32 x.up])[j]? := by
  simp [World.cell?, h.cells]
theorem NodeM.frozen {Q L G : Nat} (h : NodeM w Q L G N x) (j : Nat) : w.frozen? ⟨Q, j, none⟩ = false := by simp [World.frozen?, h.cells]
theorem TreeM.c0 (h : TreeM w F P N y t) : w.cell? ⟨P, 0, none⟩ = some (.int .u32 t.room) := by simp [World.cell?, h.head]
theorem TreeM.c1 (h : TreeM w F P N y t) : w.cell? ⟨P, 1, none⟩ = some (.map (some y.M)) := by simp [World.cell?, h.head]
theorem TreeM.ltP (h : TreeM w F P N y t) : P < w.heap.size := (Array.getElem?_eq_some_iff.1 h.head).1
theorem TreeM.mono (h : TreeM w F P N y t) (hN : N ≤ N') : TreeM w F P N' y t :=
  { h with nodes := h.nodes.mono hN, node := fun i x hx => (h.node i x hx).mono hN }
/-- All the tree's blocks are as they were. -/
theorem TreeM.same (h : TreeM w F P N y t) (hb : ∀ b, F b → w'.heap[b]? = w.heap[b]?) (hs : w.heap.size ≤ w'.heap.size) : TreeM w' F P N y t :=
  { h with
    head := (hb P h.fP).trans h.head
    nodes := h.nodes.same (hb _ h.fM)
    node := fun i x hx => by
      obtain ⟨f1, f2, f3⟩ := h.foot i x hx
      exact (h.node i x hx).same (hb _ f1) (hb _ f2) (hb _ f3)
    lt := fun b hF => Nat.lt_of_lt_of_le (h.lt b hF) hs }
theorem TreeM.below (h : TreeM w F P N y t) (hb : Below w.heap.size w w') : TreeM w' F P N y t := h.same (fun b hF => hb.block b (h.lt b hF)) hb.size
theorem TreeM.wider (h : TreeM w F P N y t) (hF : ∀ b, F b → F' b) (hl : ∀ b, F' b → b < w.heap.size) : TreeM w F' P N y t :=
  { h with
    fP := hF _ h.fP
    fM := hF _ h.fM
    foot := fun i x hx => ⟨hF _ (h.foot i x hx).1, hF _ (h.foot i x hx).2.1, hF _ (h.foot i x hx).2.2⟩
    lt := hl }

theorem pkey32 (h : 0 ≤ i ∧ i ≤ 4294967295) : keyOf Tryz.prog 23 (.int .u32 i) = some (.int .u32 i) :=
  keyOf_int_mk Tryz.underlying23 (by simp [Lit.wf, IntKind.min, IntKind.max, IntKind.signed, IntKind.bits]; omega)
theorem pkey64 {k : Int} (h : -9223372036854775808 ≤ k ∧ k ≤ 9223372036854775807) : keyOf Tryz.prog 3 (.int .i64 k) = some (.int .i64 k) :=
  keyOf_int_mk Tryz.underlying3 (by simp [Lit.wf, IntKind.min, IntKind.max, IntKind.signed, IntKind.bits]; omega)
theorem pkeyS {s : ByteArray} (h : s.size ≤ maxLen) : keyOf Tryz.prog 9 (.string s) = some (.string s.data.toList) := _root_.Go.WideMaps.keyOf_string_mk Tryz.underlying9 h
theorem law32 : Keyed Tryz.prog 23 := int_keyed Tryz.underlying23
theorem law64 : Keyed Tryz.prog 3 := int_keyed Tryz.underlying3
theorem lawS : Keyed Tryz.prog 9 := string_keyed Tryz.underlying9
theorem zeroN (w : World) : (zeroValue 69).run Tryz.prog w = .ok (.pointer none) w := by kernel_rfl
theorem zero32 (w : World) : (zeroValue 23).run Tryz.prog w = .ok (.int .u32 0) w := by kernel_rfl

/-- t.n[i]. -/
theorem TreeM.look (h : TreeM w F P N y t) (hi : 0 ≤ i ∧ i ≤ 4294967295) :
    (Instr.lookup 66 (.map (some y.M)) (.int .u32 i) false).run Tryz.prog w = .ok (((t.n i).map fun _ => Value.pointer (some ⟨y.f i, 0, none⟩)).getD (.pointer none)) w :=
  h.nodes.look law32 Tryz.underlying66 (zeroN w) (pkey32 hi)
theorem TreeM.look_some (h : TreeM w F P N y t) (hx : t.n i = some x) :
    (Instr.lookup 66 (.map (some y.M)) (.int .u32 i) false).run Tryz.prog w = .ok (.pointer (some ⟨y.f i, 0, none⟩)) w := by
  have hp := h.pos i x hx
  have := h.look (i := i) ⟨by omega, hp.2⟩
  rw [hx] at this
  exact this
theorem TreeM.look_none (h : TreeM w F P N y t) (hi : 0 ≤ i ∧ i ≤ 4294967295) (hx : t.n i = none) :
    (Instr.lookup 66 (.map (some y.M)) (.int .u32 i) false).run Tryz.prog w = .ok (.pointer none) w := by
  have := h.look (i := i) hi
  rw [hx] at this
  exact this
/-- n.l[s]. -/
theorem NodeM.look {Q L G : Nat} (h : NodeM w Q L G N x) {s : ByteArray} (hs : s.size ≤ maxLen) :
    (Instr.lookup 78 (.map (some L)) (.string s) false).run Tryz.prog w = .ok (.int .u32 ((x.l s.data.toList).getD 0)) w := by
  have := h.ents.look lawS Tryz.underlying78 (zero32 w) (pkeyS hs)
  rw [this]
  cases hx : x.l s.data.toList with
  | none => simp [entsM, hx]
  | some v => simp [entsM, hx]

/-- An inode has turned, in its own blocks. -/
theorem TreeM.setNode (h : TreeM w F P N y t) (hN : N ≤ N') (hx : t.n i = some x) {x' : PN} (hn : NodeM w' (y.f i) (y.L i) (y.G i) N' x')
    (hb : ∀ b, F b → b ≠ y.f i → b ≠ y.L i → b ≠ y.G i → w'.heap[b]? = w.heap[b]?) (hs : w.heap.size ≤ w'.heap.size) : TreeM w' F P N' y (t.set i x') := by
  have hi := h.pos i x hx
  obtain ⟨o1, o2, o3, o4⟩ := h.own i x hx
  have apart : ∀ b, y.own b ≠ i → b ≠ y.f i ∧ b ≠ y.L i ∧ b ≠ y.G i := fun b hb => ⟨fun e => hb (e ▸ o1), fun e => hb (e ▸ o2), fun e => hb (e ▸ o3)⟩
  have hM := apart y.M (by rw [h.ownM]; omega)
  have hP := apart P (by rw [h.ownP]; omega)
  refine { head := (hb P h.fP hP.1 hP.2.1 hP.2.2).trans h.head, nodes := ?_, node := ?_, pos := ?_, own := ?_, ownM := h.ownM, ownP := h.ownP, fP := h.fP, fM := h.fM, foot := ?_, lt := fun b hF => Nat.lt_of_lt_of_le (h.lt b hF) hs }
  · refine ((h.nodes.mono hN).same (hb y.M h.fM hM.1 hM.2.1 hM.2.2)).congr fun kl _ => ?_
    cases kl with
    | int q a =>
      cases q <;> try rfl
      show (t.n a).map _ = ((t.set i x').n a).map _
      unfold PT.set
      by_cases ha : a = i
      · subst ha; simp [hx]
      · simp [ha]
    | _ => rfl
  · intro j z hz
    unfold PT.set at hz
    by_cases hj : j = i
    · subst hj; simp at hz; subst hz; exact hn
    · simp [hj] at hz
      obtain ⟨p1, p2, p3, _⟩ := h.own j z hz
      obtain ⟨f1, f2, f3⟩ := h.foot j z hz
      have a1 := apart (y.f j) (by rw [p1]; exact hj)
      have a2 := apart (y.L j) (by rw [p2]; exact hj)
      have a3 := apart (y.G j) (by rw [p3]; exact hj)
      exact ((h.node j z hz).mono hN).same (hb _ f1 a1.1 a1.2.1 a1.2.2) (hb _ f2 a2.1 a2.2.1 a2.2.2) (hb _ f3 a3.1 a3.2.1 a3.2.2)
  all_goals
    intro j z hz
    unfold PT.set at hz
    by_cases hj : j = i
    · subst hj
      first | exact hi | exact ⟨o1, o2, o3, o4⟩ | exact h.foot j x hx
    · simp [hj] at hz
      first | exact h.pos j z hz | exact h.own j z hz | exact h.foot j z hz
/-- An inode is gone. -/
theorem TreeM.delNode (h : TreeM w F P N y t) (hM : MapAt w' Tryz.prog 23 y.M N (delM (nodesM t.n y.f) (.int .u32 i)))
    (hb : ∀ b, F b → b ≠ y.M → w'.heap[b]? = w.heap[b]?) (hs : w.heap.size ≤ w'.heap.size) : TreeM w' F P N y (t.del i) := by
  have hne : P ≠ y.M := fun e => by
    obtain ⟨es, c, h1⟩ := h.nodes.isMap
    rw [← e, h.head] at h1; cases h1
  have sub : ∀ j z, (t.del i).n j = some z → t.n j = some z := fun j z hz => by
    unfold PT.del at hz
    by_cases hj : j = i
    · simp [hj] at hz
    · simpa [hj] using hz
  refine { head := (hb P h.fP hne).trans h.head, nodes := ?_, node := ?_, pos := fun j z hz => h.pos j z (sub j z hz), own := fun j z hz => h.own j z (sub j z hz), ownM := h.ownM, ownP := h.ownP, fP := h.fP, fM := h.fM, foot := fun j z hz => h.foot j z (sub j z hz), lt := fun b hF => Nat.lt_of_lt_of_le (h.lt b hF) hs }
  · refine hM.congr fun kl hk => ?_
    cases kl with
    | int q a =>
      cases q <;> try (unfold delM; simp [nodesM]; done)
      show delM _ _ _ = ((t.del i).n a).map _
      unfold delM PT.del
      by_cases ha : a = i
      · subst ha; simp [Lit.sameKey]
      · simp [Lit.sameKey, ha, nodesM]
    | _ => unfold delM; simp [nodesM]
  · intro j z hz
    have hz' := sub j z hz
    have hp := h.pos j z hz'
    obtain ⟨p1, p2, p3, _⟩ := h.own j z hz'
    obtain ⟨f1, f2, f3⟩ := h.foot j z hz'
    have ne : ∀ b, y.own b = j → b ≠ y.M := fun b hb e => by rw [e, h.ownM] at hb; omega
    exact (h.node j z hz').same (hb _ f1 (ne _ p1)) (hb _ f2 (ne _ p2)) (hb _ f3 (ne _ p3))
end

/-- What a call may have turned: the blocks of F; F' are the tree's behind it. -/
structure Turn (w w' : World) (F F' : Nat → Prop) : Prop where
  os : w'.os = w.os
  tape : w'.tape = w.tape
  output : w'.output = w.output
  size : w.heap.size ≤ w'.heap.size
  block : ∀ b, b < w.heap.size → ¬ F b → w'.heap[b]? = w.heap[b]?
  foot : ∀ b, F' b → F b ∨ w.heap.size ≤ b
theorem Turn.refl (w : World) (F : Nat → Prop) : Turn w w F F := ⟨rfl, rfl, rfl, Nat.le_refl _, fun _ _ _ => rfl, fun _ h => .inl h⟩
theorem Turn.trans {w w1 w2 : World} {F F1 F2 : Nat → Prop} (h : Turn w w1 F F1) (k : Turn w1 w2 F1 F2) : Turn w w2 F F2 :=
  ⟨k.os.trans h.os, k.tape.trans h.tape, k.output.trans h.output, Nat.le_trans h.size k.size,
   fun b hb hF => (k.block b (Nat.lt_of_lt_of_le hb h.size) (fun h1 => by rcases h.foot b h1 with h2 | h2; exact hF h2; omega)).trans (h.block b hb hF),
   fun b hb => by
    rcases k.foot b hb with h1 | h1
    · exact h.foot b h1
    · exact .inr (Nat.le_trans h.size h1)⟩
theorem Turn.of_below {w w' : World} (F : Nat → Prop) (h : Below w.heap.size w w') : Turn w w' F F := ⟨h.os, h.tape, h.output, h.size, fun b hb _ => h.block b hb, fun _ h => .inl h⟩
theorem Turn.of_grown {w w' : World} {F : Nat → Prop} {b : Nat} (h : w.grownBy w' (some b)) (hF : F b) : Turn w w' F F :=
  ⟨h.os, h.tape, h.output, h.size, fun c hc hn => h.block c hc (fun e => hn (by injection e with e; rw [e]; exact hF)), fun _ h => .inl h⟩
theorem Turn.below {w w' : World} {F F' : Nat → Prop} {B : Nat} (h : Turn w w' F F') (hF : ∀ b, F b → B ≤ b) (hB : B ≤ w.heap.size) : Below B w w' :=
  ⟨h.os, h.tape, h.output, h.size, fun b hb => h.block b (Nat.lt_of_lt_of_le hb hB) (fun h1 => by have := hF b h1; omega)⟩
end Go.Proofs.YtpcjbfhgmcioaaaGreat
