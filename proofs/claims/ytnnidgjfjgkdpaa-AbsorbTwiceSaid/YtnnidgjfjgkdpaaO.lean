/- What an argument that is a row of records reads as. -/
import Derived.Test.YtnnidgjfjgkdpaaA
import Derived.Test.YtnnidgjfjgkdpaaL
namespace Go.Proofs.Ytnnidgjfjgkdpaa
open Go.ChangeShapes Go.WideShapes Go.ChangeAt Go.RowKit

theorem own : ownKnob Try.prog.godebug = none := by kernel_rfl
theorem cells31 : Try.prog.cellsOf 31 = 12 := by kernel_rfl
theorem add_flat {b o : Nat} (i : Nat) : (⟨b, o, none⟩ : Addr).add i = ⟨b, o + i, none⟩ := by unfold Addr.add; split <;> simp_all

/-- What one record's cells are. -/
def RecCells (W : World) (a : Addr) (i : Nat) (r : R) : Prop :=
  W.cell? (a.add (i * 12 + 0)) = some (.int .u64 r.stamp) ∧ W.cell? (a.add (i * 12 + 1)) = some (.int .u8 r.act) ∧ W.cell? (a.add (i * 12 + 2)) = some (.int .u32 r.dir) ∧ W.cell? (a.add (i * 12 + 3)) = some (.string r.name) ∧
  W.cell? (a.add (i * 12 + 4)) = some (.int .u32 r.ino) ∧ W.cell? (a.add (i * 12 + 5)) = some (.int .u8 r.kind) ∧ W.cell? (a.add (i * 12 + 6)) = some (.int .u32 r.dir2) ∧ W.cell? (a.add (i * 12 + 7)) = some (.string r.name2) ∧
  W.cell? (a.add (i * 12 + 8)) = some (.int .u32 r.old) ∧ W.cell? (a.add (i * 12 + 9)) = some (.int .u32 r.size) ∧ W.cell? (a.add (i * 12 + 10)) = some (.int .i64 r.page) ∧ W.cell? (a.add (i * 12 + 11)) = some (.string r.data) ∧ r.Ok

/-- What the argument's reading gives. -/
theorem recs_of {H : Type} {enc : TypeId × Value → H} {W : World} {sp : Nat → Bool} {held : Bool} {v : Value} {d : DataW H} {p : List MemPlace} (hv : ∃ a len cap, v = .slice a len cap) (h : DataW.Trod enc Try.prog W 0 sp held 22 v d p)
    (hz : ∀ m, m ∈ d.weights Try.prog 22 → m ≤ reachBytes) :
    ∃ (A : Option Addr) (n c : Nat) (rs : List R), v = .slice A n c ∧ n ≤ maxLen ∧ Recs W W.heap.size A n rs := by
  obtain ⟨a0, len, cap, rfl⟩ := hv
  obtain ⟨fuel, hf⟩ := h
  have hrb : reachBytes = 140737488351232 := rfl
  rcases structs_open Try.underlying22 Try.underlying31 (by kernel_rfl) cells31 hf with h0 | ⟨a, len', cap', h0, hl, hm, hc⟩
  · simp [Value.cells] at h0
    obtain ⟨rfl, rfl, rfl⟩ := h0
    exact ⟨_, _, _, [], rfl, Nat.zero_le _, ⟨rfl, fun h => absurd h (by omega), fun r hr => by cases hr⟩⟩
  · simp [Value.cells] at h0
    obtain ⟨rfl, rfl, rfl⟩ := h0
    have hall : ∀ i, i < len → ∃ r : R, RecCells W a i r := by
      intro i hi
      obtain ⟨v0, y0, n0, c0, t0, _⟩ := hc i hi 0 _ rfl
      obtain ⟨v1, y1, n1, c1, t1, _⟩ := hc i hi 1 _ rfl
      obtain ⟨v2, y2, n2, c2, t2, _⟩ := hc i hi 2 _ rfl
      obtain ⟨v3, y3, n3, c3, t3, z3⟩ := hc i hi 3 _ rfl
      obtain ⟨v4, y4, n4, c4, t4, _⟩ := hc i hi 4 _ rfl
      obtain ⟨v5, y5, n5, c5, t5, _⟩ := hc i hi 5 _ rfl
      obtain ⟨v6, y6, n6, c6, t6, _⟩ := hc i hi 6 _ rfl
      obtain ⟨v7, y7, n7, c7, t7, z7⟩ := hc i hi 7 _ rfl
      obtain ⟨v8, y8, n8, c8, t8, _⟩ := hc i hi 8 _ rfl
      obtain ⟨v9, y9, n9, c9, t9, _⟩ := hc i hi 9 _ rfl
      obtain ⟨v10, y10, n10, c10, t10, _⟩ := hc i hi 10 _ rfl
      obtain ⟨v11, y11, n11, c11, t11, z11⟩ := hc i hi 11 _ rfl
      obtain ⟨x0, e0, _, _⟩ := DataW.trod_int Try.underlying28 t0
      obtain ⟨x1, e1, _, w1⟩ := DataW.trod_int Try.underlying5 t1
      obtain ⟨x2, e2, _, w2⟩ := DataW.trod_int Try.underlying29 t2
      obtain ⟨x3, e3, q3, _⟩ := DataW.trod_string Try.underlying9 t3
      obtain ⟨x4, e4, _, w4⟩ := DataW.trod_int Try.underlying29 t4
      obtain ⟨x5, e5, _, _⟩ := DataW.trod_int Try.underlying5 t5
      obtain ⟨x6, e6, _, _⟩ := DataW.trod_int Try.underlying29 t6
      obtain ⟨x7, e7, q7, _⟩ := DataW.trod_string Try.underlying9 t7
      obtain ⟨x8, e8, _, _⟩ := DataW.trod_int Try.underlying29 t8
      obtain ⟨x9, e9, _, _⟩ := DataW.trod_int Try.underlying29 t9
      obtain ⟨x10, e10, _, _⟩ := DataW.trod_int Try.underlying3 t10
      obtain ⟨x11, e11, q11, _⟩ := DataW.trod_string Try.underlying9 t11
      simp only [List.cons.injEq, and_true] at e0 e1 e2 e3 e4 e5 e6 e7 e8 e9 e10 e11
      subst e0 e1 e2 e3 e4 e5 e6 e7 e8 e9 e10 e11
      have hs : ∀ (x : ByteArray), x.size = x.data.toList.length := fun x => by simp
      refine ⟨⟨x0, x1, x2, x3, x4, x5, x6, x7, x8, x9, x10, x11⟩, c0, c1, c2, c3, c4, c5, c6, c7, c8, c9, c10, c11, ?_, ?_, ?_, ?_, ?_, ?_⟩
      · simpa [Lit.wf, IntKind.min, IntKind.max, IntKind.signed, IntKind.bits] using w2
      · have := hz _ (z3 x3.data.toList.length (by rw [q3]; simp [DataW.weights])); rw [← hs] at this; show x3.size ≤ _; omega
      · have := hz _ (z7 x7.data.toList.length (by rw [q7]; simp [DataW.weights])); rw [← hs] at this; show x7.size ≤ _; omega
      · have := hz _ (z11 x11.data.toList.length (by rw [q11]; simp [DataW.weights])); rw [← hs] at this; show x11.size ≤ _; omega
      · simpa [Lit.wf, IntKind.min, IntKind.max, IntKind.signed, IntKind.bits] using w4
      · simpa [Lit.wf, IntKind.min, IntKind.max, IntKind.signed, IntKind.bits] using w1
    let f : Nat → R := fun i => if h : i < len then Classical.choose (hall i h) else ⟨0, 0, 0, ByteArray.empty, 0, 0, 0, ByteArray.empty, 0, 0, 0, ByteArray.empty⟩
    have hspec : ∀ i, (h : i < len) → RecCells W a i (f i) := by
      intro i h
      have := Classical.choose_spec (hall i h)
      simp only [f, dif_pos h]
      exact this
    refine ⟨_, _, _, (List.range len).map f, rfl, Nat.le_trans hl hm, ⟨by simp, fun hpos => ?_, fun r hr => ?_⟩⟩
    · have h0 := (hspec 0 hpos).1
      obtain ⟨ab, ao, asp⟩ := a
      have hsn : asp = none := by
        cases asp with
        | none => rfl
        | some s =>
          exfalso
          simp [World.cell?, Addr.add] at h0
          split at h0 <;> cases h0
      subst hsn
      refine ⟨ab, ao, rfl, ?_, fun k r hk => ?_⟩
      · simp only [add_flat] at h0
        exact World.block_lt_of_cell? W _ h0
      · rw [List.getElem?_map] at hk
        have hkl : k < len := by
          by_cases h : k < len
          · exact h
          · rw [List.getElem?_eq_none (by simpa using h)] at hk; cases hk
        rw [List.getElem?_range hkl] at hk
        simp only [Option.map_some, Option.some.injEq] at hk
        subst hk
        obtain ⟨c0, c1, c2, c3, c4, c5, c6, c7, c8, c9, c10, c11, _⟩ := hspec k hkl
        simp only [add_flat, Nat.add_zero, ← Nat.add_assoc] at c0 c1 c2 c3 c4 c5 c6 c7 c8 c9 c10 c11
        exact ⟨c0, c1, c2, c3, c4, c5, c6, c7, c8, c9, c10, c11⟩
    · obtain ⟨i, hi, rfl⟩ := List.mem_map.1 hr
      exact (hspec i (by simpa using hi)).2.2.2.2.2.2.2.2.2.2.2.2
end Go.Proofs.Ytnnidgjfjgkdpaa
