/- What the arguments of the laws of logs read as. -/
import Derived.Test.YtehckjkihaalfaaGreatCN
import Derived.Test.YtehckjkihaalfaaGreatEP
import Derived.Handy
namespace Go.Proofs.YtehckjkihaalfaaGreat
open Go.ChangeShapes Go.WideShapes Go.ChangeAt Go.RowKit

/-- A step. -/
structure St where
  act : Int
  core : Int
  r : R
  sA : Option Addr
  sn : Nat
  sc : Nat
  st : List Int
/-- Steps in memory. -/
structure StepsAt (w : World) (A : Option Addr) (l : List St) : Prop where
  at_ : l ≠ [] → ∃ b o, A = some ⟨b, o, none⟩ ∧ b < w.heap.size ∧ ∀ (k : Nat) (s : St), l[k]? = some s → w.cell? ⟨b, o + k * 15, none⟩ = some (.int .i64 s.act) ∧ w.cell? ⟨b, o + k * 15 + 1, none⟩ = some (.int .i64 s.core) ∧
    (∀ i v, (cellsR s.r)[i]? = some v → w.cell? ⟨b, o + k * 15 + (2 + i), none⟩ = some v) ∧ w.cell? ⟨b, o + k * 15 + 14, none⟩ = some (.slice s.sA s.sn s.sc)
  ok : ∀ s ∈ l, RecOk s.r
  st : ∀ s ∈ l, U64At w s.sA s.st ∧ s.st.length = s.sn ∧ s.sn ≤ s.sc ∧ s.sn ≤ maxLen
  lt : ∀ s ∈ l, ∀ b o, s.sA = some ⟨b, o, none⟩ → s.st ≠ [] → b < w.heap.size
theorem StepsAt.below {w w' : World} {A : Option Addr} {l : List St} (h : StepsAt w A l) (hb : Below w.heap.size w w') : StepsAt w' A l := by
  refine ⟨fun hn => ?_, h.ok, fun s hs => ?_, fun s hs b o e hn => Nat.lt_of_lt_of_le (h.lt s hs b o e hn) hb.size⟩
  · obtain ⟨b, o, h1, h2, h3⟩ := h.at_ hn
    have hc : ∀ q, w'.cell? ⟨b, q, none⟩ = w.cell? ⟨b, q, none⟩ := fun q => World.cell?_of_block (a := ⟨b, q, none⟩) (hb.block b h2)
    refine ⟨b, o, h1, Nat.lt_of_lt_of_le h2 hb.size, fun k s hk => ?_⟩
    obtain ⟨a1, a2, a3, a4⟩ := h3 k s hk
    exact ⟨(hc _).trans a1, (hc _).trans a2, fun i v hv => (hc _).trans (a3 i v hv), (hc _).trans a4⟩
  · obtain ⟨a1, a2⟩ := h.st s hs
    exact ⟨a1.below hb, a2⟩
theorem cells_u64 : Tryz.prog.cellsOf 31 = 1 := by kernel_rfl
theorem cells_u8 : Tryz.prog.cellsOf 5 = 1 := by kernel_rfl
theorem cells_s : Tryz.prog.cellsOf 9 = 1 := by kernel_rfl
theorem cells_sU64 : Tryz.prog.cellsOf 23 = 1 := by kernel_rfl
theorem cells_step : Tryz.prog.cellsOf 36 = 15 := by kernel_rfl
theorem at_cell {H : Type} {enc : TypeId × Value → H} {w : World} {base n q j : Nat} {spare : Nat → Bool} {held : Bool} {T : TypeId} {xs : List (DataW H × List MemPlace)} {cs : List Value} (hc : Tryz.prog.cellsOf T = 1)
    (h : DataW.trod enc Tryz.prog w base spare held n T ((cs.drop q).take (Tryz.prog.cellsOf T)) = xs[j]?) (c : Value) (hq : cs[q]? = some c) (hx : j < xs.length) : ∃ y, DataW.trod enc Tryz.prog w base spare held n T [c] = some y := by
  obtain ⟨h1, rfl⟩ := List.getElem?_eq_some_iff.1 hq
  rw [hc, List.drop_eq_getElem_cons h1, List.take_succ_cons, List.take_zero, List.getElem?_eq_getElem hx] at h
  exact ⟨_, h⟩
set_option maxRecDepth 100000 in
theorem rec_trod {H : Type} {enc : TypeId × Value → H} {w : World} {base n : Nat} {spare : Nat → Bool} {held : Bool} {cs : List Value} {x : DataW H × List MemPlace} (hf : DataW.trod enc Tryz.prog w base spare held n 34 cs = some x) :
    ∃ r : R, cs = cellsL r ∧ RecOk r := by
  obtain ⟨xs, m, _, _, hl, hlen, hk⟩ := DataW.trod_struct Tryz.underlying34 hf
  rw [cellsR12] at hl
  match cs, hl with
  | [c0, c1, c2, c3, c4, c5, c6, c7, c8, c9, c10, c11], _ =>
    obtain ⟨y0, t0⟩ := at_cell (cs := [c0, c1, c2, c3, c4, c5, c6, c7, c8, c9, c10, c11]) cells_u64 (hk 0 _ rfl) c0 rfl (by rw [hlen]; decide)
    obtain ⟨y1, t1⟩ := at_cell (cs := [c0, c1, c2, c3, c4, c5, c6, c7, c8, c9, c10, c11]) cells_u8 (hk 1 _ rfl) c1 rfl (by rw [hlen]; decide)
    obtain ⟨y2, t2⟩ := at_cell (cs := [c0, c1, c2, c3, c4, c5, c6, c7, c8, c9, c10, c11]) cells_u32 (hk 2 _ rfl) c2 rfl (by rw [hlen]; decide)
    obtain ⟨y3, t3⟩ := at_cell (cs := [c0, c1, c2, c3, c4, c5, c6, c7, c8, c9, c10, c11]) cells_s (hk 3 _ rfl) c3 rfl (by rw [hlen]; decide)
    obtain ⟨y4, t4⟩ := at_cell (cs := [c0, c1, c2, c3, c4, c5, c6, c7, c8, c9, c10, c11]) cells_u32 (hk 4 _ rfl) c4 rfl (by rw [hlen]; decide)
    obtain ⟨y5, t5⟩ := at_cell (cs := [c0, c1, c2, c3, c4, c5, c6, c7, c8, c9, c10, c11]) cells_u8 (hk 5 _ rfl) c5 rfl (by rw [hlen]; decide)
    obtain ⟨y6, t6⟩ := at_cell (cs := [c0, c1, c2, c3, c4, c5, c6, c7, c8, c9, c10, c11]) cells_u32 (hk 6 _ rfl) c6 rfl (by rw [hlen]; decide)
    obtain ⟨y7, t7⟩ := at_cell (cs := [c0, c1, c2, c3, c4, c5, c6, c7, c8, c9, c10, c11]) cells_s (hk 7 _ rfl) c7 rfl (by rw [hlen]; decide)
    obtain ⟨y8, t8⟩ := at_cell (cs := [c0, c1, c2, c3, c4, c5, c6, c7, c8, c9, c10, c11]) cells_u32 (hk 8 _ rfl) c8 rfl (by rw [hlen]; decide)
    obtain ⟨y9, t9⟩ := at_cell (cs := [c0, c1, c2, c3, c4, c5, c6, c7, c8, c9, c10, c11]) cells_u32 (hk 9 _ rfl) c9 rfl (by rw [hlen]; decide)
    obtain ⟨y10, t10⟩ := at_cell (cs := [c0, c1, c2, c3, c4, c5, c6, c7, c8, c9, c10, c11]) cells_int (hk 10 _ rfl) c10 rfl (by rw [hlen]; decide)
    obtain ⟨y11, t11⟩ := at_cell (cs := [c0, c1, c2, c3, c4, c5, c6, c7, c8, c9, c10, c11]) cells_s (hk 11 _ rfl) c11 rfl (by rw [hlen]; decide)
    obtain ⟨x0, e0, _, w0⟩ := DataW.trod_int Tryz.underlying31 t0
    obtain ⟨x1, e1, _, w1⟩ := DataW.trod_int Tryz.underlying5 t1
    obtain ⟨x2, e2, _, w2⟩ := DataW.trod_int Tryz.underlying32 t2
    obtain ⟨x3, e3, _, w3⟩ := DataW.trod_string Tryz.underlying9 t3
    obtain ⟨x4, e4, _, w4⟩ := DataW.trod_int Tryz.underlying32 t4
    obtain ⟨x5, e5, _, w5⟩ := DataW.trod_int Tryz.underlying5 t5
    obtain ⟨x6, e6, _, w6⟩ := DataW.trod_int Tryz.underlying32 t6
    obtain ⟨x7, e7, _, w7⟩ := DataW.trod_string Tryz.underlying9 t7
    obtain ⟨x8, e8, _, w8⟩ := DataW.trod_int Tryz.underlying32 t8
    obtain ⟨x9, e9, _, w9⟩ := DataW.trod_int Tryz.underlying32 t9
    obtain ⟨x10, e10, _, w10⟩ := DataW.trod_int Tryz.underlying3 t10
    obtain ⟨x11, e11, _, w11⟩ := DataW.trod_string Tryz.underlying9 t11
    simp only [List.cons.injEq, and_true] at e0 e1 e2 e3 e4 e5 e6 e7 e8 e9 e10 e11
    subst e0
    subst e1
    subst e2
    subst e3
    subst e4
    subst e5
    subst e6
    subst e7
    subst e8
    subst e9
    subst e10
    subst e11
    have r0 : 0 ≤ x0 ∧ x0 ≤ 18446744073709551615 := by simpa [Lit.wf, IntKind.min, IntKind.max, IntKind.signed, IntKind.bits] using w0
    have r1 : 0 ≤ x1 ∧ x1 ≤ 255 := by simpa [Lit.wf, IntKind.min, IntKind.max, IntKind.signed, IntKind.bits] using w1
    have r2 : 0 ≤ x2 ∧ x2 ≤ 4294967295 := by simpa [Lit.wf, IntKind.min, IntKind.max, IntKind.signed, IntKind.bits] using w2
    have r4 : 0 ≤ x4 ∧ x4 ≤ 4294967295 := by simpa [Lit.wf, IntKind.min, IntKind.max, IntKind.signed, IntKind.bits] using w4
    have r5 : 0 ≤ x5 ∧ x5 ≤ 255 := by simpa [Lit.wf, IntKind.min, IntKind.max, IntKind.signed, IntKind.bits] using w5
    have r6 : 0 ≤ x6 ∧ x6 ≤ 4294967295 := by simpa [Lit.wf, IntKind.min, IntKind.max, IntKind.signed, IntKind.bits] using w6
    have r8 : 0 ≤ x8 ∧ x8 ≤ 4294967295 := by simpa [Lit.wf, IntKind.min, IntKind.max, IntKind.signed, IntKind.bits] using w8
    have r9 : 0 ≤ x9 ∧ x9 ≤ 4294967295 := by simpa [Lit.wf, IntKind.min, IntKind.max, IntKind.signed, IntKind.bits] using w9
    exact ⟨⟨x0, x1, x2, x3, x4, x5, x6, x7, x8, x9, x10, x11⟩, rfl, ⟨⟨r0, r1, r2, r4, r5, r6, r8, r9⟩, w3, w7, w11⟩⟩
theorem u64_of_slice {W : World} {A : Option Addr} {l : List Int} (h : SliceAt W A (l.map (Value.int .u64))) : U64At W A l := fun hn => by
  obtain ⟨b, o, h1, h2, h3⟩ := h (by cases l with | nil => exact absurd rfl hn | cons a l => simp)
  exact ⟨b, o, h1, h2, fun k x hk => h3 k _ (by rw [List.getElem?_map, hk]; rfl)⟩
set_option maxRecDepth 100000 in
/-- One step. -/
theorem step_trod {H : Type} {enc : TypeId × Value → H} {w : World} {n : Nat} {spare : Nat → Bool} {held : Bool} {cs : List Value} {x : DataW H × List MemPlace} (hf : DataW.trod enc Tryz.prog w 0 spare held n 36 cs = some x) :
    ∃ s : St, cs = [.int .i64 s.act, .int .i64 s.core] ++ cellsL s.r ++ [.slice s.sA s.sn s.sc] ∧ RecOk s.r ∧ (U64At w s.sA s.st ∧ s.st.length = s.sn ∧ s.sn ≤ s.sc ∧ s.sn ≤ maxLen) := by
  obtain ⟨xs, m, _, _, hl, hlen, hk⟩ := DataW.trod_struct Tryz.underlying36 hf
  rw [cells_step] at hl
  match cs, hl with
  | [a0, a1, c0, c1, c2, c3, c4, c5, c6, c7, c8, c9, c10, c11, a3], _ =>
    obtain ⟨y0, t0⟩ := at_cell (cs := [a0, a1, c0, c1, c2, c3, c4, c5, c6, c7, c8, c9, c10, c11, a3]) cells_int (hk 0 _ rfl) a0 rfl (by rw [hlen]; decide)
    obtain ⟨y1, t1⟩ := at_cell (cs := [a0, a1, c0, c1, c2, c3, c4, c5, c6, c7, c8, c9, c10, c11, a3]) cells_int (hk 1 _ rfl) a1 rfl (by rw [hlen]; decide)
    obtain ⟨y3, t3⟩ := at_cell (cs := [a0, a1, c0, c1, c2, c3, c4, c5, c6, c7, c8, c9, c10, c11, a3]) cells_sU64 (hk 3 _ rfl) a3 rfl (by rw [hlen]; decide)
    have h2 := hk 2 _ rfl
    have h2' : DataW.trod enc Tryz.prog w 0 spare held m 34 [c0, c1, c2, c3, c4, c5, c6, c7, c8, c9, c10, c11] = xs[2]? := by
      rw [← h2]
      show _ = DataW.trod enc Tryz.prog w 0 spare held m 34 (([a0, a1, c0, c1, c2, c3, c4, c5, c6, c7, c8, c9, c10, c11, a3].drop 2).take (Tryz.prog.cellsOf 34))
      rw [cellsR12]
      rfl
    rw [List.getElem?_eq_getElem (by rw [hlen]; decide)] at h2'
    obtain ⟨r, hr, rok⟩ := rec_trod h2'
    obtain ⟨x0, e0, _, w0⟩ := DataW.trod_int Tryz.underlying3 t0
    obtain ⟨x1, e1, _, w1⟩ := DataW.trod_int Tryz.underlying3 t1
    simp only [List.cons.injEq, and_true] at e0 e1
    subst e0
    subst e1
    have hv : ∃ a len cap, a3 = .slice a len cap := by
      rcases Go.Deep.open_slice1 Tryz.underlying23 cells_u64 t3 with ⟨h0, _⟩ | ⟨a, len', cap', _, _, _, _, _, h0, _⟩
      · simp only [List.cons.injEq, and_true] at h0
        exact ⟨_, _, _, h0⟩
      · simp only [List.cons.injEq, and_true] at h0
        exact ⟨_, _, _, h0⟩
    obtain ⟨sa, sl, sc, rfl⟩ := hv
    obtain ⟨A, k, c, l, e3, j1, j2, j3, j4, _⟩ := nums_of Tryz.underlying23 Tryz.underlying31 cells_u64 ⟨_, _, _, rfl⟩ (show DataW.Trod enc Tryz.prog w 0 spare held 23 (.slice sa sl sc) y3.1 y3.2 from ⟨m, t3⟩)
    rw [e3]
    refine ⟨⟨x0, x1, r, A, k, c, l⟩, ?_, rok, u64_of_slice j4, j3, j1, j2⟩
    show _ = [Value.int .i64 x0, Value.int .i64 x1] ++ cellsL r ++ [Value.slice A k c]
    rw [← hr]
    rfl
set_option maxRecDepth 100000 in
/-- What the argument's reading gives. -/
theorem steps_of {H : Type} {enc : TypeId × Value → H} {W : World} {sp : Nat → Bool} {held : Bool} {v : Value} {d : DataW H} {p : List MemPlace} (hv : ∃ a len cap, v = .slice a len cap) (h : DataW.Trod enc Tryz.prog W 0 sp held 22 v d p) :
    ∃ (A : Option Addr) (n c : Nat) (l : List St), v = .slice A n c ∧ n ≤ c ∧ n ≤ maxLen ∧ l.length = n ∧ StepsAt W A l := by
  obtain ⟨a0, len, cap, rfl⟩ := hv
  obtain ⟨fuel, hf⟩ := h
  rcases Go.Deep.open_slice Tryz.underlying22 hf with ⟨h0, _⟩ | ⟨a, len', cap', m, n, D, Pl, h0, _, hl, hm, hmm, _, hi⟩
  · simp [Value.cells] at h0
    obtain ⟨rfl, rfl, rfl⟩ := h0
    exact ⟨none, 0, 0, [], rfl, Nat.le_refl _, Nat.zero_le _, rfl, ⟨fun h => absurd rfl h, fun s hs => by simp at hs, fun s hs => by simp at hs, fun s hs => by simp at hs⟩⟩
  · simp [Value.cells] at h0
    obtain ⟨rfl, rfl, rfl⟩ := h0
    have hall : ∀ i, i < len → ∃ s : St, (W.cell? (a.add (i * 15)) = some (.int .i64 s.act) ∧ W.cell? (a.add (i * 15 + 1)) = some (.int .i64 s.core) ∧ (∀ j v, (cellsR s.r)[j]? = some v → W.cell? (a.add (i * 15 + (2 + j))) = some v) ∧ W.cell? (a.add (i * 15 + 14)) = some (.slice s.sA s.sn s.sc)) ∧ RecOk s.r ∧ (U64At W s.sA s.st ∧ s.st.length = s.sn ∧ s.sn ≤ s.sc ∧ s.sn ≤ maxLen) := by
      intro i hlt
      obtain ⟨cs', hc, ht'⟩ := hi i (by rw [hmm]; split <;> omega)
      rw [cells_step] at hc
      obtain ⟨s, hs, h1, h2⟩ := step_trod ht'
      obtain ⟨_, hlen, hat⟩ := World.cells?_some hc
      have hcell : ∀ j, j < 15 → W.cell? (a.add (i * 15 + j)) = cs'[j]? := fun j hj => by
        have := hat j hj
        rw [Go.Deep.add_add] at this
        exact this
      refine ⟨s, ⟨?_, ?_, fun j v hv => ?_, ?_⟩, h1, h2⟩
      · have := hcell 0 (by omega)
        rw [Nat.add_zero] at this
        rw [this, hs]
        rfl
      · rw [hcell 1 (by omega), hs]
        rfl
      · have hj : j < 12 := (Array.getElem?_eq_some_iff.1 hv).1
        rw [hcell (2 + j) (by omega), hs, List.append_assoc, List.getElem?_append_right (by simp), List.getElem?_append_left (by show _ < 12; simp; omega)]
        show (cellsL s.r)[2 + j - 2]? = _
        rw [show 2 + j - 2 = j by omega]
        unfold cellsL
        simpa using hv
      · rw [hcell 14 (by omega), hs]
        rfl
    let f : Nat → St := fun i => if h : i < len then Classical.choose (hall i h) else ⟨0, 0, ⟨0, 0, 0, ⟨#[]⟩, 0, 0, 0, ⟨#[]⟩, 0, 0, 0, ⟨#[]⟩⟩, none, 0, 0, []⟩
    have hspec : ∀ i, (h : i < len) → (W.cell? (a.add (i * 15)) = some (.int .i64 (f i).act) ∧ W.cell? (a.add (i * 15 + 1)) = some (.int .i64 (f i).core) ∧ (∀ j v, (cellsR (f i).r)[j]? = some v → W.cell? (a.add (i * 15 + (2 + j))) = some v) ∧ W.cell? (a.add (i * 15 + 14)) = some (.slice (f i).sA (f i).sn (f i).sc)) ∧ RecOk (f i).r ∧ (U64At W (f i).sA (f i).st ∧ (f i).st.length = (f i).sn ∧ (f i).sn ≤ (f i).sc ∧ (f i).sn ≤ maxLen) := by
      intro i h
      have := Classical.choose_spec (hall i h)
      simp only [f, dif_pos h]
      exact this
    have hmem : ∀ s ∈ (List.range len).map f, ∃ i, i < len ∧ f i = s := fun s hs => by
      obtain ⟨i, hi, rfl⟩ := List.mem_map.1 hs
      exact ⟨i, by simpa using hi, rfl⟩
    refine ⟨_, _, _, (List.range len).map f, rfl, hl, Nat.le_trans hl hm, by simp, ⟨fun hpos => ?_, fun s hs => ?_, fun s hs => ?_, fun s hs b o e hn => ?_⟩⟩
    · have hlen : 0 < len := by
        rcases Nat.eq_zero_or_pos len with h | h
        · subst h
          exact absurd rfl hpos
        · exact h
      have h0 := (hspec 0 hlen).1.1
      obtain ⟨ab, ao, asp⟩ := a
      have hsn : asp = none := by
        cases asp with
        | none => rfl
        | some s =>
          exfalso
          simp [World.cell?, Addr.add] at h0
          split at h0 <;> cases h0
      subst hsn
      refine ⟨ab, ao, rfl, ?_, fun k s hk => ?_⟩
      · simp only [add_flat] at h0
        exact World.block_lt_of_cell? W _ h0
      · rw [List.getElem?_map] at hk
        have hkl : k < len := by
          by_cases h : k < len
          · exact h
          · rw [List.getElem?_eq_none (by simpa using h)] at hk; cases hk
        rw [List.getElem?_range hkl] at hk
        simp only [Option.map_some, Option.some.injEq] at hk
        subst hk
        have := (hspec k hkl).1
        simp only [add_flat, ← Nat.add_assoc] at this
        simp only [← Nat.add_assoc]
        exact this
    · obtain ⟨i, hi, rfl⟩ := hmem s hs
      exact (hspec i hi).2.1
    · obtain ⟨i, hi, rfl⟩ := hmem s hs
      exact (hspec i hi).2.2
    · obtain ⟨i, hi, rfl⟩ := hmem s hs
      obtain ⟨b', o', e1, e2, _⟩ := (hspec i hi).2.2.1 hn
      rw [e1] at e
      simp only [Option.some.injEq, Addr.mk.injEq] at e
      omega
end Go.Proofs.YtehckjkihaalfaaGreat

/- Long, Many, Has64, at: walked. -/
namespace Go.Proofs.YtehckjkihaalfaaGreat
open Go.RowKit Go.Maps

set_option maxRecDepth 100000 in
theorem t_long22 (r : R) (w : World) : Calls Tryz.prog 31 #[.agg #[.int .u64 r.stamp, .int .u8 r.act, .int .u32 r.dir, .string r.name, .int .u32 r.ino, .int .u8 r.kind, .int .u32 r.dir2, .string r.name2, .int .u32 r.old, .int .u32 r.size, .int .i64 r.page, .string r.data]] w fun e w' => (∃ b : Bool, e = .returned (.bool b)) ∧ Below w.heap.size w w' := by
  go_enter Tryz.func31, Tryz.ntmps31
  go_wp2
  go_ret
  exact ⟨⟨_, rfl⟩, below_a1' w _⟩
set_option maxRecDepth 100000 in
set_option maxHeartbeats 4000000 in
theorem t_many22 (A : Option Addr) (n c : Nat) (l : List R) (w : World) (hl : RecsAt w A l) (hn : l.length = n) (hn2 : n ≤ 60000) :
    Calls Tryz.prog 50 #[.slice A n c] w fun e w' => RetB e ∧ Below w.heap.size w w' := by
  have HL := Lib.hid hl
  have HN := Lib.hid hn
  clear hl hn
  go_enter Tryz.func50, Tryz.ntmps50
  go_wp2
  go_loopw [3] (fun x wr => ∃ i : Nat, x = .int .i64 (i : Int) ∧ i ≤ n ∧ i ≤ 200 ∧ Hid (Below w.heap.size w wr)) (fun x _ => n - (intOf x).toNat)
  case atStart => exact ⟨0, rfl, Nat.zero_le _, Nat.zero_le _, Below.refl _ _⟩
  case round =>
    obtain ⟨k, rfl, hk, hk2, HW⟩ := hrel
    by_cases he : k < n ∧ k < 200
    · obtain ⟨he, he2⟩ := he
      have hx := rAt_get2 (l := l) (k := k) (by rw [HN.out]; exact he)
      obtain ⟨r, hr⟩ : ∃ r, r = rAt l k := ⟨_, rfl⟩
      rw [← hr] at hx
      obtain ⟨b, o, rfl, hb, hc⟩ := (HL.out.below HW.out).at_ (fun e => by rw [e] at hx; simp at hx)
      have f6 := hc k r hx
      have r0 := f6 0 _ rfl
      rw [Nat.add_zero] at r0
      have r1 := f6 1 _ rfl
      have r2 := f6 2 _ rfl
      have r3 := f6 3 _ rfl
      have r4 := f6 4 _ rfl
      have r5 := f6 5 _ rfl
      have r6 := f6 6 _ rfl
      have r7 := f6 7 _ rfl
      have r8 := f6 8 _ rfl
      have r9 := f6 9 _ rfl
      have r10 := f6 10 _ rfl
      have r11 := f6 11 _ rfl
      clear hc hx f6 hr
      go_wp2_with (go_at_call 31; (with_reducible refine (t_long22 r _).mono ?_); rintro e w2 ⟨⟨bb, rfl⟩, hb⟩; have H2 := Lib.hid (ptrans HW.out hb); clear hb; cases bb)
      · go_roundw
        case rel => exact ⟨k + 1, rfl, he, he2, H2⟩
        case measure => simp only [intOf]; omega
      · go_ret
        exact ⟨RetB.of rfl, H2.out⟩
    · by_cases hin : k < n
      all_goals
        try have h200 : ¬ k < 200 := fun e => he ⟨hin, e⟩
        go_wp2
        go_ret
        exact ⟨RetB.of rfl, HW.out⟩
set_option maxRecDepth 100000 in
set_option maxHeartbeats 4000000 in
theorem t_has64 (A : Option Addr) (n c : Nat) (l : List Int) (v : Int) (w : World) (h : U64At w A l) (hn : l.length = n) (hn2 : n ≤ 60000) :
    Calls Tryz.prog 15 #[.slice A n c, .int .u64 v] w fun e w' => e = .returned (.bool (hasI l v)) ∧ Below w.heap.size w w' := by
  have H := Lib.hid h
  have HN := Lib.hid hn
  clear h hn
  go_enter Tryz.func15, Tryz.ntmps15
  go_wp2
  go_loopw [5] (fun x wr => ∃ k : Nat, x = .int .i64 (k : Int) ∧ k ≤ n ∧ Hid (Below w.heap.size w wr) ∧ Hid (hasI (l.take k) v = false)) (fun x _ => n - (intOf x).toNat)
  case atStart => exact ⟨0, rfl, Nat.zero_le _, Below.refl _ _, rfl⟩
  case round =>
    obtain ⟨k, rfl, hk, HW, HF⟩ := hrel
    by_cases he : k = n
    · have hf : Hid (hasI l v = false) := by
        have := HF.out
        rw [List.take_of_length_le (by rw [HN.out]; omega)] at this
        exact this
      go_wp2
      go_ret
      exact ⟨by rw [hf.out]; rfl, HW.out⟩
    · have hk2 : k < n := by omega
      obtain ⟨x, hx⟩ : ∃ x, l[k]? = some x := ⟨l[k]'(by rw [HN.out]; omega), List.getElem?_eq_getElem _⟩
      obtain ⟨b, o, rfl, hb, hc⟩ := (H.out.below HW.out) (fun e => by rw [e] at hx; simp at hx)
      have c0 := hc k x hx
      have HX := Lib.hid hx
      clear hc hx
      by_cases hv : x = v
      · have hv2 : (x == v) = true := by simpa using hv
        go_wp2
        go_ret
        have h1 : hasI l v = true := any_at _ _ _ _ HX.out (by simpa using hv.symm)
        exact ⟨by rw [h1]; rfl, HW.out⟩
      · have hv2 : (x == v) = false := by simpa using hv
        have HV : Hid ((v == x) = false) := by show _ = _; simpa using fun e : v = x => hv e.symm
        clear hv
        go_wp2
        go_roundw
        case rel => exact ⟨k + 1, rfl, hk2, HW, any_take_succ _ _ _ _ HX.out HF.out (by simpa using HV.out)⟩
        case measure => simp only [intOf]; omega
/-- A record of a stamp. -/
def atR (s : Int) : R := ⟨s, 7, 0, ⟨#[]⟩, 1, 0, 0, ⟨#[]⟩, 0, 0, 0, ⟨#[]⟩⟩
set_option maxRecDepth 100000 in
theorem t_at23 (s : Int) (w : World) : Calls Tryz.prog 28 #[.int .u64 s] w fun e w' => e = .returned (atR s).val ∧ Below w.heap.size w w' := by
  go_enter Tryz.func28, Tryz.ntmps28
  go_wp2
  exact bodyPost_ret (results_cell_row rfl _ _ w.heap.size _ _ _ _ rfl (heap_alloc_new _ _) Tryz.underlying34 rfl (by kernel_rfl)) rfl ⟨rfl, below_a1' w _⟩
set_option maxRecDepth 100000 in
theorem t_newLogNo (most : Int) (w : World) : Calls Tryz.prog 12 #[.int .i64 0, .int .i64 most] w fun e w' => e = .returned (.tuple #[.pointer none, .int .i64 2]) ∧ w = w' := by
  go_enter Tryz.func12, Tryz.ntmps12
  go_wp2
  go_ret2
  exact ⟨rfl, rfl⟩
set_option maxRecDepth 100000 in
set_option maxHeartbeats 4000000 in
theorem t_long23 (A : Option Addr) (c n : Nat) (l : List St) (w : World) (hl : StepsAt w A l) (hn : l.length = n) (hnc : n ≤ c) (hn2 : n ≤ maxLen) :
    Calls Tryz.prog 10 #[.slice A n c] w fun e w' => ∃ b : Bool, e = .returned (.bool b) ∧ (b = false → n ≤ 80) ∧ Below w.heap.size w w' := by
  have HN := Lib.hid hn
  have HL := Lib.hid hl
  clear hl hn
  go_enter Tryz.func10, Tryz.ntmps10
  go_wp2
  go_loopw [3, 4, 5] (fun u v x wr => ∃ (i : Nat) (m : Int) (A1 : Option Addr) (d1 : Nat), u = .slice A1 i d1 ∧ v = .int .i64 m ∧ x = .int .i64 (i : Int) ∧ i ≤ n ∧ i ≤ 200 ∧ Hid (wr.ownsRow w.heap.size 34 12 (.slice A1 i d1) i (flatR ((l.take i).map St.r)) ∧ Below w.heap.size w wr)) (fun _ _ x _ => n - (intOf x).toNat)
  case atStart => exact ⟨0, 0, none, 0, rfl, rfl, rfl, Nat.zero_le _, Nat.zero_le _, World.ownsRow_nil _ _ _ _, Below.refl _ _⟩
  case round =>
    obtain ⟨i, m, A1, d1, rfl, rfl, rfl, hi, hi1, HW⟩ := hrel
    by_cases he : i < n ∧ i < 200
    · obtain ⟨he, he1⟩ := he
      obtain ⟨s, hs⟩ : ∃ s, l[i]? = some s := ⟨l[i]'(by rw [HN.out]; omega), List.getElem?_eq_getElem _⟩
      obtain ⟨b, o, rfl, hbl, hc⟩ := HL.out.at_ (fun e => by rw [e] at hs; simp at hs)
      obtain ⟨a0, a1, f6, a3⟩ := hc i s hs
      have hcw : ∀ q v, w.cell? ⟨b, q, none⟩ = some v → wr.cell? ⟨b, q, none⟩ = some v := fun q v h => (World.cell?_of_block (a := ⟨b, q, none⟩) (HW.out.2.block b hbl)).trans h
      have r0 := hcw _ _ (f6 0 _ rfl)
      have r1 := hcw _ _ (f6 1 _ rfl)
      have r2 := hcw _ _ (f6 2 _ rfl)
      have r3 := hcw _ _ (f6 3 _ rfl)
      have r4 := hcw _ _ (f6 4 _ rfl)
      have r5 := hcw _ _ (f6 5 _ rfl)
      have r6 := hcw _ _ (f6 6 _ rfl)
      have r7 := hcw _ _ (f6 7 _ rfl)
      have r8 := hcw _ _ (f6 8 _ rfl)
      have r9 := hcw _ _ (f6 9 _ rfl)
      have r10 := hcw _ _ (f6 10 _ rfl)
      have r11 := hcw _ _ (f6 11 _ rfl)
      simp only [Nat.reduceAdd] at r0 r1 r2 r3 r4 r5 r6 r7 r8 r9 r10 r11
      have HS := Lib.hid hs
      have A3 := Lib.hid a3
      have HBL := Lib.hid hbl
      have hin : i < 60000 := by omega
      have hlen : ((l.take i).map St.r).length = i := by rw [List.length_map, List.length_take, HN.out]; omega
      have HLEN := Lib.hid hlen
      have hsn := (HL.out.st s (List.mem_of_getElem? hs)).2.2.2
      have HSN := Lib.hid hsn
      have hnext : Hid ((l.take i).map St.r ++ [s.r] = (l.take (i + 1)).map St.r) := by
        show _ = _
        rw [List.take_succ_eq_append_getElem (by rw [HN.out]; exact he), List.map_append]
        rw [List.getElem?_eq_getElem (by rw [HN.out]; exact he)] at hs
        rw [Option.some.inj hs]
        rfl
      clear hc hs f6 hbl hcw a0 a1 a3 hlen hsn
      by_cases h5 : 500 < wrap64 (m + (s.sn : Int))
      all_goals
        go_wp2_with (at_builtin; refine wpList_append_rec2 rfl _ _ rfl w.heap.size _ ((l.take i).map St.r) i (i + 1) HLEN.out rfl rfl (HW.out.1.alloc _) wr.heap.size s.r rfl (heap_alloc_new _ _) (by omega) (by rw [World.alloc_size']; have := HW.out.2.size; omega) ?_; intro A2 d2 W4 g4 g5 g6; have hb4 : Below w.heap.size w W4 := ⟨g5.os.trans HW.out.2.os, g5.tape.trans HW.out.2.tape, g5.output.trans HW.out.2.output, Nat.le_trans HW.out.2.size (Nat.le_trans (by rw [World.alloc_size']; omega) g5.size), fun q hq => (g5.block q (by rw [World.alloc_size']; have := HW.out.2.size; omega) (fun e => by have := (HW.out.1.lt q e.symm).1; omega)).trans ((heap_alloc_old _ _ (by have := HW.out.2.size; omega)).trans (HW.out.2.block q hq))⟩; have H4 := Lib.hid (And.intro g4 hb4); have a34 := (World.cell?_of_block (a := ⟨b, o + i * 15 + 14, none⟩) (hb4.block b HBL.out)).trans A3.out; clear g4 g5 g6 hb4)
      · go_ret
        exact ⟨true, rfl, (fun h => by cases h), H4.out.2⟩
      · go_roundw
        case rel => exact ⟨i + 1, _, A2, d2, rfl, rfl, rfl, he, by omega, hnext.out ▸ H4.out.1, H4.out.2⟩
        case measure => simp only [intOf]; omega
    · have hlen : ((l.take i).map St.r).length = i := by rw [List.length_map, List.length_take, HN.out]; omega
      have hrec := recs_of_row HW.out.1 hlen (fun r hr => by
        obtain ⟨s, hs, rfl⟩ := List.mem_map.1 hr
        exact HL.out.ok s (List.mem_of_mem_take hs))
      have hcall := t_many22 A1 i d1 _ wr hrec hlen (by omega)
      have HC := Lib.hid hcall
      clear hcall hrec hlen
      by_cases h60 : 80 < n <;> by_cases hin : i < n
      all_goals
        try have h200 : ¬ i < 200 := fun e => he ⟨hin, e⟩
        go_wp2_with (go_at_call 50; (with_reducible refine HC.out.mono ?_); rintro e w2 ⟨hrb, hb⟩; obtain ⟨bb, rfl⟩ := hrb.get; have H2 := Lib.hid (HW.out.2.trans (hb.mono HW.out.2.size)); clear hb)
      all_goals
        go_ret
        first
          | exact .inr ⟨rfl, HW.out.2⟩
          | exact ⟨_, rfl, fun _ => by omega, H2.out⟩
end Go.Proofs.YtehckjkihaalfaaGreat
