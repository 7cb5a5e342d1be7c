/- What the arguments' reading gives: tallies; the table of powers. -/
import Derived.Test.YtenddeglhjmhcaaDoorUF
import Derived.Test.YtenddeglhjmhcaaDoorRows
import Derived.MakeChecks
import Derived.LaidLaws
import Derived.LaidHandle
import Derived.LaidMore
import Derived.OpenShut
import Derived.Stop.Joined
import Derived.Stop.LaidErr
import Derived.Lib.LaidTab
import Derived.ChangeAt
import Derived.Deep.Slices
import Derived.Deep.Fields
import Derived.ChangeMaps5
import Derived.Carry
import Derived.ProofKit
import Derived.SizedLaws
namespace Go.Proofs.YtenddeglhjmhcaaDoor
open Go.ChangeShapes Go.WideShapes Go.ChangeAt Go.RowKit

section
variable {H : Type} {enc : TypeId × Value → H} {P : Program}

/-- All arguments read as they did. -/
theorem trodAll_below (hl : laidOutB P = true) {W W' : World} (hb : Below W.heap.size W W') :
    ∀ (ts : List TypeId) (vs : List Value) (ds : List (DataW H)) (ps : List MemPlace), (∀ t ∈ ts, P.readableRec t = true ∧ t < P.types.size) →
      DataW.TrodAll enc P W 0 (fun _ => true) true ts vs ds ps → (∀ x ∈ ps, x.block < W.heap.size) → DataW.TrodAll enc P W' 0 (fun b => decide (b < W.heap.size)) true ts vs ds ps
  | [], [], [], ps, _, h, _ => h
  | t :: ts, v :: vs, d :: ds, ps, hr, h, hlt => by
    obtain ⟨p, q, h1, h2, rfl⟩ := h
    refine ⟨p, q, ?_, ?_, rfl⟩
    · exact Below.trod hl (hr t (List.mem_cons_self ..)).1 (hr t (List.mem_cons_self ..)).2 h1 hb (fun x hx => hlt x (List.mem_append_left _ hx))
    · exact trodAll_below hl hb ts vs ds q (fun t ht => hr t (List.mem_cons_of_mem _ ht)) h2 (fun x hx => hlt x (List.mem_append_right _ hx))
  | [], [], _ :: _, _, _, h, _ => h.elim
  | [], _ :: _, _, _, _, h, _ => h.elim
  | _ :: _, [], _, _, _, h, _ => h.elim
  | _ :: _, _ :: _, [], _, _, h, _ => h.elim

theorem law_post {f : Func} {s : ChangeSpec} {tb : TypeId} {W W' : World} {args : Array Value} {ds gs : List (DataW H)} {before : List MemPlace}
    (hl : laidOutB P = true) (hr : f.params.toList.all (fun t => P.readableRec t && decide (t < P.types.size)) = true) (hv : s.vars = []) (hrt : f.resultTypes = #[tb]) (htb : P.underlying tb = some .bool)
    (hW : DataW.Whole enc P f.params.toList s.vars false W args.toList ds gs before)
    (hfn : s.fn H (ds ++ gs) = { results := [.lit (.bool true)], args := ds }) (hb : Below W.heap.size W W') :
    s.post enc P f false true false false W args (.bool true) W' := by
  have hW' := hW
  obtain ⟨p, q, hA, hV, rfl, _, _⟩ := hW
  rw [hv] at hV
  obtain ⟨rfl, rfl⟩ := trodVars_none hV
  have hlt : ∀ x ∈ p, x.block < W.heap.size := fun x hx => by simpa using hW'.lt x (List.mem_append_left _ hx)
  refine ⟨ds, [], p ++ [], [], p, [], hW', ?_, ?_, ?_, hb.frame _, fun h => by cases h⟩
  · rw [hfn, hrt]
    exact trodAll_mk1 (shut_bool htb true)
  · rw [hfn]
    exact trodAll_below hl hb _ _ _ _ (fun t ht => by have := List.all_eq_true.1 hr t ht; simpa using this) hA hlt
  · rw [hfn, hv]
    rfl

end

theorem own : ownKnob Tryd.prog.godebug = none := by kernel_rfl
theorem laidOut : laidOutB Tryd.prog = true := by kernel_rfl
abbrev laidC : List (String × DataW Unit) := [("math/bits.deBruijn32tab", Rows.laid_math_bits_deBruijn32tab), ("math/bits.deBruijn64tab", Rows.laid_math_bits_deBruijn64tab), ("internal/strconv.uint64pow10", Rows.laid_internal_strconv_uint64pow10)]
theorem cells_tally : Tryd.prog.cellsOf 26 = 22 := by kernel_rfl
theorem cells_a4 : Tryd.prog.cellsOf 23 = 4 := by kernel_rfl
theorem cells_a16 : Tryd.prog.cellsOf 24 = 16 := by kernel_rfl
theorem cells7_int : Tryd.prog.cellsOf 3 = 1 := by kernel_rfl
theorem at_cell7 {H : Type} {enc : TypeId × Value → H} {w : World} {base n q : Nat} {spare : Nat → Bool} {held : Bool} {T : TypeId} {xs : List (DataW H × List MemPlace)} {cs : List Value} (hc : Tryd.prog.cellsOf T = 1)
    (h : DataW.trod enc Tryd.prog w base spare held n T ((cs.drop q).take (Tryd.prog.cellsOf T)) = xs[q]?) (c : Value) (hq : cs[q]? = some c) (hx : q < xs.length) : ∃ y, DataW.trod enc Tryd.prog w base spare held n T [c] = some y := by
  obtain ⟨h1, rfl⟩ := List.getElem?_eq_some_iff.1 hq
  rw [hc, List.drop_eq_getElem_cons h1, List.take_succ_cons, List.take_zero, List.getElem?_eq_getElem hx] at h
  exact ⟨_, h⟩
theorem at_cell_in {H : Type} {enc : TypeId × Value → H} {w : World} {base n q p : Nat} {spare : Nat → Bool} {held : Bool} {T : TypeId} {xs : List (DataW H × List MemPlace)} {cs : List Value} (hc : Tryd.prog.cellsOf T = 1)
    (h : DataW.trod enc Tryd.prog w base spare held n T ((cs.drop p).take (Tryd.prog.cellsOf T)) = xs[q]?) (c : Value) (hq : cs[p]? = some c) (hx : q < xs.length) : DataW.trod enc Tryd.prog w base spare held n T [c] = some xs[q] := by
  obtain ⟨h1, rfl⟩ := List.getElem?_eq_some_iff.1 hq
  rw [hc, List.drop_eq_getElem_cons h1, List.take_succ_cons, List.take_zero, List.getElem?_eq_getElem hx] at h
  exact h
theorem i64_wf {x : Int} (w : (Lit.int .i64 x).wf = true) : I64 x := by
  have : -9223372036854775808 ≤ x ∧ x ≤ 9223372036854775807 := by simpa [Lit.wf, IntKind.min, IntKind.max, IntKind.signed, IntKind.bits] using w
  exact this
theorem list_ints : ∀ (cs : List Value), (∀ k : Nat, k < cs.length → ∃ x, cs[k]? = some (.int .i64 x) ∧ I64 x) → ∃ l : List Int, cs = l.map intV ∧ ∀ x ∈ l, I64 x
  | [], _ => ⟨[], rfl, fun _ h => by simp at h⟩
  | c :: cs, h => by
    obtain ⟨x, hx, hi⟩ := h 0 (by simp)
    obtain ⟨l, rfl, hl⟩ := list_ints cs fun k hk => h (k + 1) (by simpa using hk)
    simp only [List.getElem?_cons_zero, Option.some.injEq] at hx
    subst hx
    exact ⟨x :: l, rfl, fun y hy => by
      rcases List.mem_cons.1 hy with rfl | hy
      · exact hi
      · exact hl y hy⟩
set_option maxRecDepth 100000 in
/-- A row of numbers. -/
theorem arr_trod {H : Type} {enc : TypeId × Value → H} {w : World} {base n m : Nat} {spare : Nat → Bool} {held : Bool} {T : TypeId} {cs : List Value} {x : DataW H × List MemPlace} (hu : Tryd.prog.underlying T = some (.array m 3)) (hc : Tryd.prog.cellsOf T = m) (hf : DataW.trod enc Tryd.prog w base spare held n T cs = some x) :
    ∃ l : List Int, cs = l.map intV ∧ l.length = m ∧ ∀ x ∈ l, I64 x := by
  obtain ⟨xs, k, _, _, hl, hlen, hk⟩ := DataW.trod_array hu hf
  rw [hc] at hl
  obtain ⟨l, rfl, hi⟩ := list_ints cs fun j hj => by
    have h1 := hk j (by omega)
    rw [cells7_int, Nat.mul_one] at h1
    have ht := at_cell_in cells7_int (p := j) (by rw [cells7_int]; exact h1) _ (List.getElem?_eq_getElem hj) (by omega)
    obtain ⟨y, e, _, wf⟩ := DataW.trod_int Tryd.underlying3 ht
    simp only [List.cons.injEq, and_true] at e
    exact ⟨y, by rw [List.getElem?_eq_getElem hj, e], i64_wf wf⟩
  exact ⟨l, rfl, by simpa using hl, hi⟩
set_option maxRecDepth 100000 in
/-- One tally. -/
theorem tally_trod {H : Type} {enc : TypeId × Value → H} {w : World} {base n : Nat} {spare : Nat → Bool} {held : Bool} {cs : List Value} {x : DataW H × List MemPlace} (hf : DataW.trod enc Tryd.prog w base spare held n 26 cs = some x) :
    ∃ t : List Int, cs = t.map intV ∧ Tal t := by
  obtain ⟨xs, m, _, _, hl, hlen, hk⟩ := DataW.trod_struct Tryd.underlying26 hf
  rw [cells_tally] at hl
  have h0 : DataW.trod enc Tryd.prog w base spare held m 23 (cs.take 4) = xs[0]? := by
    rw [← hk 0 _ rfl]
    show _ = DataW.trod enc Tryd.prog w base spare held m 23 ((cs.drop 0).take (Tryd.prog.cellsOf 23))
    rw [cells_a4, List.drop_zero]
  have h1 : DataW.trod enc Tryd.prog w base spare held m 24 ((cs.drop 4).take 16) = xs[1]? := by
    rw [← hk 1 _ rfl]
    show _ = DataW.trod enc Tryd.prog w base spare held m 24 ((cs.drop 4).take (Tryd.prog.cellsOf 24))
    rw [cells_a16]
  rw [List.getElem?_eq_getElem (by rw [hlen]; decide)] at h0 h1
  obtain ⟨a, ea, la, ia⟩ := arr_trod Tryd.underlying23 cells_a4 h0
  obtain ⟨b, eb, lb, ib⟩ := arr_trod Tryd.underlying24 cells_a16 h1
  have t2 := at_cell_in (cs := cs) (p := 20) cells7_int (hk 2 _ rfl) _ (List.getElem?_eq_getElem (by omega)) (by rw [hlen]; decide)
  have t3 := at_cell_in (cs := cs) (p := 21) cells7_int (hk 3 _ rfl) _ (List.getElem?_eq_getElem (by omega)) (by rw [hlen]; decide)
  obtain ⟨y, e2, _, w2⟩ := DataW.trod_int Tryd.underlying3 t2
  obtain ⟨z, e3, _, w3⟩ := DataW.trod_int Tryd.underlying3 t3
  simp only [List.cons.injEq, and_true] at e2 e3
  refine ⟨a ++ (b ++ [y, z]), ?_, ?_, ?_⟩
  · rw [List.map_append, List.map_append, ← ea, ← eb]
    have hd : cs.drop 20 = [intV y, intV z] := by
      rw [List.drop_eq_getElem_cons (by omega), List.drop_eq_getElem_cons (by omega), List.drop_of_length_le (by omega), e2, e3]
    show cs = cs.take 4 ++ ((cs.drop 4).take 16 ++ [intV y, intV z])
    rw [← hd, show cs.drop 20 = (cs.drop 4).drop 16 by rw [List.drop_drop], List.take_append_drop, List.take_append_drop]
  · rw [List.length_append, List.length_append, la, lb]; rfl
  · intro q hq
    rcases List.mem_append.1 hq with h | h
    · exact ia q h
    · rcases List.mem_append.1 h with h | h
      · exact ib q h
      · rcases List.mem_cons.1 h with rfl | h
        · exact i64_wf w2
        · rw [List.mem_singleton.1 h]; exact i64_wf w3
theorem add_flat {b o : Nat} (i : Nat) : (⟨b, o, none⟩ : Addr).add i = ⟨b, o + i, none⟩ := by unfold Addr.add; split <;> simp_all
theorem addr_flat {W : World} {a : Addr} {v : Value} (h : W.cell? a = some v) : ∃ b o, a = ⟨b, o, none⟩ ∧ b < W.heap.size := by
  obtain ⟨ab, ao, asp⟩ := a
  have hsn : asp = none := by
    cases asp with
    | none => rfl
    | some s =>
      exfalso
      simp [World.cell?] at h
      split at h <;> cases h
  subst hsn
  exact ⟨ab, ao, rfl, World.block_lt_of_cell? W _ h⟩
set_option maxRecDepth 100000 in
/-- What the argument's reading gives. -/
theorem tallies_of {H : Type} {enc : TypeId × Value → H} {W : World} {sp : Nat → Bool} {held : Bool} {v : Value} {d : DataW H} {p : List MemPlace} (hv : ∃ a len cap, v = .slice a len cap) (h : DataW.Trod enc Tryd.prog W 0 sp held 22 v d p) :
    ∃ (A : Option Addr) (n c : Nat) (l : List (List Int)), v = .slice A n c ∧ n ≤ c ∧ c ≤ maxLen ∧ l.length = n ∧ TalsAt W A l ∧ ∀ t ∈ l, Tal t := by
  obtain ⟨a0, len, cap, rfl⟩ := hv
  obtain ⟨fuel, hf⟩ := h
  rcases Go.Deep.open_slice Tryd.underlying22 hf with ⟨h0, _⟩ | ⟨a, len', cap', m, n, D, Pl, h0, _, hl, hm, hmm, _, hi⟩
  · simp [Value.cells] at h0
    obtain ⟨rfl, rfl, rfl⟩ := h0
    exact ⟨none, 0, 0, [], rfl, Nat.le_refl _, Nat.zero_le _, rfl, fun h => absurd rfl h, fun s hs => by simp at hs⟩
  · simp [Value.cells] at h0
    obtain ⟨rfl, rfl, rfl⟩ := h0
    have hall : ∀ i, i < len → ∃ e : List Int, (∀ j v, (e.map intV)[j]? = some v → W.cell? (a.add (i * 22 + j)) = some v) ∧ Tal e := by
      intro i hlt
      obtain ⟨cs', hc, ht'⟩ := hi i (by rw [hmm]; split <;> omega)
      rw [cells_tally] at hc
      obtain ⟨e, he, h1⟩ := tally_trod ht'
      obtain ⟨_, hlen, hat⟩ := World.cells?_some hc
      refine ⟨e, fun j v hv => ?_, h1⟩
      have hj : j < 22 := by have := (List.getElem?_eq_some_iff.1 hv).1; rw [List.length_map, h1.1] at this; exact this
      have := hat j hj
      rw [Go.Deep.add_add] at this
      rw [this, he, hv]
    let f : Nat → List Int := fun i => if h : i < len then Classical.choose (hall i h) else []
    have hspec : ∀ i, (h : i < len) → (∀ j v, ((f i).map intV)[j]? = some v → W.cell? (a.add (i * 22 + j)) = some v) ∧ Tal (f i) := by
      intro i h
      have := Classical.choose_spec (hall i h)
      simp only [f, dif_pos h]
      exact this
    refine ⟨_, _, _, (List.range len).map f, rfl, hl, hm, by simp, fun hpos => ?_, fun e he => ?_⟩
    · have hlen : 0 < len := by
        rcases Nat.eq_zero_or_pos len with h | h
        · subst h
          exact absurd rfl hpos
        · exact h
      obtain ⟨y0, hy0⟩ : ∃ y, ((f 0).map intV)[0]? = some y := ⟨_, List.getElem?_eq_getElem (by rw [List.length_map, (hspec 0 hlen).2.1]; decide)⟩
      have h0 := (hspec 0 hlen).1 0 _ hy0
      have hb : ∃ b o, a = ⟨b, o, none⟩ ∧ b < W.heap.size := by
        obtain ⟨b, o, h1, h2⟩ := addr_flat h0
        obtain ⟨ab, ao, asp⟩ := a
        simp only [Addr.add] at h1
        obtain ⟨rfl, _, rfl⟩ := h1
        exact ⟨_, _, rfl, h2⟩
      obtain ⟨b, o, rfl, hlt⟩ := hb
      refine ⟨b, o, rfl, hlt, fun k s hk j v hv => ?_⟩
      rw [List.getElem?_map] at hk
      have hkl : k < len := by
        by_cases h : k < len
        · exact h
        · rw [List.getElem?_eq_none (by simpa using h)] at hk; cases hk
      rw [List.getElem?_range hkl] at hk
      simp only [Option.map_some, Option.some.injEq] at hk
      subst hk
      have := (hspec k hkl).1 j v hv
      simp only [add_flat, ← Nat.add_assoc] at this
      exact this
    · obtain ⟨i, hi, rfl⟩ := List.mem_map.1 he
      exact (hspec i (by simpa using hi)).2
/-- A tally that is handed in. -/
theorem tally_of {H : Type} {enc : TypeId × Value → H} {W : World} {sp : Nat → Bool} {held : Bool} {v : Value} {d : DataW H} {p : List MemPlace} (hv : ∃ cs, v = .agg cs) (h : DataW.Trod enc Tryd.prog W 0 sp held 26 v d p) : ∃ x : List Int, v = talV x ∧ Tal x := by
  obtain ⟨cs, rfl⟩ := hv
  obtain ⟨fuel, hf⟩ := h
  obtain ⟨x, hx, ht⟩ := tally_trod hf
  have hc : cs.toList = x.map intV := hx
  exact ⟨x, by rw [talV, ← hc, Array.toArray_toList], ht⟩
/-- The table of powers stands as its text lays it. -/
theorem tab_of_laid {W : World} (h : laidMetH Tryd.prog laidC W) : Tab W := by
  rw [Go.MakeChecks.laidMetH_plain _ _ _ (by kernel_rfl)] at h
  have h3 : laidMet Tryd.prog [("internal/strconv.uint64pow10", Lib.tabData .u64 Lib.pow10Tab)] W := h.tail.tail
  exact Lib.tabIs_of_head (g := 0) (t := 97) (e := 53) (n := 20) (by kernel_rfl) (by kernel_rfl) Tryd.underlying97 Tryd.underlying53 (by kernel_rfl) (by kernel_rfl) h3
end Go.Proofs.YtenddeglhjmhcaaDoor
