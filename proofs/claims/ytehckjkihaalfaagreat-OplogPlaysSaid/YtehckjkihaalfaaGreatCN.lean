/- What the arguments of the laws of closures read as. -/
import Derived.Test.YtehckjkihaalfaaGreatCM
import Derived.Test.YtehckjkihaalfaaGreatRows
import Derived.Carry
import Derived.ProofKit
import Derived.SizedLaws
import Derived.Deep.Slices
import Derived.Deep.Fields
import Derived.ChangeMaps5
import Derived.ChangeSlices
namespace Go.Proofs.YtehckjkihaalfaaGreat
open Go.ChangeShapes Go.WideShapes Go.ChangeAt Go.RowKit

section
variable {H : Type} {enc : TypeId × Value → H} {P : Program}

/-- All arguments read as they did. -/
theorem trodAll_below (hl : laidOutB P = true) {W W' : World} (hb : Below W.heap.size W W') :
    ∀ (ts : List TypeId) (vs : List Value) (ds : List (DataW H)) (ps : List MemPlace), (∀ t ∈ ts, P.readableRec t = true ∧ t < P.types.size) →
      DataW.TrodAll enc P W 0 (fun _ => true) true ts vs ds ps → (∀ x ∈ ps, x.block < W.heap.size) → DataW.TrodAll enc P W' 0 (fun b => decide (b < W.heap.size)) true ts vs ds ps
  | [], [], [], ps, _, h, _ => h
  | t :: ts, v :: vs, d :: ds, ps, hr, h, hlt => by
    obtain ⟨p, q, h1, h2, rfl⟩ := h
    refine ⟨p, q, ?_, ?_, rfl⟩
    · exact Below.trod hl (hr t (List.mem_cons_self ..)).1 (hr t (List.mem_cons_self ..)).2 h1 hb (fun x hx => hlt x (List.mem_append_left _ hx))
    · exact trodAll_below hl hb ts vs ds q (fun t ht => hr t (List.mem_cons_of_mem _ ht)) h2 (fun x hx => hlt x (List.mem_append_right _ hx))
  | [], [], _ :: _, _, _, h, _ => h.elim
  | [], _ :: _, _, _, _, h, _ => h.elim
  | _ :: _, [], _, _, _, h, _ => h.elim
  | _ :: _, _ :: _, [], _, _, h, _ => h.elim

theorem law_post {f : Func} {s : ChangeSpec} {tb : TypeId} {W W' : World} {args : Array Value} {ds gs : List (DataW H)} {before : List MemPlace}
    (hl : laidOutB P = true) (hr : f.params.toList.all (fun t => P.readableRec t && decide (t < P.types.size)) = true) (hv : s.vars = []) (hrt : f.resultTypes = #[tb]) (htb : P.underlying tb = some .bool)
    (hW : DataW.Whole enc P f.params.toList s.vars false W args.toList ds gs before)
    (hfn : s.fn H (ds ++ gs) = { results := [.lit (.bool true)], args := ds }) (hb : Below W.heap.size W W') :
    s.post enc P f false true false false W args (.bool true) W' := by
  have hW' := hW
  obtain ⟨p, q, hA, hV, rfl, _, _⟩ := hW
  rw [hv] at hV
  obtain ⟨rfl, rfl⟩ := trodVars_none hV
  have hlt : ∀ x ∈ p, x.block < W.heap.size := fun x hx => by simpa using hW'.lt x (List.mem_append_left _ hx)
  refine ⟨ds, [], p ++ [], [], p, [], hW', ?_, ?_, ?_, hb.frame _, fun h => by cases h⟩
  · rw [hfn, hrt]
    exact trodAll_mk1 (shut_bool htb true)
  · rw [hfn]
    exact trodAll_below hl hb _ _ _ _ (fun t ht => by have := List.all_eq_true.1 hr t ht; simpa using this) hA hlt
  · rw [hfn, hv]
    rfl

/-- A slice of structs whose fields are a cell each: every field's cell, and that it reads as the field's type. -/
theorem structs_open {w : World} {base : Nat} {spare : Nat → Bool} {held : Bool} {t e : TypeId} {fs : Array Field} {fuel : Nat} {cs : List Value} {x : DataW H × List MemPlace}
    (ht : P.underlying t = some (.slice e)) (he : P.underlying e = some (.struct fs)) (hone : Go.Deep.oneCellFields P fs = true) (hC : P.cellsOf e = fs.size) (h : DataW.trod enc P w base spare held fuel t cs = some x) :
    cs = [.slice none 0 0] ∨ ∃ (a : Addr) (len cap : Nat), cs = [.slice (some a) len cap] ∧ len ≤ cap ∧ cap ≤ maxLen ∧
      ∀ i, i < len → ∀ (j : Nat) (f : Field), fs[j]? = some f → ∃ (v : Value) (y : DataW H × List MemPlace) (n : Nat), w.cell? (a.add (i * fs.size + j)) = some v ∧ DataW.trod enc P w base spare held n f.type [v] = some y := by
  rcases Go.Deep.open_slice ht h with h0 | ⟨a, len, cap, m, n, D, Pl, hcs, _, hl, hm, hmm, _, hi⟩
  · exact .inl h0.1
  · refine .inr ⟨a, len, cap, hcs, hl, hm, fun i hlt j f hj => ?_⟩
    obtain ⟨cs', hc, ht'⟩ := hi i (by rw [hmm]; split <;> omega)
    obtain ⟨xs, n', _, _, hlen, hxl, hf⟩ := DataW.trod_struct he ht'
    rw [hC] at hc hlen
    obtain ⟨_, _, hat⟩ := World.cells?_some hc
    obtain ⟨ho, hk⟩ := Go.Deep.hone_of hone j f hj
    have hjl : j < fs.size := (Array.getElem?_eq_some_iff.1 hj).1
    have h1 := hf j f hj
    rw [ho, hk, List.drop_eq_getElem_cons (by omega), List.take_succ_cons, List.take_zero] at h1
    refine ⟨cs'[j]'(by omega), xs[j]'(by omega), n', ?_, h1.trans (List.getElem?_eq_getElem (by omega))⟩
    have := hat j hjl
    rw [Go.Deep.add_add] at this
    rw [this]
    exact List.getElem?_eq_getElem (by omega)
end


theorem trodAll_two {H : Type} {enc : TypeId × Value → H} {P : Program} {w : World} {base : Nat} {spare : Nat → Bool} {held : Bool} {t0 t1 : TypeId} {args : Array Value} {ds : List (DataW H)} {ps : List MemPlace} (h : DataW.TrodAll enc P w base spare held [t0, t1] args.toList ds ps) :
    ∃ v0 v1 d0 d1 p0 p1, args = #[v0, v1] ∧ ds = [d0, d1] ∧ ps = p0 ++ p1 ∧ DataW.Trod enc P w base spare held t0 v0 d0 p0 ∧ DataW.Trod enc P w base spare held t1 v1 d1 p1 := by
  obtain ⟨v0, vs0, d0, ds0, p0, q0, hargs, rfl, rfl, h0, r0⟩ := trodAll_cons h
  obtain ⟨v1, vs1, d1, ds1, p1, q1, rfl, rfl, rfl, h1, r1⟩ := trodAll_cons r0
  obtain ⟨rfl, rfl, rfl⟩ := trodAll_nil r1
  exact ⟨v0, v1, d0, d1, p0, p1, by cases args; simp_all, rfl, by simp, h0, h1⟩
theorem own : ownKnob Tryz.prog.godebug = none := by kernel_rfl
theorem laidOut : laidOutB Tryz.prog = true := by kernel_rfl
theorem cellsR12 : Tryz.prog.cellsOf 34 = 12 := by kernel_rfl
theorem cells_u32 : Tryz.prog.cellsOf 32 = 1 := by kernel_rfl
theorem cells_int : Tryz.prog.cellsOf 3 = 1 := by kernel_rfl
theorem add_flat {b o : Nat} (i : Nat) : (⟨b, o, none⟩ : Addr).add i = ⟨b, o + i, none⟩ := by unfold Addr.add; split <;> simp_all
theorem recs_of {H : Type} {enc : TypeId × Value → H} {W : World} {sp : Nat → Bool} {held : Bool} {v : Value} {d : DataW H} {p : List MemPlace} (hv : ∃ a len cap, v = .slice a len cap) (h : DataW.Trod enc Tryz.prog W 0 sp held 37 v d p) :
    ∃ (A : Option Addr) (n c : Nat) (l : List R), v = .slice A n c ∧ n ≤ c ∧ n ≤ maxLen ∧ l.length = n ∧ RecsAt W A l := by
  obtain ⟨a0, len, cap, rfl⟩ := hv
  obtain ⟨fuel, hf⟩ := h
  rcases structs_open Tryz.underlying37 Tryz.underlying34 (by kernel_rfl) cellsR12 hf with h0 | ⟨a, len', cap', h0, hl, hm, hc⟩
  · simp [Value.cells] at h0
    obtain ⟨rfl, rfl, rfl⟩ := h0
    exact ⟨none, 0, 0, [], rfl, Nat.le_refl _, Nat.zero_le _, rfl, ⟨fun h => absurd rfl h, fun r hr => by simp at hr⟩⟩
  · simp [Value.cells] at h0
    obtain ⟨rfl, rfl, rfl⟩ := h0
    have hall : ∀ i, i < len → ∃ r : R, (∀ (j : Nat) (u : Value), (cellsR r)[j]? = some u → W.cell? (a.add (i * 12 + j)) = some u) ∧ RecOk r := by
      intro i hi
      obtain ⟨v0, y0, n0, c0, t0⟩ := hc i hi 0 _ rfl
      obtain ⟨v1, y1, n1, c1, t1⟩ := hc i hi 1 _ rfl
      obtain ⟨v2, y2, n2, c2, t2⟩ := hc i hi 2 _ rfl
      obtain ⟨v3, y3, n3, c3, t3⟩ := hc i hi 3 _ rfl
      obtain ⟨v4, y4, n4, c4, t4⟩ := hc i hi 4 _ rfl
      obtain ⟨v5, y5, n5, c5, t5⟩ := hc i hi 5 _ rfl
      obtain ⟨v6, y6, n6, c6, t6⟩ := hc i hi 6 _ rfl
      obtain ⟨v7, y7, n7, c7, t7⟩ := hc i hi 7 _ rfl
      obtain ⟨v8, y8, n8, c8, t8⟩ := hc i hi 8 _ rfl
      obtain ⟨v9, y9, n9, c9, t9⟩ := hc i hi 9 _ rfl
      obtain ⟨v10, y10, n10, c10, t10⟩ := hc i hi 10 _ rfl
      obtain ⟨v11, y11, n11, c11, t11⟩ := hc i hi 11 _ rfl
      obtain ⟨x0, e0, _, w0⟩ := DataW.trod_int Tryz.underlying31 t0
      obtain ⟨x1, e1, _, w1⟩ := DataW.trod_int Tryz.underlying5 t1
      obtain ⟨x2, e2, _, w2⟩ := DataW.trod_int Tryz.underlying32 t2
      obtain ⟨x3, e3, _, w3⟩ := DataW.trod_string Tryz.underlying9 t3
      obtain ⟨x4, e4, _, w4⟩ := DataW.trod_int Tryz.underlying32 t4
      obtain ⟨x5, e5, _, w5⟩ := DataW.trod_int Tryz.underlying5 t5
      obtain ⟨x6, e6, _, w6⟩ := DataW.trod_int Tryz.underlying32 t6
      obtain ⟨x7, e7, _, w7⟩ := DataW.trod_string Tryz.underlying9 t7
      obtain ⟨x8, e8, _, w8⟩ := DataW.trod_int Tryz.underlying32 t8
      obtain ⟨x9, e9, _, w9⟩ := DataW.trod_int Tryz.underlying32 t9
      obtain ⟨x10, e10, _, w10⟩ := DataW.trod_int Tryz.underlying3 t10
      obtain ⟨x11, e11, _, w11⟩ := DataW.trod_string Tryz.underlying9 t11
      simp only [List.cons.injEq, and_true] at e0 e1 e2 e3 e4 e5 e6 e7 e8 e9 e10 e11
      subst e0; subst e1; subst e2; subst e3; subst e4; subst e5; subst e6; subst e7; subst e8; subst e9; subst e10; subst e11
      have r0 : 0 ≤ x0 ∧ x0 ≤ 18446744073709551615 := by simpa [Lit.wf, IntKind.min, IntKind.max, IntKind.signed, IntKind.bits] using w0
      have r1 : 0 ≤ x1 ∧ x1 ≤ 255 := by simpa [Lit.wf, IntKind.min, IntKind.max, IntKind.signed, IntKind.bits] using w1
      have r2 : 0 ≤ x2 ∧ x2 ≤ 4294967295 := by simpa [Lit.wf, IntKind.min, IntKind.max, IntKind.signed, IntKind.bits] using w2
      have r4 : 0 ≤ x4 ∧ x4 ≤ 4294967295 := by simpa [Lit.wf, IntKind.min, IntKind.max, IntKind.signed, IntKind.bits] using w4
      have r5 : 0 ≤ x5 ∧ x5 ≤ 255 := by simpa [Lit.wf, IntKind.min, IntKind.max, IntKind.signed, IntKind.bits] using w5
      have r6 : 0 ≤ x6 ∧ x6 ≤ 4294967295 := by simpa [Lit.wf, IntKind.min, IntKind.max, IntKind.signed, IntKind.bits] using w6
      have r8 : 0 ≤ x8 ∧ x8 ≤ 4294967295 := by simpa [Lit.wf, IntKind.min, IntKind.max, IntKind.signed, IntKind.bits] using w8
      have r9 : 0 ≤ x9 ∧ x9 ≤ 4294967295 := by simpa [Lit.wf, IntKind.min, IntKind.max, IntKind.signed, IntKind.bits] using w9
      refine ⟨⟨x0, x1, x2, x3, x4, x5, x6, x7, x8, x9, x10, x11⟩, fun j u hu => ?_, ⟨⟨r0, r1, r2, r4, r5, r6, r8, r9⟩, w3, w7, w11⟩⟩
      have hj : j < 12 := (Array.getElem?_eq_some_iff.1 hu).1
      rcases j with _ | _ | _ | _ | _ | _ | _ | _ | _ | _ | _ | _ | j
      · obtain rfl := Option.some.inj hu; exact c0
      · obtain rfl := Option.some.inj hu; exact c1
      · obtain rfl := Option.some.inj hu; exact c2
      · obtain rfl := Option.some.inj hu; exact c3
      · obtain rfl := Option.some.inj hu; exact c4
      · obtain rfl := Option.some.inj hu; exact c5
      · obtain rfl := Option.some.inj hu; exact c6
      · obtain rfl := Option.some.inj hu; exact c7
      · obtain rfl := Option.some.inj hu; exact c8
      · obtain rfl := Option.some.inj hu; exact c9
      · obtain rfl := Option.some.inj hu; exact c10
      · obtain rfl := Option.some.inj hu; exact c11
      · omega
    let f : Nat → R := fun i => if h : i < len then Classical.choose (hall i h) else ⟨0, 0, 0, ⟨#[]⟩, 0, 0, 0, ⟨#[]⟩, 0, 0, 0, ⟨#[]⟩⟩
    have hspec : ∀ i, (h : i < len) → (∀ (j : Nat) (u : Value), (cellsR (f i))[j]? = some u → W.cell? (a.add (i * 12 + j)) = some u) ∧ RecOk (f i) := by
      intro i h
      have := Classical.choose_spec (hall i h)
      simp only [f, dif_pos h]
      exact this
    refine ⟨_, _, _, (List.range len).map f, rfl, hl, Nat.le_trans hl hm, by simp, ⟨fun hpos => ?_, fun r hr => ?_⟩⟩
    · have hlen : 0 < len := by
        rcases Nat.eq_zero_or_pos len with h | h
        · subst h
          exact absurd rfl hpos
        · exact h
      have h0 := (hspec 0 hlen).1 0 _ rfl
      obtain ⟨ab, ao, asp⟩ := a
      have hsn : asp = none := by
        cases asp with
        | none => rfl
        | some s =>
          exfalso
          simp [World.cell?, Addr.add] at h0
          split at h0 <;> cases h0
      subst hsn
      refine ⟨ab, ao, rfl, ?_, fun k r hk i u hu => ?_⟩
      · simp only [add_flat] at h0
        exact World.block_lt_of_cell? W _ h0
      · rw [List.getElem?_map] at hk
        have hkl : k < len := by
          by_cases h : k < len
          · exact h
          · rw [List.getElem?_eq_none (by simpa using h)] at hk; cases hk
        rw [List.getElem?_range hkl] at hk
        simp only [Option.map_some, Option.some.injEq] at hk
        subst hk
        have := (hspec k hkl).1 i u hu
        simp only [add_flat, ← Nat.add_assoc] at this
        exact this
    · obtain ⟨i, hi, rfl⟩ := List.mem_map.1 hr
      exact (hspec i (by simpa using hi)).2
/-- A row of integers. -/
theorem nums_of {H : Type} {enc : TypeId × Value → H} {W : World} {sp : Nat → Bool} {held : Bool} {k : IntKind} {t e : TypeId} {v : Value} {d : DataW H} {p : List MemPlace} (ht : Tryz.prog.underlying t = some (.slice e)) (he : Tryz.prog.underlying e = some (.int k)) (hc1 : Tryz.prog.cellsOf e = 1) (hv : ∃ a len cap, v = .slice a len cap) (h : DataW.Trod enc Tryz.prog W 0 sp held t v d p) :
    ∃ (A : Option Addr) (n c : Nat) (l : List Int), v = .slice A n c ∧ n ≤ c ∧ n ≤ maxLen ∧ l.length = n ∧ SliceAt W A (l.map (Value.int k)) ∧ ∀ x ∈ l, (Lit.int k x).wf = true := by
  obtain ⟨a0, len, cap, rfl⟩ := hv
  obtain ⟨fuel, hf⟩ := h
  rcases Go.Deep.open_slice1 ht hc1 hf with ⟨h0, _⟩ | ⟨a, len', cap', m, n, V, D, Pl, h0, _, hl, hm, hmm, _, hx⟩
  · simp [Value.cells] at h0
    obtain ⟨rfl, rfl, rfl⟩ := h0
    exact ⟨none, 0, 0, [], rfl, Nat.le_refl _, Nat.zero_le _, rfl, fun h => absurd h (by simp), fun x hx => by simp at hx⟩
  · simp [Value.cells] at h0
    obtain ⟨rfl, rfl, rfl⟩ := h0
    have hall : ∀ i, i < len → ∃ x : Int, W.cell? (a.add i) = some (.int k x) ∧ (Lit.int k x).wf = true := by
      intro i hi
      obtain ⟨c0, t0⟩ := hx i (by rw [hmm]; split <;> omega)
      obtain ⟨x0, e0, _, w0⟩ := DataW.trod_int he t0
      simp only [List.cons.injEq, and_true] at e0
      rw [e0] at c0
      exact ⟨x0, c0, w0⟩
    let f : Nat → Int := fun i => if h : i < len then Classical.choose (hall i h) else 0
    have hspec : ∀ i, (h : i < len) → W.cell? (a.add i) = some (.int k (f i)) ∧ (Lit.int k (f i)).wf = true := by
      intro i h
      have := Classical.choose_spec (hall i h)
      simp only [f, dif_pos h]
      exact this
    refine ⟨_, _, _, (List.range len).map f, rfl, hl, Nat.le_trans hl hm, by simp, fun hpos => ?_, fun x hx => ?_⟩
    · have hlen : 0 < len := by simpa using hpos
      have h0 := (hspec 0 hlen).1
      obtain ⟨ab, ao, asp⟩ := a
      have hsn : asp = none := by
        cases asp with
        | none => rfl
        | some s =>
          exfalso
          simp [World.cell?, Addr.add] at h0
          split at h0 <;> cases h0
      subst hsn
      refine ⟨ab, ao, rfl, ?_, fun j u hu => ?_⟩
      · simp only [add_flat] at h0
        exact World.block_lt_of_cell? W _ h0
      · have hjl : j < len := by
          have := (List.getElem?_eq_some_iff.1 hu).1
          simpa using this
        have h1 := (hspec j hjl).1
        simp only [add_flat] at h1
        rw [List.map_map, List.getElem?_map, List.getElem?_range hjl] at hu
        simp only [Option.map_some, Option.some.injEq] at hu
        rw [h1, ← hu]
        rfl
    · obtain ⟨i, hi, rfl⟩ := List.mem_map.1 hx
      exact (hspec i (by simpa using hi)).2
theorem inos_of_slice {W : World} {A : Option Addr} {l : List Int} (h : SliceAt W A (l.map (Value.int .u32))) : InosAt W A l := fun hn => by
  obtain ⟨b, o, h1, h2, h3⟩ := h (by cases l with | nil => exact absurd rfl hn | cons a l => simp)
  exact ⟨b, o, h1, h2, fun k x hk => h3 k _ (by rw [List.getElem?_map, hk]; rfl)⟩
theorem i64_wf {x : Int} (h : (Lit.int .i64 x).wf = true) : I64 x := by
  have : -9223372036854775808 ≤ x ∧ x ≤ 9223372036854775807 := by simpa [Lit.wf, IntKind.min, IntKind.max, IntKind.signed, IntKind.bits] using h
  exact this
end Go.Proofs.YtehckjkihaalfaaGreat
