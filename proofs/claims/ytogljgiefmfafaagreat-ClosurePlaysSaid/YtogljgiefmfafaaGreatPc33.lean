/- ClosurePlays is proved: for every row of records, every row of inodes and every room, the statement's Go function returns true, and its arguments read as they did. No condition. -/
import Derived.Test.YtogljgiefmfafaaGreatPc15
import Derived.Test.YtogljgiefmfafaaGreatPc32
import Derived.Test.YtogljgiefmfafaaGreatRows
import Derived.Carry
import Derived.ProofKit
import Derived.SizedLaws
import Derived.Deep.Slices
import Derived.Deep.Fields
import Derived.ChangeMaps5
import Derived.ChangeSlices
import Derived.Laws.StructEq
namespace Go.Proofs.YtogljgiefmfafaaGreat
section
open Go.ChangeShapes Go.WideShapes Go.ChangeAt Go.RowKit
section
variable {H : Type} {enc : TypeId × Value → H} {P : Program}
theorem trodAll_below (hl : laidOutB P = true) {W W' : World} (hb : Below W.heap.size W W') :
  ∀ (ts : List TypeId) (vs : List Value) (ds : List (DataW H)) (ps : List MemPlace), (∀ t ∈ ts, P.readableRec t = true ∧ t < P.types.size) →
   DataW.TrodAll enc P W 0 (fun _ => true) true ts vs ds ps → (∀ x ∈ ps, x.block < W.heap.size) → DataW.TrodAll enc P W' 0 (fun b => decide (b < W.heap.size)) true ts vs ds ps
 | [], [], [], ps, _, h, _ => h
 | t :: ts, v :: vs, d :: ds, ps, hr, h, hlt => by
  obtain ⟨p, q, h1, h2, rfl⟩ := h
  refine ⟨p, q, ?_, ?_, rfl⟩
  · exact Below.trod hl (hr t (List.mem_cons_self ..)).1 (hr t (List.mem_cons_self ..)).2 h1 hb (fun x hx => hlt x (List.mem_append_left _ hx))
  · exact trodAll_below hl hb ts vs ds q (fun t ht => hr t (List.mem_cons_of_mem _ ht)) h2 (fun x hx => hlt x (List.mem_append_right _ hx))
 | [], [], _ :: _, _, _, h, _ => h.elim
 | [], _ :: _, _, _, _, h, _ => h.elim
 | _ :: _, [], _, _, _, h, _ => h.elim
 | _ :: _, _ :: _, [], _, _, h, _ => h.elim
theorem law_post {f : Func} {s : ChangeSpec} {tb : TypeId} {W W' : World} {args : Array Value} {ds gs : List (DataW H)} {before : List MemPlace}
  (hl : laidOutB P = true) (hr : f.params.toList.all (fun t => P.readableRec t && decide (t < P.types.size)) = true) (hv : s.vars = []) (hrt : f.resultTypes = #[tb]) (htb : P.underlying tb = some .bool)
  (hW : DataW.Whole enc P f.params.toList s.vars false W args.toList ds gs before)
  (hfn : s.fn H (ds ++ gs) = { results := [.lit (.bool true)], args := ds }) (hb : Below W.heap.size W W') :
  s.post enc P f false true false false W args (.bool true) W' := by
 have hW' := hW
 obtain ⟨p, q, hA, hV, rfl, _, _⟩ := hW
 rw [hv] at hV
 obtain ⟨rfl, rfl⟩ := trodVars_none hV
 have hlt : ∀ x ∈ p, x.block < W.heap.size := fun x hx => by simpa using hW'.lt x (List.mem_append_left _ hx)
 refine ⟨ds, [], p ++ [], [], p, [], hW', ?_, ?_, ?_, hb.frame _, fun h => by cases h⟩
 · rw [hfn, hrt]
   exact trodAll_mk1 (shut_bool htb true)
 · rw [hfn]
   exact trodAll_below hl hb _ _ _ _ (fun t ht => by have := List.all_eq_true.1 hr t ht; simpa using this) hA hlt
 · rw [hfn, hv]
   rfl
theorem structs_open {w : World} {base : Nat} {spare : Nat → Bool} {held : Bool} {t e : TypeId} {fs : Array Field} {fuel : Nat} {cs : List Value} {x : DataW H × List MemPlace}
  (ht : P.underlying t = some (.slice e)) (he : P.underlying e = some (.struct fs)) (hone : Go.Deep.oneCellFields P fs = true) (hC : P.cellsOf e = fs.size) (h : DataW.trod enc P w base spare held fuel t cs = some x) :
  cs = [.slice none 0 0] ∨ ∃ (a : Addr) (len cap : Nat), cs = [.slice (some a) len cap] ∧ len ≤ cap ∧ cap ≤ maxLen ∧
   ∀ i, i < len → ∀ (j : Nat) (f : Field), fs[j]? = some f → ∃ (v : Value) (y : DataW H × List MemPlace) (n : Nat), w.cell? (a.add (i * fs.size + j)) = some v ∧ DataW.trod enc P w base spare held n f.type [v] = some y := by
 rcases Go.Deep.open_slice ht h with h0 | ⟨a, len, cap, m, n, D, Pl, hcs, _, hl, hm, hmm, _, hi⟩
 · exact .inl h0.1
 · refine .inr ⟨a, len, cap, hcs, hl, hm, fun i hlt j f hj => ?_⟩
   obtain ⟨cs', hc, ht'⟩ := hi i (by rw [hmm]; split <;> omega)
   obtain ⟨xs, n', _, _, hlen, hxl, hf⟩ := DataW.trod_struct he ht'
   rw [hC] at hc hlen
   obtain ⟨_, _, hat⟩ := World.cells?_some hc
   obtain ⟨ho, hk⟩ := Go.Deep.hone_of hone j f hj
   have hjl : j < fs.size := (Array.getElem?_eq_some_iff.1 hj).1
   have h1 := hf j f hj
   rw [ho, hk, List.drop_eq_getElem_cons (by omega), List.take_succ_cons, List.take_zero] at h1
   refine ⟨cs'[j]'(by omega), xs[j]'(by omega), n', ?_, h1.trans (List.getElem?_eq_getElem (by omega))⟩
   have := hat j hjl
   rw [Go.Deep.add_add] at this
   rw [this]
   exact List.getElem?_eq_getElem (by omega)
end
theorem own : ownKnob Tryz.prog.godebug = none := by kernel_rfl
theorem laidOut : laidOutB Tryz.prog = true := by kernel_rfl
theorem cellsR12 : Tryz.prog.cellsOf 50 = 12 := by kernel_rfl
theorem cells_u32 : Tryz.prog.cellsOf 37 = 1 := by kernel_rfl
theorem add_flat {b o : Nat} (i : Nat) : (⟨b, o, none⟩ : Addr).add i = ⟨b, o + i, none⟩ := by unfold Addr.add; split <;> simp_all
theorem recs_of {H : Type} {enc : TypeId × Value → H} {W : World} {sp : Nat → Bool} {held : Bool} {v : Value} {d : DataW H} {p : List MemPlace} (hv : ∃ a len cap, v = .slice a len cap) (h : DataW.Trod enc Tryz.prog W 0 sp held 22 v d p) :
  ∃ (A : Option Addr) (n c : Nat) (l : List R), v = .slice A n c ∧ n ≤ c ∧ n ≤ maxLen ∧ l.length = n ∧ RecsAt W A l := by
 obtain ⟨a0, len, cap, rfl⟩ := hv
 obtain ⟨fuel, hf⟩ := h
 rcases structs_open Tryz.underlying22 Tryz.underlying50 (by kernel_rfl) cellsR12 hf with h0 | ⟨a, len', cap', h0, hl, hm, hc⟩
 · simp [Value.cells] at h0
   obtain ⟨rfl, rfl, rfl⟩ := h0
   exact ⟨none, 0, 0, [], rfl, Nat.le_refl _, Nat.zero_le _, rfl, ⟨fun h => absurd rfl h, fun r hr => by simp at hr⟩⟩
 · simp [Value.cells] at h0
   obtain ⟨rfl, rfl, rfl⟩ := h0
   have hall : ∀ i, i < len → ∃ r : R, (∀ (j : Nat) (u : Value), (cellsR r)[j]? = some u → W.cell? (a.add (i * 12 + j)) = some u) ∧ RecOk r := by
    intro i hi
    obtain ⟨v0, y0, n0, c0, t0⟩ := hc i hi 0 _ rfl
    obtain ⟨v1, y1, n1, c1, t1⟩ := hc i hi 1 _ rfl
    obtain ⟨v2, y2, n2, c2, t2⟩ := hc i hi 2 _ rfl
    obtain ⟨v3, y3, n3, c3, t3⟩ := hc i hi 3 _ rfl
    obtain ⟨v4, y4, n4, c4, t4⟩ := hc i hi 4 _ rfl
    obtain ⟨v5, y5, n5, c5, t5⟩ := hc i hi 5 _ rfl
    obtain ⟨v6, y6, n6, c6, t6⟩ := hc i hi 6 _ rfl
    obtain ⟨v7, y7, n7, c7, t7⟩ := hc i hi 7 _ rfl
    obtain ⟨v8, y8, n8, c8, t8⟩ := hc i hi 8 _ rfl
    obtain ⟨v9, y9, n9, c9, t9⟩ := hc i hi 9 _ rfl
    obtain ⟨v10, y10, n10, c10, t10⟩ := hc i hi 10 _ rfl
    obtain ⟨v11, y11, n11, c11, t11⟩ := hc i hi 11 _ rfl
    obtain ⟨x0, e0, _, w0⟩ := DataW.trod_int Tryz.underlying48 t0
    obtain ⟨x1, e1, _, w1⟩ := DataW.trod_int Tryz.underlying5 t1
    obtain ⟨x2, e2, _, w2⟩ := DataW.trod_int Tryz.underlying37 t2
    obtain ⟨x3, e3, _, w3⟩ := DataW.trod_string Tryz.underlying9 t3
    obtain ⟨x4, e4, _, w4⟩ := DataW.trod_int Tryz.underlying37 t4
    obtain ⟨x5, e5, _, w5⟩ := DataW.trod_int Tryz.underlying5 t5
    obtain ⟨x6, e6, _, w6⟩ := DataW.trod_int Tryz.underlying37 t6
    obtain ⟨x7, e7, _, w7⟩ := DataW.trod_string Tryz.underlying9 t7
    obtain ⟨x8, e8, _, w8⟩ := DataW.trod_int Tryz.underlying37 t8
    obtain ⟨x9, e9, _, w9⟩ := DataW.trod_int Tryz.underlying37 t9
    obtain ⟨x10, e10, _, w10⟩ := DataW.trod_int Tryz.underlying3 t10
    obtain ⟨x11, e11, _, w11⟩ := DataW.trod_string Tryz.underlying9 t11
    simp only [List.cons.injEq, and_true] at e0 e1 e2 e3 e4 e5 e6 e7 e8 e9 e10 e11
    subst e0; subst e1; subst e2; subst e3; subst e4; subst e5; subst e6; subst e7; subst e8; subst e9; subst e10; subst e11
    have r0 : 0 ≤ x0 ∧ x0 ≤ 18446744073709551615 := by simpa [Lit.wf, IntKind.min, IntKind.max, IntKind.signed, IntKind.bits] using w0
    have r1 : 0 ≤ x1 ∧ x1 ≤ 255 := by simpa [Lit.wf, IntKind.min, IntKind.max, IntKind.signed, IntKind.bits] using w1
    have r2 : 0 ≤ x2 ∧ x2 ≤ 4294967295 := by simpa [Lit.wf, IntKind.min, IntKind.max, IntKind.signed, IntKind.bits] using w2
    have r4 : 0 ≤ x4 ∧ x4 ≤ 4294967295 := by simpa [Lit.wf, IntKind.min, IntKind.max, IntKind.signed, IntKind.bits] using w4
    have r5 : 0 ≤ x5 ∧ x5 ≤ 255 := by simpa [Lit.wf, IntKind.min, IntKind.max, IntKind.signed, IntKind.bits] using w5
    have r6 : 0 ≤ x6 ∧ x6 ≤ 4294967295 := by simpa [Lit.wf, IntKind.min, IntKind.max, IntKind.signed, IntKind.bits] using w6
    have r8 : 0 ≤ x8 ∧ x8 ≤ 4294967295 := by simpa [Lit.wf, IntKind.min, IntKind.max, IntKind.signed, IntKind.bits] using w8
    have r9 : 0 ≤ x9 ∧ x9 ≤ 4294967295 := by simpa [Lit.wf, IntKind.min, IntKind.max, IntKind.signed, IntKind.bits] using w9
    refine ⟨⟨x0, x1, x2, x3, x4, x5, x6, x7, x8, x9, x10, x11⟩, fun j u hu => ?_, ⟨⟨r0, r1, r2, r4, r5, r6, r8, r9⟩, w3, w7, w11⟩⟩
    have hj : j < 12 := (Array.getElem?_eq_some_iff.1 hu).1
    rcases j with _ | _ | _ | _ | _ | _ | _ | _ | _ | _ | _ | _ | j
    · obtain rfl := Option.some.inj hu; exact c0
    · obtain rfl := Option.some.inj hu; exact c1
    · obtain rfl := Option.some.inj hu; exact c2
    · obtain rfl := Option.some.inj hu; exact c3
    · obtain rfl := Option.some.inj hu; exact c4
    · obtain rfl := Option.some.inj hu; exact c5
    · obtain rfl := Option.some.inj hu; exact c6
    · obtain rfl := Option.some.inj hu; exact c7
    · obtain rfl := Option.some.inj hu; exact c8
    · obtain rfl := Option.some.inj hu; exact c9
    · obtain rfl := Option.some.inj hu; exact c10
    · obtain rfl := Option.some.inj hu; exact c11
    · omega
   let f : Nat → R := fun i => if h : i < len then Classical.choose (hall i h) else ⟨0, 0, 0, ⟨#[]⟩, 0, 0, 0, ⟨#[]⟩, 0, 0, 0, ⟨#[]⟩⟩
   have hspec : ∀ i, (h : i < len) → (∀ (j : Nat) (u : Value), (cellsR (f i))[j]? = some u → W.cell? (a.add (i * 12 + j)) = some u) ∧ RecOk (f i) := by
    intro i h
    have := Classical.choose_spec (hall i h)
    simp only [f, dif_pos h]
    exact this
   refine ⟨_, _, _, (List.range len).map f, rfl, hl, Nat.le_trans hl hm, by simp, ⟨fun hpos => ?_, fun r hr => ?_⟩⟩
   · have hlen : 0 < len := by
      rcases Nat.eq_zero_or_pos len with h | h
      · subst h
        exact absurd rfl hpos
      · exact h
     have h0 := (hspec 0 hlen).1 0 _ rfl
     obtain ⟨ab, ao, asp⟩ := a
     have hsn : asp = none := by
      cases asp with
      | none => rfl
      | some s =>
       exfalso
       simp [World.cell?, Addr.add] at h0
       split at h0 <;> cases h0
     subst hsn
     refine ⟨ab, ao, rfl, ?_, fun k r hk i u hu => ?_⟩
     · simp only [add_flat] at h0
       exact World.block_lt_of_cell? W _ h0
     · rw [List.getElem?_map] at hk
       have hkl : k < len := by
        by_cases h : k < len
        · exact h
        · rw [List.getElem?_eq_none (by simpa using h)] at hk; cases hk
       rw [List.getElem?_range hkl] at hk
       simp only [Option.map_some, Option.some.injEq] at hk
       subst hk
       have := (hspec k hkl).1 i u hu
       simp only [add_flat, ← Nat.add_assoc] at this
       exact this
   · obtain ⟨i, hi, rfl⟩ := List.mem_map.1 hr
     exact (hspec i (by simpa using hi)).2
theorem nums_of {H : Type} {enc : TypeId × Value → H} {W : World} {sp : Nat → Bool} {held : Bool} {k : IntKind} {t e : TypeId} {v : Value} {d : DataW H} {p : List MemPlace} (ht : Tryz.prog.underlying t = some (.slice e)) (he : Tryz.prog.underlying e = some (.int k)) (hc1 : Tryz.prog.cellsOf e = 1) (hv : ∃ a len cap, v = .slice a len cap) (h : DataW.Trod enc Tryz.prog W 0 sp held t v d p) :
  ∃ (A : Option Addr) (n c : Nat) (l : List Int), v = .slice A n c ∧ n ≤ c ∧ n ≤ maxLen ∧ l.length = n ∧ SliceAt W A (l.map (Value.int k)) ∧ ∀ x ∈ l, (Lit.int k x).wf = true := by
 obtain ⟨a0, len, cap, rfl⟩ := hv
 obtain ⟨fuel, hf⟩ := h
 rcases Go.Deep.open_slice1 ht hc1 hf with ⟨h0, _⟩ | ⟨a, len', cap', m, n, V, D, Pl, h0, _, hl, hm, hmm, _, hx⟩
 · simp [Value.cells] at h0
   obtain ⟨rfl, rfl, rfl⟩ := h0
   exact ⟨none, 0, 0, [], rfl, Nat.le_refl _, Nat.zero_le _, rfl, fun h => absurd h (by simp), fun x hx => by simp at hx⟩
 · simp [Value.cells] at h0
   obtain ⟨rfl, rfl, rfl⟩ := h0
   have hall : ∀ i, i < len → ∃ x : Int, W.cell? (a.add i) = some (.int k x) ∧ (Lit.int k x).wf = true := by
    intro i hi
    obtain ⟨c0, t0⟩ := hx i (by rw [hmm]; split <;> omega)
    obtain ⟨x0, e0, _, w0⟩ := DataW.trod_int he t0
    simp only [List.cons.injEq, and_true] at e0
    rw [e0] at c0
    exact ⟨x0, c0, w0⟩
   let f : Nat → Int := fun i => if h : i < len then Classical.choose (hall i h) else 0
   have hspec : ∀ i, (h : i < len) → W.cell? (a.add i) = some (.int k (f i)) ∧ (Lit.int k (f i)).wf = true := by
    intro i h
    have := Classical.choose_spec (hall i h)
    simp only [f, dif_pos h]
    exact this
   refine ⟨_, _, _, (List.range len).map f, rfl, hl, Nat.le_trans hl hm, by simp, fun hpos => ?_, fun x hx => ?_⟩
   · have hlen : 0 < len := by simpa using hpos
     have h0 := (hspec 0 hlen).1
     obtain ⟨ab, ao, asp⟩ := a
     have hsn : asp = none := by
      cases asp with
      | none => rfl
      | some s =>
       exfalso
       simp [World.cell?, Addr.add] at h0
       split at h0 <;> cases h0
     subst hsn
     refine ⟨ab, ao, rfl, ?_, fun j u hu => ?_⟩
     · simp only [add_flat] at h0
       exact World.block_lt_of_cell? W _ h0
     · have hjl : j < len := by
        have := (List.getElem?_eq_some_iff.1 hu).1
        simpa using this
       have h1 := (hspec j hjl).1
       simp only [add_flat] at h1
       rw [List.map_map, List.getElem?_map, List.getElem?_range hjl] at hu
       simp only [Option.map_some, Option.some.injEq] at hu
       rw [h1, ← hu]
       rfl
   · obtain ⟨i, hi, rfl⟩ := List.mem_map.1 hx
     exact (hspec i (by simpa using hi)).2
end

section
open Go.RowKit Go.Maps
section
variable {B P P2 N : Nat} {w1 w w' : World} {t t2 : PT}
theorem own_new2 (n : Int) (h : Own B w1 P 1 t w) (h1 : 2 ≤ n) (h2 : n ≤ 256) : Calls Tryz.prog 16 #[.int .i64 n] w fun e w' => ∃ P2, e = .returned (.tuple #[.pointer (some ⟨P2, 0, none⟩), .int .i64 0]) ∧ Pair B w1 P P2 1 t (newT n) w' := by
 obtain ⟨y, F, hT, hW, hF, hs, hB⟩ := h
 refine (t_new n w h1 h2).mono fun _ _ ⟨P2, y2, F2, he, hT2, hb, hF2⟩ => ⟨P2, he, y, F, y2, F2, hT.below hb, hT2, hW, WellP.new n h1 h2, hF, fun b hb2 => Nat.le_trans hs (hF2 b hb2), fun b hb1 hb2 => ?_, Nat.le_trans hs hb.size, hB.trans (below_own hb hs)⟩
 have := hT.lt b hb1
 have := hF2 b hb2
 omega
theorem pair_stat (i : Int) (hi : U32 i) (h : Pair B w1 P P2 N t t2 w) : Calls Tryz.prog 19 #[.pointer (some ⟨P, 0, none⟩), .int .u32 i] w fun e w' => e = .returned (.tuple #[(statR t i).1, .int .i64 (statR t i).2]) ∧ Pair B w1 P P2 N t t2 w' ∧ Below w.heap.size w w' := by
 have h' := h
 obtain ⟨y, F, y2, F2, hT, _⟩ := h
 exact (t_statP i w hT hi).mono fun _ _ ⟨he, hb⟩ => ⟨he, h'.below hb, hb⟩
theorem pair_read (i p : Int) (hi : U32 i) (h : Pair B w1 P P2 N t t2 w) : Calls Tryz.prog 20 #[.pointer (some ⟨P, 0, none⟩), .int .u32 i, .int .i64 p] w fun e w' => e = .returned (.tuple #[.string (readR t i p).1, .int .i64 (readR t i p).2]) ∧ Pair B w1 P P2 N t t2 w' := by
 have h' := h
 obtain ⟨y, F, y2, F2, hT, _, hW, _⟩ := h
 exact (t_readP i p w hT hi (fun x hx => hW.pages i x hx)).mono fun _ _ ⟨he, hb⟩ => ⟨he, h'.below hb⟩
theorem row_keep {base n size : Nat} {e : TypeId} {v : Value} {xs : List Value} (h : w.ownsRow base e size v n xs) (he : e ≠ 77 ∧ e ≠ 89) (hk : KeepP w w') : w'.ownsRow base e size v n xs := by
 refine ⟨h.1, h.2.elim .inl ?_⟩
 rintro ⟨g, cap, cur, h1, h2, h3, h4⟩
 refine .inr ⟨g, cap, cur, h1, h2, hk g _ h3 ?_, h4⟩
 rintro (⟨_, _, e1⟩ | ⟨_, _, e1⟩ | ⟨_, _, e1⟩)
 · cases e1
 · injection e1 with _ e1 _
   exact he.1 e1
 · injection e1 with _ e1 _
   exact he.2 e1
end
theorem stat_form (t : PT) (i : Int) : ∃ p q m z : Int, (statR t i).1 = .agg #[.int .u32 p, .int .u8 q, .int .i64 m, .int .u32 z] := by
 unfold statR
 cases t.n i with
 | none => exact ⟨_, _, _, _, rfl⟩
 | some x => exact ⟨_, _, _, _, rfl⟩
theorem getL_ok {l : List R} (h : ∀ r ∈ l, RecOk r) {inos : List Int} {of : Bool} : ∀ r ∈ pickL l inos of, RecOk r := fun r hr => h r (pick_in hr)
set_option maxRecDepth 100000 in
set_option maxHeartbeats 16000000 in
theorem t_closurePlays (m : Int) (hm : 0 ≤ m ∧ m ≤ 255) (A : Option Addr) (c n : Nat) (l : List R) (Ai : Option Addr) (ni ci : Nat) (inos : List Int) (w : World) (hl : RecsAt w A l) (hn : l.length = n) (hnc : n ≤ c) (hn2 : n ≤ maxLen) (hi : InosAt w Ai inos) (hni : inos.length = ni) (hni2 : ni ≤ maxLen) (hu : ∀ x ∈ inos, U32 x) :
  Calls Tryz.prog 4 #[.int .u8 m, .slice A n c, .slice Ai ni ci] w fun e w' => e = .returned (.bool true) ∧ Below w.heap.size w w' := by
 have HLo := zz (t_long25 A c n l w hl hn hnc hn2)
 have HL := zz hl
 have HN := zz hn
 have HI := zz hi
 have HNI := zz hni
 have HU := zz hu
 have HNC := zz hnc
 obtain ⟨q, hq⟩ : ∃ q : Nat, (2 : Int) + m % 30 = (q : Int) := ⟨(2 + m % 30).toNat, by omega⟩
 have hq1 : 2 ≤ q := by omega
 have hq2 : q ≤ 31 := by omega
 have hqw : IntKind.i64.wrap ((2 : Int) + m % 30) = (q : Int) := by rw [hq]; exact IntWalk.i64_in _ (by omega)
 have HQ := zz hq
 unfold maxLen at hni2
 clear hl hn hi hni hu hn2 hnc hq
 by_cases hbig : 20 < ni
 · have h20 : (20 : Int) < ni := by omega
   go_enter Tryz.func4, Tryz.ntmps4
   go_wp2_with (first
    | (go_at_call 13; (with_reducible refine HLo.out.mono ?_); rintro e w2 ⟨b, rfl, hb, hbb⟩; have HB1 := zz hbb; have HBL := zz hb; clear hb hbb; cases b)
    | (go_at_call 15; with_reducible refine (t_alive25 _).mono ?_; rintro e w9 ⟨rfl, hb⟩; have H9 := zz hb; clear hb))
   all_goals
    go_ret
    exact ⟨rfl, ptrans HB1.out H9.out⟩
 have h20 : ¬ (20 : Int) < ni := by omega
 by_cases hrun : ∃ u, runA (newT (q : Int)) l = some u
 · obtain ⟨u, hu⟩ := hrun
   have hwn : WellP (newT (q : Int)) := WellP.new q (by omega) (by omega)
   obtain ⟨v, hv1, hv2, hsame⟩ := closure_plays (inos := inos) hwn (fun r hr => (HL.out.ok r hr).1) hu
   obtain ⟨n1, hn1⟩ : ∃ n1, (pickL l inos true).length = n1 := ⟨_, rfl⟩
   obtain ⟨n2, hn2⟩ : ∃ n2, (pickL l inos false).length = n2 := ⟨_, rfl⟩
   have hl1 : n1 ≤ n := by rw [← hn1, ← HN.out]; exact pickTo_len l inos true l.length
   have hl2 : n2 ≤ n := by rw [← hn2, ← HN.out]; exact pickTo_len l inos false l.length
   have HU1 := zz hu
   have HV1 := zz hv1
   have HV2 := zz hv2
   have HSm := zz hsame
   have HHV : Hid (n ≤ 60 → HeldK 60 v) := fun h60 => (runA_held (heldK_newT _) (by omega) hv1).mono (by omega)
   have HN1 := zz hn1
   have HN2 := zz hn2
   clear hu hwn hv1 hv2 hsame hn1 hn2 hbig
   go_enter Tryz.func4, Tryz.ntmps4
   go_wp2_with (first
    | (go_at_call 13; (with_reducible refine HLo.out.mono ?_); rintro e w2 ⟨b, rfl, hb, hbb⟩; have HB1 := zz hbb; have HBL := zz hb; clear hb hbb; cases b)
    | (go_at_call 15; with_reducible refine (t_alive25 _).mono ?_; rintro e w9 ⟨rfl, hb⟩; have H9 := zz hb; clear hb)
    | (go_at_call 14; (with_reducible refine (t_plays25 q hq1 (by omega) A n c l _ (HL.out.below HB1.out) HN.out (by have := HBL.out (by simp); omega)).mono ?_); rintro e w3 hq; obtain ⟨bp, rfl, hr, hb⟩ := hq.get; have HB2 := zz (ptrans HB1.out hb); clear hr hb; cases bp)
    | (go_at_call 16; first
     | (with_reducible refine (own_new (q : Int) w3 (by omega) (by omega)).mono ?_; rintro e w4 ⟨P, rfl, hb⟩; have J0 := zz hb; clear hb)
     | (with_reducible refine (own_new2 (q : Int) J0.out (by omega) (by omega)).mono ?_; rintro e w5 ⟨P2, rfl, hb⟩; have J1 := zz hb; clear hb))
    | (go_at_call 17; first
     | (with_reducible refine (t_playedK w3.heap.size w3 P P2 1 (newT (q : Int)) (newT (q : Int)) 0 A n c l u _ J1.out (heldK_newT _) (by omega) (by omega) (by omega) (fun r hr => (HL.out.ok r hr).texts) (fun W _ hb => HL.out.below (ptrans HB2.out hb)) HN.out (by have := HBL.out (by simp); omega) HU1.out).mono ?_; rintro e w6 ⟨rfl, hb, _⟩; have J2 := zz hb; clear hb)
     | (with_reducible refine (t_playedK w3.heap.size w3 P2 P (1 + 2 * n) (newT (q : Int)) u 0 A2 n1 c2 (pickL l inos true) v _ (Pair.below J2.out HB7.out).swap (heldK_newT _) (by omega) (by omega) (by have := HBL.out (by simp); omega) (fun r hr => (HL.out.ok r (pick_in hr)).texts) (fun W hk _ => recs_of_row (row_keep HR7.out (by decide) hk) HN1.out (getL_ok HL.out.ok)) HN1.out (by have := HBL.out (by simp); omega) HV1.out).mono ?_; rintro e w8 ⟨rfl, hb, _⟩; have J3 := zz hb; clear hb))
    | (go_at_call 18; (with_reducible refine (t_of A c n l Ai ni ci inos _ (HL.out.below (ptrans HB2.out J2.out.mem)) HN.out (by have := HBL.out (by simp); omega) HNC.out (HI.out.below (ptrans HB2.out J2.out.mem)) HNI.out (by omega)).mono ?_); rintro e w7 ⟨v7, rfl, hr, hb⟩; rw [HN1.out] at hr; obtain ⟨A2, c2, rfl⟩ := row_slice hr; have HR7 := zz hr; have HB7 := zz hb; clear hr hb))
   all_goals first
    | (go_ret; exact ⟨rfl, ptrans HB2.out H9.out⟩; done)
    | (go_ret; exact ⟨rfl, ptrans HB1.out H9.out⟩; done)
    | skip
   have hn60 : n ≤ 60 := HBL.out (by simp)
   obtain ⟨N3, hN3⟩ : ∃ N3, 1 + 2 * n + 2 * n1 = N3 := ⟨_, rfl⟩
   rw [hN3] at J3
   have hN3b : N3 ≤ 300 := by omega
   have HHV2 := zz (HHV.out hn60)
   have HB3 := HB2
   clear J0 J1 J2 HB1 HB2 HBL HLo HU1 HV1 HB7 HR7 hN3
   go_loopw [12] (fun x wr => ∃ i : Nat, x = .int .i64 (i : Int) ∧ i ≤ ni ∧ Hid (Pair w3.heap.size w3 P2 P N3 v u wr)) (fun x _ => ni - (intOf x).toNat)
   case atStart => exact ⟨0, rfl, Nat.zero_le _, J3.out⟩
   case round =>
    clear J3
    obtain ⟨i, rfl, hi, J3⟩ := hrel
    by_cases he : i = ni
    · subst he
      go_wp2_with (first
       | (go_at_call 21; (with_reducible refine (t_rest A c n l Ai i ci inos _ (HL.out.below (ptrans HB3.out J3.out.mem)) HN.out (by omega) HNC.out (HI.out.below (ptrans HB3.out J3.out.mem)) HNI.out (by omega)).mono ?_); rintro e w7 ⟨v7, rfl, hr, hb⟩; rw [HN2.out] at hr; obtain ⟨A2, c2, rfl⟩ := row_slice hr; have HR7 := zz hr; have HB7 := zz hb; clear hr hb)
       | (go_at_call 17; (with_reducible refine (t_playedK w3.heap.size w3 P2 P N3 v u 60 A2 n2 c2 (pickL l inos false) u _ (Pair.below J3.out HB7.out) HHV2.out (by omega) (by omega) (by omega) (fun r hr => (HL.out.ok r (pick_in hr)).texts) (fun W hk _ => recs_of_row (row_keep HR7.out (by decide) hk) HN2.out (getL_ok HL.out.ok)) HN2.out (by omega) HV2.out).mono ?_); rintro e w8 ⟨rfl, hb, _⟩; have J4 := zz hb; clear hb)
       | (go_at_call 12; with_reducible refine (pair_alike (Pair.swap J4.out) (by omega)).mono ?_; rintro e w6 ⟨rfl, hb⟩; have J5 := zz hb; clear hb)
       | (go_at_call 15; with_reducible refine (t_alive25 _).mono ?_; rintro e w9 ⟨rfl, hb⟩; have H9 := zz (ptrans (ptrans HB3.out J5.out.mem) hb); clear hb))
      go_ret
      exact ⟨rfl, H9.out⟩
    · have hin : i < ni := by omega
      obtain ⟨x, hx⟩ : ∃ x, inos[i]? = some x := ⟨inos[i]'(by rw [HNI.out]; exact hin), List.getElem?_eq_getElem _⟩
      have hxm := List.mem_of_getElem? hx
      have hux := HU.out x hxm
      have hsm := HSm.out x hxm
      obtain ⟨sp, sq, sm, sz, hst⟩ := stat_form u x
      obtain ⟨ev, hev⟩ : ∃ ev, (statR u x).2 = ev := ⟨_, rfl⟩
      have g1 : ∀ W, Pair w3.heap.size w3 P2 P N3 v u W → Calls Tryz.prog 19 #[.pointer (some ⟨P, 0, none⟩), .int .u32 x] W fun e w' => e = .returned (.tuple #[.agg #[.int .u32 sp, .int .u8 sq, .int .i64 sm, .int .u32 sz], .int .i64 ev]) ∧ Pair w3.heap.size w3 P2 P N3 v u w' ∧ Below W.heap.size W w' := fun W h => (pair_stat x hux h.swap).mono fun _ _ ⟨h1, h2, h3⟩ => ⟨by rw [h1, hst, hev], h2.swap, h3⟩
      have g2 : ∀ W, Pair w3.heap.size w3 P2 P N3 v u W → Calls Tryz.prog 19 #[.pointer (some ⟨P2, 0, none⟩), .int .u32 x] W fun e w' => e = .returned (.tuple #[.agg #[.int .u32 sp, .int .u8 sq, .int .i64 sm, .int .u32 sz], .int .i64 ev]) ∧ Pair w3.heap.size w3 P2 P N3 v u w' ∧ Below W.heap.size W w' := fun W h => (pair_stat x hux h).mono fun _ _ ⟨h1, h2, h3⟩ => ⟨by rw [h1, ← stat_same hsm, hst, hev], h2, h3⟩
      have g3 : ∀ W (p : Int), Pair w3.heap.size w3 P2 P N3 v u W → Calls Tryz.prog 20 #[.pointer (some ⟨P, 0, none⟩), .int .u32 x, .int .i64 p] W fun e w' => e = .returned (.tuple #[.string (readR u x p).1, .int .i64 (readR u x p).2]) ∧ Pair w3.heap.size w3 P2 P N3 v u w' := fun W p h => (pair_read x p hux h.swap).mono fun _ _ ⟨h1, h2⟩ => ⟨h1, h2.swap⟩
      have g4 : ∀ W (p : Int), Pair w3.heap.size w3 P2 P N3 v u W → Calls Tryz.prog 20 #[.pointer (some ⟨P2, 0, none⟩), .int .u32 x, .int .i64 p] W fun e w' => e = .returned (.tuple #[.string (readR u x p).1, .int .i64 (readR u x p).2]) ∧ Pair w3.heap.size w3 P2 P N3 v u w' := fun W p h => (pair_read x p hux h).mono fun _ _ ⟨h1, h2⟩ => ⟨by rw [h1, ← read_same hsm], h2⟩
      obtain ⟨bi, oi, rfl, hbi, hci⟩ := HI.out (fun e => by rw [e] at hx; simp at hx)
      have hd : ∀ W, Below w.heap.size w W → W.cell? ⟨bi, oi + i, none⟩ = some (.int .u32 x) := fun W hb => (hb.cell (p := ⟨bi, oi + i, none⟩) hbi).trans (hci i x hx)
      have G1 := zz g1
      have G2 := zz g2
      have G3 := zz g3
      have G4 := zz g4
      have HD := zz hd
      have d0 := hd _ (ptrans HB3.out J3.out.mem)
      have hevv : (ev != ev) = false := by simp
      clear g1 g2 g3 g4 hd hx hxm hux hsm hst hev hbi hci he
      go_wp2_with (first
       | (go_at_call 19; first
        | (with_reducible refine (G1.out _ J3.out).mono ?_; rintro e x4 ⟨rfl, hb, _⟩; have J4 := zz (hb.below (below_a1' x4 (.cells #[.int .u32 sp, .int .u8 sq, .int .i64 sm, .int .u32 sz] 39))); have HC4 := zz (heap_alloc_new x4 (.cells #[.int .u32 sp, .int .u8 sq, .int .i64 sm, .int .u32 sz] 39)); have d1 := HD.out _ (ptrans HB3.out J4.out.mem); clear hb d0)
        | (with_reducible refine (G2.out _ J4.out).mono ?_; rintro e x5 ⟨rfl, hb, hbe⟩; have J5 := zz (hb.below (below_a1' x5 (.cells #[.int .u32 sp, .int .u8 sq, .int .i64 sm, .int .u32 sz] 39))); have HC5 := zz (heap_alloc_new x5 (.cells #[.int .u32 sp, .int .u8 sq, .int .i64 sm, .int .u32 sz] 39)); have HC4' := zz (((ptrans hbe (below_a1' x5 (.cells #[.int .u32 sp, .int .u8 sq, .int .i64 sm, .int .u32 sz] 39))).block _ (lt_heap HC4.out)).trans HC4.out); have d2 := HD.out _ (ptrans HB3.out J5.out.mem); have e0 := cell_of (j := 0) (v := .int .u32 sp) HC4'.out rfl; have f0 := cell_of (j := 0) (v := .int .u32 sp) HC5.out rfl; have e1 := cell_of (j := 1) (v := .int .u8 sq) HC4'.out rfl; have f1 := cell_of (j := 1) (v := .int .u8 sq) HC5.out rfl; have e2 := cell_of (j := 2) (v := .int .i64 sm) HC4'.out rfl; have f2 := cell_of (j := 2) (v := .int .i64 sm) HC5.out rfl; have e3 := cell_of (j := 3) (v := .int .u32 sz) HC4'.out rfl; have f3 := cell_of (j := 3) (v := .int .u32 sz) HC5.out rfl; clear hb hbe d1)))
      clear e0 e1 e2 e3 f0 f1 f2 f3 d2 HC4 HC4' HC5 J4
      go_loopw [17] (fun y W => ∃ k : Nat, y = .int .i64 (k : Int) ∧ k ≤ 36 ∧ Hid (Pair w3.heap.size w3 P2 P N3 v u W)) (fun y _ => 36 - (intOf y).toNat)
      case atStart => exact ⟨0, rfl, Nat.zero_le _, J5.out⟩
      case round =>
       obtain ⟨k, rfl, hk, J6⟩ := hrel
       by_cases hk36 : k = 36
       · subst hk36
         go_wp2
         go_roundw
         case rel => exact ⟨i + 1, by go_num, by omega, J6.out⟩
         case measure => simp [intOf]; omega
       · have hkk : (k : Int) < 36 := by omega
         have d3 := HD.out _ (ptrans HB3.out J6.out.mem)
         have q1 := fun W h => G3.out W (k : Int) h
         have q2 := fun W h => G4.out W (k : Int) h
         obtain ⟨rs, hrs⟩ : ∃ rs, (readR u x (k : Int)).1 = rs := ⟨_, rfl⟩
         obtain ⟨rv, hrv⟩ : ∃ rv, (readR u x (k : Int)).2 = rv := ⟨_, rfl⟩
         rw [hrs, hrv] at q1 q2
         have Q1 := zz q1
         have Q2 := zz q2
         have hvv : (rv != rv) = false := by simp
         clear q1 q2 hrs hrv hk36
         go_wp2_with (first
          | (go_at_call 20; first
           | (with_reducible refine (Q1.out _ J6.out).mono ?_; rintro e x6 ⟨rfl, hb⟩; have J7 := zz hb; have d4 := HD.out _ (ptrans HB3.out J7.out.mem); clear hb d3)
           | (with_reducible refine (Q2.out _ J7.out).mono ?_; rintro e x7 ⟨rfl, hb⟩; have J8 := zz hb; clear hb d4)))
         go_roundw
         case rel => exact ⟨k + 1, by go_num, by omega, J8.out⟩
         case measure => simp [intOf]; omega
 · have HNo : Hid (¬ ∃ u, runA (newT (q : Int)) l = some u) := hrun
   clear hrun hbig
   go_enter Tryz.func4, Tryz.ntmps4
   go_wp2_with (first
    | (go_at_call 13; (with_reducible refine HLo.out.mono ?_); rintro e w2 ⟨b, rfl, hb, hbb⟩; have HB1 := zz hbb; have HBL := zz hb; clear hb hbb; cases b)
    | (go_at_call 15; with_reducible refine (t_alive25 _).mono ?_; rintro e w9 ⟨rfl, hb⟩; have H9 := zz hb; clear hb)
    | (go_at_call 14; (with_reducible refine (t_plays25 q hq1 (by omega) A n c l _ (HL.out.below HB1.out) HN.out (by have := HBL.out (by simp); omega)).mono ?_); rintro e w3 hq; obtain ⟨bp, rfl, hr, hb⟩ := hq.get; have HB2 := zz (ptrans HB1.out hb); have hbf : bp = false := (by cases bp; rfl; exact absurd (hr rfl) HNo.out); subst hbf; clear hr hb))
   all_goals first
    | (go_ret; exact ⟨rfl, ptrans HB2.out H9.out⟩; done)
    | (go_ret; exact ⟨rfl, ptrans HB1.out H9.out⟩; done)
    | trace_state
open Go.ChangeShapes Go.WideShapes Go.ChangeAt
theorem trodAll_three {H : Type} {enc : TypeId × Value → H} {P : Program} {w : World} {base : Nat} {spare : Nat → Bool} {held : Bool} {t0 t1 t2 : TypeId} {args : Array Value} {ds : List (DataW H)} {ps : List MemPlace} (h : DataW.TrodAll enc P w base spare held [t0, t1, t2] args.toList ds ps) :
  ∃ v0 v1 v2 d0 d1 d2 p0 p1 p2, args = #[v0, v1, v2] ∧ ds = [d0, d1, d2] ∧ ps = p0 ++ (p1 ++ p2) ∧ DataW.Trod enc P w base spare held t0 v0 d0 p0 ∧ DataW.Trod enc P w base spare held t1 v1 d1 p1 ∧ DataW.Trod enc P w base spare held t2 v2 d2 p2 := by
 obtain ⟨v0, vs0, d0, ds0, p0, q0, hargs, rfl, rfl, h0, r0⟩ := trodAll_cons h
 obtain ⟨v1, vs1, d1, ds1, p1, q1, rfl, rfl, rfl, h1, r1⟩ := trodAll_cons r0
 obtain ⟨v2, vs2, d2, ds2, p2, q2, rfl, rfl, rfl, h2, r2⟩ := trodAll_cons r1
 obtain ⟨rfl, rfl, rfl⟩ := trodAll_nil r2
 exact ⟨v0, v1, v2, d0, d1, d2, p0, p1, p2, by cases args; simp_all, rfl, by simp, h0, h1, h2⟩
theorem inos_of_nums {W : World} {A : Option Addr} {l : List Int} (h : SliceAt W A (l.map (Value.int .u32))) : InosAt W A l := fun hn => by
 obtain ⟨b, o, h1, h2, h3⟩ := h (by cases l with | nil => exact absurd rfl hn | cons a l => simp)
 exact ⟨b, o, h1, h2, fun k x hk => h3 k _ (by rw [List.getElem?_map, hk]; rfl)⟩
set_option maxRecDepth 100000 in
theorem lifted_closurePlays (os : Os) (started : os.Started) (H : Type) (enc : TypeId × Value → H) :
  ReturnsInHanded {} Tryz.checked os 4 .any (Rows.closurePlaysSpec.pre6 enc Tryz.prog Tryz.f4 Rows.closurePlaysRow.domain false) (Rows.closurePlaysSpec.post enc Tryz.prog Tryz.f4 false true false false) := by
 refine returnsInHanded_of_change (C := Tryz.checked) own started (by kernel_rfl) Tryz.func4
  (ChangeSpec.witness6 (enc := enc) (C := Tryz.checked) false ⟨#[], #[.int .u8 0, .slice none 0 0, .slice none 0 0], []⟩ 8 (by kernel_rfl) (by kernel_rfl) (by kernel_rfl) (by kernel_rfl)) ?_
 intro W base args ds gs before hval0 hW _ _
 have hval : ∀ (j : Nat) t v, Tryz.f4.params[j]? = some t → args[j]? = some v → Value.okWide Tryz.prog W .any base t v := hval0
 have hW' := hW
 obtain ⟨p, q, hA0, hV, rfl, _, _⟩ := hW
 have hA : DataW.TrodAll enc Tryz.prog W 0 (fun _ => true) true Tryz.f4.params.toList args.toList ds p := hA0
 rw [Tryz.params4] at hA hval
 obtain ⟨v0, v1, v2, d0, d1, d2, p0, p1, p2, rfl, rfl, rfl, h0, h1, h2⟩ := trodAll_three hA
 obtain ⟨rfl, rfl⟩ := trodVars_none hV
 obtain ⟨m, rfl, rfl, rfl, wm⟩ := open_int Tryz.underlying5 (hval 0 5 v0 rfl rfl) h0
 have hm : 0 ≤ m ∧ m ≤ 255 := by simpa [Lit.wf, IntKind.min, IntKind.max, IntKind.signed, IntKind.bits] using wm
 obtain ⟨A, n, c, l, rfl, k1, k2, k3, k4⟩ := recs_of (okWide_slice Tryz.underlying22 (hval 1 22 v1 rfl rfl)) h1
 obtain ⟨Ai, ni, ci, is, rfl, _, j2, j3, j4, j5⟩ := nums_of Tryz.underlying31 Tryz.underlying37 cells_u32 (okWide_slice Tryz.underlying31 (hval 2 31 v2 rfl rfl)) h2
 refine (t_closurePlays m hm A c n l Ai ni ci is W k4 k3 k1 k2 (inos_of_nums j4) j3 j2 (fun x hx => by have := j5 x hx; simpa [U32, Lit.wf, IntKind.min, IntKind.max, IntKind.signed, IntKind.bits] using this)).mono fun e W' ⟨he, hb⟩ => ?_
 exact ⟨_, he, law_post laidOut (by kernel_rfl) rfl (by kernel_rfl) Tryz.underlying4 hW' rfl hb⟩
theorem closurePlays_holds : Rows.ClosurePlaysSaid :=
 OpenClaim.holds_of_wide 4 Tryz.f4 rfl rfl rfl rfl rfl rfl rfl ⟨rfl, rfl, rfl, rfl, rfl⟩ rfl rfl rfl rfl rfl (by kernel_rfl) Tryz.func4 (by kernel_rfl)
  (of_decide_eq_true (by kernel_rfl)) (by unfold Func.isWrapper; first | (rw [if_pos (by decide +kernel)]; kernel_rfl) | (rw [if_neg (by decide +kernel)]; exact ⟨rfl, rfl⟩))
  (fun os started H enc _ => lifted_closurePlays os started H enc)
#print axioms closurePlays_holds
end
end Go.Proofs.YtogljgiefmfafaaGreat
