/- RecBack is proved: for every record and every text, the statement's Go function returns true, and its arguments read as they did. No condition. -/
import Derived.Test.YtehckjkihaalfaaGreatBX
import Derived.Test.YtehckjkihaalfaaGreatRows
import Derived.Carry
import Derived.ProofKit
import Derived.SizedLaws
import Derived.Deep.Slices
import Derived.Deep.Fields
import Derived.ChangeMaps5
namespace Go.Proofs.YtehckjkihaalfaaGreat
open Go.ChangeShapes Go.WideShapes Go.ChangeAt Go.RowKit

section
variable {H : Type} {enc : TypeId × Value → H} {P : Program}

/-- All arguments read as they did. -/
theorem trodAll_below (hl : laidOutB P = true) {W W' : World} (hb : Below W.heap.size W W') :
    ∀ (ts : List TypeId) (vs : List Value) (ds : List (DataW H)) (ps : List MemPlace), (∀ t ∈ ts, P.readableRec t = true ∧ t < P.types.size) →
      DataW.TrodAll enc P W 0 (fun _ => true) true ts vs ds ps → (∀ x ∈ ps, x.block < W.heap.size) → DataW.TrodAll enc P W' 0 (fun b => decide (b < W.heap.size)) true ts vs ds ps
  | [], [], [], ps, _, h, _ => h
  | t :: ts, v :: vs, d :: ds, ps, hr, h, hlt => by
    obtain ⟨p, q, h1, h2, rfl⟩ := h
    refine ⟨p, q, ?_, ?_, rfl⟩
    · exact Below.trod hl (hr t (List.mem_cons_self ..)).1 (hr t (List.mem_cons_self ..)).2 h1 hb (fun x hx => hlt x (List.mem_append_left _ hx))
    · exact trodAll_below hl hb ts vs ds q (fun t ht => hr t (List.mem_cons_of_mem _ ht)) h2 (fun x hx => hlt x (List.mem_append_right _ hx))
  | [], [], _ :: _, _, _, h, _ => h.elim
  | [], _ :: _, _, _, _, h, _ => h.elim
  | _ :: _, [], _, _, _, h, _ => h.elim
  | _ :: _, _ :: _, [], _, _, h, _ => h.elim

theorem law_post {f : Func} {s : ChangeSpec} {tb : TypeId} {W W' : World} {args : Array Value} {ds gs : List (DataW H)} {before : List MemPlace}
    (hl : laidOutB P = true) (hr : f.params.toList.all (fun t => P.readableRec t && decide (t < P.types.size)) = true) (hv : s.vars = []) (hrt : f.resultTypes = #[tb]) (htb : P.underlying tb = some .bool)
    (hW : DataW.Whole enc P f.params.toList s.vars false W args.toList ds gs before)
    (hfn : s.fn H (ds ++ gs) = { results := [.lit (.bool true)], args := ds }) (hb : Below W.heap.size W W') :
    s.post enc P f false true false false W args (.bool true) W' := by
  have hW' := hW
  obtain ⟨p, q, hA, hV, rfl, _, _⟩ := hW
  rw [hv] at hV
  obtain ⟨rfl, rfl⟩ := trodVars_none hV
  have hlt : ∀ x ∈ p, x.block < W.heap.size := fun x hx => by simpa using hW'.lt x (List.mem_append_left _ hx)
  refine ⟨ds, [], p ++ [], [], p, [], hW', ?_, ?_, ?_, hb.frame _, fun h => by cases h⟩
  · rw [hfn, hrt]
    exact trodAll_mk1 (shut_bool htb true)
  · rw [hfn]
    exact trodAll_below hl hb _ _ _ _ (fun t ht => by have := List.all_eq_true.1 hr t ht; simpa using this) hA hlt
  · rw [hfn, hv]
    rfl

end
theorem trodAll_two {H : Type} {enc : TypeId × Value → H} {P : Program} {w : World} {base : Nat} {spare : Nat → Bool} {held : Bool} {t0 t1 : TypeId} {args : Array Value} {ds : List (DataW H)} {ps : List MemPlace} (h : DataW.TrodAll enc P w base spare held [t0, t1] args.toList ds ps) :
    ∃ v0 v1 d0 d1 p0 p1, args = #[v0, v1] ∧ ds = [d0, d1] ∧ ps = p0 ++ p1 ∧ DataW.Trod enc P w base spare held t0 v0 d0 p0 ∧ DataW.Trod enc P w base spare held t1 v1 d1 p1 := by
  obtain ⟨v0, vs0, d0, ds0, p0, q0, hargs, rfl, rfl, h0, r0⟩ := trodAll_cons h
  obtain ⟨v1, vs1, d1, ds1, p1, q1, rfl, rfl, rfl, h1, r1⟩ := trodAll_cons r0
  obtain ⟨rfl, rfl, rfl⟩ := trodAll_nil r1
  exact ⟨v0, v1, d0, d1, p0, p1, by cases args; simp_all, rfl, by simp, h0, h1⟩
theorem own : ownKnob Tryz.prog.godebug = none := by kernel_rfl
theorem laidOut : laidOutB Tryz.prog = true := by kernel_rfl
theorem twelve {α : Type} {cs : Array α} (h : cs.size = 12) : ∃ c0 c1 c2 c3 c4 c5 c6 c7 c8 c9 cA cB, cs = #[c0, c1, c2, c3, c4, c5, c6, c7, c8, c9, cA, cB] := by
  obtain ⟨l⟩ := cs
  have h : l.length = 12 := h
  obtain ⟨c0, l0, rfl⟩ : ∃ x t, l = x :: t := List.exists_cons_of_length_eq_add_one (n := 11) h
  have h0 : l0.length = 11 := by simpa using h
  obtain ⟨c1, l1, rfl⟩ : ∃ x t, l0 = x :: t := List.exists_cons_of_length_eq_add_one (n := 10) h0
  have h1 : l1.length = 10 := by simpa using h0
  obtain ⟨c2, l2, rfl⟩ : ∃ x t, l1 = x :: t := List.exists_cons_of_length_eq_add_one (n := 9) h1
  have h2 : l2.length = 9 := by simpa using h1
  obtain ⟨c3, l3, rfl⟩ : ∃ x t, l2 = x :: t := List.exists_cons_of_length_eq_add_one (n := 8) h2
  have h3 : l3.length = 8 := by simpa using h2
  obtain ⟨c4, l4, rfl⟩ : ∃ x t, l3 = x :: t := List.exists_cons_of_length_eq_add_one (n := 7) h3
  have h4 : l4.length = 7 := by simpa using h3
  obtain ⟨c5, l5, rfl⟩ : ∃ x t, l4 = x :: t := List.exists_cons_of_length_eq_add_one (n := 6) h4
  have h5 : l5.length = 6 := by simpa using h4
  obtain ⟨c6, l6, rfl⟩ : ∃ x t, l5 = x :: t := List.exists_cons_of_length_eq_add_one (n := 5) h5
  have h6 : l6.length = 5 := by simpa using h5
  obtain ⟨c7, l7, rfl⟩ : ∃ x t, l6 = x :: t := List.exists_cons_of_length_eq_add_one (n := 4) h6
  have h7 : l7.length = 4 := by simpa using h6
  obtain ⟨c8, l8, rfl⟩ : ∃ x t, l7 = x :: t := List.exists_cons_of_length_eq_add_one (n := 3) h7
  have h8 : l8.length = 3 := by simpa using h7
  obtain ⟨c9, l9, rfl⟩ : ∃ x t, l8 = x :: t := List.exists_cons_of_length_eq_add_one (n := 2) h8
  have h9 : l9.length = 2 := by simpa using h8
  obtain ⟨cA, l10, rfl⟩ : ∃ x t, l9 = x :: t := List.exists_cons_of_length_eq_add_one (n := 1) h9
  have h10 : l10.length = 1 := by simpa using h9
  obtain ⟨cB, l11, rfl⟩ : ∃ x t, l10 = x :: t := List.exists_cons_of_length_eq_add_one (n := 0) h10
  have h11 : l11.length = 0 := by simpa using h10
  have e : l11 = [] := List.eq_nil_of_length_eq_zero h11
  subst e
  exact ⟨c0, c1, c2, c3, c4, c5, c6, c7, c8, c9, cA, cB, rfl⟩
theorem cellsR12 : Tryz.prog.cellsOf 34 = 12 := by kernel_rfl
theorem cells_u64 : Tryz.prog.cellsOf 31 = 1 := by kernel_rfl
theorem cells_u8 : Tryz.prog.cellsOf 5 = 1 := by kernel_rfl
theorem cells_u32 : Tryz.prog.cellsOf 32 = 1 := by kernel_rfl
theorem cells_int : Tryz.prog.cellsOf 3 = 1 := by kernel_rfl
theorem cells_s : Tryz.prog.cellsOf 9 = 1 := by kernel_rfl
theorem at_cell {H : Type} {enc : TypeId × Value → H} {w : World} {base n q : Nat} {spare : Nat → Bool} {held : Bool} {T : TypeId} {xs : List (DataW H × List MemPlace)} {cs : List Value} (hc : Tryz.prog.cellsOf T = 1)
    (h : DataW.trod enc Tryz.prog w base spare held n T ((cs.drop q).take (Tryz.prog.cellsOf T)) = xs[q]?) (c : Value) (hq : cs[q]? = some c) (hx : q < xs.length) : ∃ y, DataW.trod enc Tryz.prog w base spare held n T [c] = some y := by
  obtain ⟨h1, rfl⟩ := List.getElem?_eq_some_iff.1 hq
  rw [hc, List.drop_eq_getElem_cons h1, List.take_succ_cons, List.take_zero, List.getElem?_eq_getElem hx] at h
  exact ⟨_, h⟩
set_option maxRecDepth 100000 in
theorem rec_open {H : Type} {enc : TypeId × Value → H} {w W : World} {base b0 : Nat} {spare : Nat → Bool} {held : Bool} {rr : Reach} {v : Value} {d : DataW H} {p : List MemPlace} (hv : Value.okWide Tryz.prog W rr b0 34 v) (h : DataW.Trod enc Tryz.prog w base spare held 34 v d p) :
    ∃ r : R, v = r.val ∧ r.Ok ∧ r.name.size ≤ maxLen ∧ r.name2.size ≤ maxLen ∧ r.data.size ≤ maxLen := by
  obtain ⟨cs, rfl, hsz⟩ := okWide_struct Tryz.underlying34 hv
  obtain ⟨c0, c1, c2, c3, c4, c5, c6, c7, c8, c9, cA, cB, rfl⟩ := twelve (hsz.trans cellsR12)
  obtain ⟨fuel, hf⟩ := h
  obtain ⟨xs, n, _, _, hl, hlen, hk⟩ := DataW.trod_struct Tryz.underlying34 hf
  obtain ⟨y0, t0⟩ := at_cell (cs := [c0, c1, c2, c3, c4, c5, c6, c7, c8, c9, cA, cB]) cells_u64 (hk 0 _ rfl) c0 rfl (by rw [hlen]; decide)
  obtain ⟨y1, t1⟩ := at_cell (cs := [c0, c1, c2, c3, c4, c5, c6, c7, c8, c9, cA, cB]) cells_u8 (hk 1 _ rfl) c1 rfl (by rw [hlen]; decide)
  obtain ⟨y2, t2⟩ := at_cell (cs := [c0, c1, c2, c3, c4, c5, c6, c7, c8, c9, cA, cB]) cells_u32 (hk 2 _ rfl) c2 rfl (by rw [hlen]; decide)
  obtain ⟨y3, t3⟩ := at_cell (cs := [c0, c1, c2, c3, c4, c5, c6, c7, c8, c9, cA, cB]) cells_s (hk 3 _ rfl) c3 rfl (by rw [hlen]; decide)
  obtain ⟨y4, t4⟩ := at_cell (cs := [c0, c1, c2, c3, c4, c5, c6, c7, c8, c9, cA, cB]) cells_u32 (hk 4 _ rfl) c4 rfl (by rw [hlen]; decide)
  obtain ⟨y5, t5⟩ := at_cell (cs := [c0, c1, c2, c3, c4, c5, c6, c7, c8, c9, cA, cB]) cells_u8 (hk 5 _ rfl) c5 rfl (by rw [hlen]; decide)
  obtain ⟨y6, t6⟩ := at_cell (cs := [c0, c1, c2, c3, c4, c5, c6, c7, c8, c9, cA, cB]) cells_u32 (hk 6 _ rfl) c6 rfl (by rw [hlen]; decide)
  obtain ⟨y7, t7⟩ := at_cell (cs := [c0, c1, c2, c3, c4, c5, c6, c7, c8, c9, cA, cB]) cells_s (hk 7 _ rfl) c7 rfl (by rw [hlen]; decide)
  obtain ⟨y8, t8⟩ := at_cell (cs := [c0, c1, c2, c3, c4, c5, c6, c7, c8, c9, cA, cB]) cells_u32 (hk 8 _ rfl) c8 rfl (by rw [hlen]; decide)
  obtain ⟨y9, t9⟩ := at_cell (cs := [c0, c1, c2, c3, c4, c5, c6, c7, c8, c9, cA, cB]) cells_u32 (hk 9 _ rfl) c9 rfl (by rw [hlen]; decide)
  obtain ⟨yA, tA⟩ := at_cell (cs := [c0, c1, c2, c3, c4, c5, c6, c7, c8, c9, cA, cB]) cells_int (hk 10 _ rfl) cA rfl (by rw [hlen]; decide)
  obtain ⟨yB, tB⟩ := at_cell (cs := [c0, c1, c2, c3, c4, c5, c6, c7, c8, c9, cA, cB]) cells_s (hk 11 _ rfl) cB rfl (by rw [hlen]; decide)
  obtain ⟨x0, e0, _, w0⟩ := DataW.trod_int Tryz.underlying31 t0
  obtain ⟨x1, e1, _, w1⟩ := DataW.trod_int Tryz.underlying5 t1
  obtain ⟨x2, e2, _, w2⟩ := DataW.trod_int Tryz.underlying32 t2
  obtain ⟨x3, e3, _, w3⟩ := DataW.trod_string Tryz.underlying9 t3
  obtain ⟨x4, e4, _, w4⟩ := DataW.trod_int Tryz.underlying32 t4
  obtain ⟨x5, e5, _, w5⟩ := DataW.trod_int Tryz.underlying5 t5
  obtain ⟨x6, e6, _, w6⟩ := DataW.trod_int Tryz.underlying32 t6
  obtain ⟨x7, e7, _, w7⟩ := DataW.trod_string Tryz.underlying9 t7
  obtain ⟨x8, e8, _, w8⟩ := DataW.trod_int Tryz.underlying32 t8
  obtain ⟨x9, e9, _, w9⟩ := DataW.trod_int Tryz.underlying32 t9
  obtain ⟨xA, eA, _, wA⟩ := DataW.trod_int Tryz.underlying3 tA
  obtain ⟨xB, eB, _, wB⟩ := DataW.trod_string Tryz.underlying9 tB
  simp only [List.cons.injEq, and_true] at e0 e1 e2 e3 e4 e5 e6 e7 e8 e9 eA eB
  subst e0
  subst e1
  subst e2
  subst e3
  subst e4
  subst e5
  subst e6
  subst e7
  subst e8
  subst e9
  subst eA
  subst eB
  have r0 : 0 ≤ x0 ∧ x0 ≤ 18446744073709551615 := by simpa [Lit.wf, IntKind.min, IntKind.max, IntKind.signed, IntKind.bits] using w0
  have r1 : 0 ≤ x1 ∧ x1 ≤ 255 := by simpa [Lit.wf, IntKind.min, IntKind.max, IntKind.signed, IntKind.bits] using w1
  have r2 : 0 ≤ x2 ∧ x2 ≤ 4294967295 := by simpa [Lit.wf, IntKind.min, IntKind.max, IntKind.signed, IntKind.bits] using w2
  have r4 : 0 ≤ x4 ∧ x4 ≤ 4294967295 := by simpa [Lit.wf, IntKind.min, IntKind.max, IntKind.signed, IntKind.bits] using w4
  have r5 : 0 ≤ x5 ∧ x5 ≤ 255 := by simpa [Lit.wf, IntKind.min, IntKind.max, IntKind.signed, IntKind.bits] using w5
  have r6 : 0 ≤ x6 ∧ x6 ≤ 4294967295 := by simpa [Lit.wf, IntKind.min, IntKind.max, IntKind.signed, IntKind.bits] using w6
  have r8 : 0 ≤ x8 ∧ x8 ≤ 4294967295 := by simpa [Lit.wf, IntKind.min, IntKind.max, IntKind.signed, IntKind.bits] using w8
  have r9 : 0 ≤ x9 ∧ x9 ≤ 4294967295 := by simpa [Lit.wf, IntKind.min, IntKind.max, IntKind.signed, IntKind.bits] using w9
  exact ⟨⟨x0, x1, x2, x3, x4, x5, x6, x7, x8, x9, xA, xB⟩, rfl, ⟨r0, r1, r2, r4, r5, r6, r8, r9⟩, w3, w7, wB⟩
set_option maxRecDepth 100000 in
theorem lifted_recBack (os : Os) (started : os.Started) (H : Type) (enc : TypeId × Value → H) :
    ReturnsInHanded {} Tryz.checked os 6 .any (Rows.recBackSpec.pre6 enc Tryz.prog Tryz.f6 Rows.recBackRow.domain false) (Rows.recBackSpec.post enc Tryz.prog Tryz.f6 false true false false) := by
  refine returnsInHanded_of_change (C := Tryz.checked) own started (by kernel_rfl) Tryz.func6
    (ChangeSpec.witness6 (enc := enc) (C := Tryz.checked) false ⟨#[], #[.agg #[.int .u64 0, .int .u8 0, .int .u32 0, .string ⟨#[]⟩, .int .u32 0, .int .u8 0, .int .u32 0, .string ⟨#[]⟩, .int .u32 0, .int .u32 0, .int .i64 0, .string ⟨#[]⟩], .string ⟨#[]⟩], []⟩ 8 (by kernel_rfl) (by kernel_rfl) (by kernel_rfl) (by kernel_rfl)) ?_
  intro W base args ds gs before hval0 hW _ _
  have hval : ∀ (j : Nat) t v, Tryz.f6.params[j]? = some t → args[j]? = some v → Value.okWide Tryz.prog W .any base t v := hval0
  have hW' := hW
  obtain ⟨p, q, hA0, hV, rfl, _, _⟩ := hW
  have hA : DataW.TrodAll enc Tryz.prog W 0 (fun _ => true) true Tryz.f6.params.toList args.toList ds p := hA0
  rw [Tryz.params6] at hA hval
  obtain ⟨v0, v1, d0, d1, p0, p1, rfl, rfl, rfl, h0, h1⟩ := trodAll_two hA
  obtain ⟨rfl, rfl⟩ := trodVars_none hV
  obtain ⟨r, rfl, ro, r1, r2, r3⟩ := rec_open (hval 0 34 v0 rfl rfl) h0
  obtain ⟨s, rfl, rfl, rfl, ws⟩ := Go.ChangeMaps.open_string Tryz.underlying9 (hval 1 9 v1 rfl rfl) h1
  refine (t_recBack r ro r1 r2 r3 s ws W).mono fun e W' ⟨he, hb⟩ => ?_
  exact ⟨_, he, law_post laidOut (by kernel_rfl) rfl (by kernel_rfl) Tryz.underlying4 hW' rfl hb⟩

theorem recBack_holds : Rows.RecBackSaid :=
  OpenClaim.holds_of_wide 6 Tryz.f6 rfl rfl rfl rfl rfl rfl rfl ⟨rfl, rfl, rfl, rfl, rfl⟩ rfl rfl rfl rfl rfl (by kernel_rfl) Tryz.func6 (by kernel_rfl)
    (of_decide_eq_true (by kernel_rfl)) (by unfold Func.isWrapper; first | (rw [if_pos (by decide +kernel)]; kernel_rfl) | (rw [if_neg (by decide +kernel)]; exact ⟨rfl, rfl⟩))
    (fun os started H enc _ => lifted_recBack os started H enc)
#print axioms recBack_holds
end Go.Proofs.YtehckjkihaalfaaGreat
