/- FairJoins is proved: for whatever numbers, picks and conf the statement's Go function returns true, and its arguments read as they did. The one condition is the given one: the listed package variable reads as its text lays it (tied by the card). -/
import Derived.Test.YtmnombfgahmfkaaGreatDoorOG
import Derived.Test.YtmnombfgahmfkaaGreatDoorCards
import Derived.Test.YtmnombfgahmfkaaGreatDoorTie
import Derived.Carry
import Derived.ProofKit
import Derived.SizedLaws
import Derived.Deep.Slices
import Derived.Deep.Fields
import Derived.ChangeMaps5
import Derived.LaidLaws
import Derived.Stop.Joined
import Derived.LaidHandle
import Derived.LaidMore
import Derived.OpenShut
import Derived.SevenTiedAt
namespace Go.Proofs.YtmnombfgahmfkaaGreatDoor
open Go.ChangeShapes Go.WideShapes Go.ChangeAt Go.RowKit

section
variable {H : Type} {enc : TypeId × Value → H} {P : Program}

/-- All arguments read as they did. -/
theorem trodAll_below (hl : laidOutB P = true) {W W' : World} (hb : Below W.heap.size W W') :
    ∀ (ts : List TypeId) (vs : List Value) (ds : List (DataW H)) (ps : List MemPlace), (∀ t ∈ ts, P.readableRec t = true ∧ t < P.types.size) →
      DataW.TrodAll enc P W 0 (fun _ => true) true ts vs ds ps → (∀ x ∈ ps, x.block < W.heap.size) → DataW.TrodAll enc P W' 0 (fun b => decide (b < W.heap.size)) true ts vs ds ps
  | [], [], [], ps, _, h, _ => h
  | t :: ts, v :: vs, d :: ds, ps, hr, h, hlt => by
    obtain ⟨p, q, h1, h2, rfl⟩ := h
    refine ⟨p, q, ?_, ?_, rfl⟩
    · exact Below.trod hl (hr t (List.mem_cons_self ..)).1 (hr t (List.mem_cons_self ..)).2 h1 hb (fun x hx => hlt x (List.mem_append_left _ hx))
    · exact trodAll_below hl hb ts vs ds q (fun t ht => hr t (List.mem_cons_of_mem _ ht)) h2 (fun x hx => hlt x (List.mem_append_right _ hx))
  | [], [], _ :: _, _, _, h, _ => h.elim
  | [], _ :: _, _, _, _, h, _ => h.elim
  | _ :: _, [], _, _, _, h, _ => h.elim
  | _ :: _, _ :: _, [], _, _, h, _ => h.elim

theorem law_post {f : Func} {s : ChangeSpec} {tb : TypeId} {W W' : World} {args : Array Value} {ds gs : List (DataW H)} {before : List MemPlace}
    (hl : laidOutB P = true) (hr : f.params.toList.all (fun t => P.readableRec t && decide (t < P.types.size)) = true) (hv : s.vars = []) (hrt : f.resultTypes = #[tb]) (htb : P.underlying tb = some .bool)
    (hW : DataW.Whole enc P f.params.toList s.vars false W args.toList ds gs before)
    (hfn : s.fn H (ds ++ gs) = { results := [.lit (.bool true)], args := ds }) (hb : Below W.heap.size W W') :
    s.post enc P f false true false false W args (.bool true) W' := by
  have hW' := hW
  obtain ⟨p, q, hA, hV, rfl, _, _⟩ := hW
  rw [hv] at hV
  obtain ⟨rfl, rfl⟩ := trodVars_none hV
  have hlt : ∀ x ∈ p, x.block < W.heap.size := fun x hx => by simpa using hW'.lt x (List.mem_append_left _ hx)
  refine ⟨ds, [], p ++ [], [], p, [], hW', ?_, ?_, ?_, hb.frame _, fun h => by cases h⟩
  · rw [hfn, hrt]
    exact trodAll_mk1 (shut_bool htb true)
  · rw [hfn]
    exact trodAll_below hl hb _ _ _ _ (fun t ht => by have := List.all_eq_true.1 hr t ht; simpa using this) hA hlt
  · rw [hfn, hv]
    rfl

end

theorem own : ownKnob Tryz.prog.godebug = none := by kernel_rfl
theorem laidOut : laidOutB Tryz.prog = true := by kernel_rfl
theorem cells_u8o : Tryz.prog.cellsOf 5 = 1 := by kernel_rfl
theorem cells_into : Tryz.prog.cellsOf 3 = 1 := by kernel_rfl
theorem cells_conf : Tryz.prog.cellsOf 24 = 4 := by kernel_rfl
theorem at_cell {H : Type} {enc : TypeId × Value → H} {w : World} {base n q : Nat} {spare : Nat → Bool} {held : Bool} {T : TypeId} {xs : List (DataW H × List MemPlace)} {cs : List Value} (hc : Tryz.prog.cellsOf T = 1)
    (h : DataW.trod enc Tryz.prog w base spare held n T ((cs.drop q).take (Tryz.prog.cellsOf T)) = xs[q]?) (c : Value) (hq : cs[q]? = some c) (hx : q < xs.length) : ∃ y, DataW.trod enc Tryz.prog w base spare held n T [c] = some y := by
  obtain ⟨h1, rfl⟩ := List.getElem?_eq_some_iff.1 hq
  rw [hc, List.drop_eq_getElem_cons h1, List.take_succ_cons, List.take_zero, List.getElem?_eq_getElem hx] at h
  exact ⟨_, h⟩
set_option maxRecDepth 100000 in

/-- A row of bytes that came in. -/
theorem bytes_of {H : Type} {enc : TypeId × Value → H} {W : World} {sp : Nat → Bool} {held : Bool} {v : Value} {d : DataW H} {p : List MemPlace} (hv : ∃ a len cap, v = .slice a len cap) (h : DataW.Trod enc Tryz.prog W 0 sp held 22 v d p) :
    ∃ (A : Option Addr) (n c : Nat) (l : List Int), v = .slice A n c ∧ n ≤ c ∧ n ≤ maxLen ∧ (A = none → c = 0) ∧ l.length = n ∧ U8At W A l := by
  obtain ⟨a0, len, cap, rfl⟩ := hv
  obtain ⟨fuel, hf⟩ := h
  rcases Go.Deep.open_slice1 Tryz.underlying22 cells_u8o hf with ⟨h0, _⟩ | ⟨a, len', cap', m, n, V, D, Pl, h0, _, hl, hm, hmm, _, hx⟩
  · simp [Value.cells] at h0
    obtain ⟨rfl, rfl, rfl⟩ := h0
    exact ⟨none, 0, 0, [], rfl, Nat.le_refl _, Nat.zero_le _, fun _ => rfl, rfl, ⟨fun v hv => absurd hv (by simp), fun e => absurd rfl e⟩⟩
  · simp [Value.cells] at h0
    obtain ⟨rfl, rfl, rfl⟩ := h0
    have hall : ∀ i, i < len → ∃ x : Int, W.cell? (a.add i) = some (.int .u8 x) ∧ (Lit.int .u8 x).wf = true := by
      intro i hi
      obtain ⟨c0, t0⟩ := hx i (by rw [hmm]; split <;> omega)
      obtain ⟨x0, e0, _, w0⟩ := DataW.trod_int Tryz.underlying5 t0
      simp only [List.cons.injEq, and_true] at e0
      rw [e0] at c0
      exact ⟨x0, c0, w0⟩
    let f : Nat → Int := fun i => if h : i < len then Classical.choose (hall i h) else 0
    have hspec : ∀ i, (h : i < len) → W.cell? (a.add i) = some (.int .u8 (f i)) ∧ (Lit.int .u8 (f i)).wf = true := by
      intro i h
      have := Classical.choose_spec (hall i h)
      simp only [f, dif_pos h]
      exact this
    refine ⟨_, _, _, (List.range len).map f, rfl, hl, Nat.le_trans hl hm, fun e => absurd e (by simp), by simp, ⟨fun x hx => ?_, fun hne => ?_⟩⟩
    · obtain ⟨i, hi, rfl⟩ := List.mem_map.1 hx
      have := (hspec i (by simpa using hi)).2
      simpa [Lit.wf, IntKind.min, IntKind.max, IntKind.signed, IntKind.bits] using this
    · have hlen : 0 < len := by
        by_cases h : 0 < len
        · exact h
        · exfalso
          apply hne
          have : len = 0 := by omega
          rw [this]
          rfl
      have h0 := (hspec 0 hlen).1
      obtain ⟨ab, ao, asp⟩ := a
      have hsn : asp = none := by
        cases asp with
        | none => rfl
        | some s =>
          exfalso
          simp [World.cell?, Addr.add] at h0
          split at h0 <;> cases h0
      subst hsn
      refine ⟨ab, ao, rfl, fun j u hu => ?_⟩
      have hjl : j < len := by
        have := (List.getElem?_eq_some_iff.1 hu).1
        simpa using this
      have h1 := (hspec j hjl).1
      simp only [oadd_flat] at h1
      rw [List.getElem?_map, List.getElem?_range hjl] at hu
      simp only [Option.map_some, Option.some.injEq] at hu
      rw [h1, ← hu]
theorem four {α : Type} {l : List α} (h : l.length = 4) : ∃ a b c d, l = [a, b, c, d] := by
  match l, h with
  | [a, b, c, d], _ => exact ⟨a, b, c, d, rfl⟩

set_option maxRecDepth 100000 in
theorem conf_open {H : Type} {enc : TypeId × Value → H} {w W : World} {base b0 : Nat} {spare : Nat → Bool} {held : Bool} {rr : Reach} {v : Value} {d : DataW H} {p : List MemPlace} (hv : Value.okWide Tryz.prog W rr b0 24 v) (h : DataW.Trod enc Tryz.prog w base spare held 24 v d p) :
    ∃ i c l r, v = confV i c l r := by
  obtain ⟨cs, rfl, hsz⟩ := okWide_struct Tryz.underlying24 hv
  obtain ⟨c0, c1, c2, c3, hcs⟩ := four (l := cs.toList) (by simpa using hsz.trans cells_conf)
  obtain rfl : cs = #[c0, c1, c2, c3] := by cases cs; simp_all
  obtain ⟨fuel, hf⟩ := h
  obtain ⟨xs, n, _, _, hl, hlen, hk⟩ := DataW.trod_struct Tryz.underlying24 hf
  obtain ⟨y0, t0⟩ := at_cell (cs := [c0, c1, c2, c3]) cells_into (hk 0 _ rfl) c0 rfl (by rw [hlen]; decide)
  obtain ⟨y1, t1⟩ := at_cell (cs := [c0, c1, c2, c3]) cells_into (hk 1 _ rfl) c1 rfl (by rw [hlen]; decide)
  obtain ⟨y2, t2⟩ := at_cell (cs := [c0, c1, c2, c3]) cells_into (hk 2 _ rfl) c2 rfl (by rw [hlen]; decide)
  obtain ⟨y3, t3⟩ := at_cell (cs := [c0, c1, c2, c3]) cells_into (hk 3 _ rfl) c3 rfl (by rw [hlen]; decide)
  obtain ⟨x0, e0, _, w0⟩ := DataW.trod_int Tryz.underlying3 t0
  obtain ⟨x1, e1, _, w1⟩ := DataW.trod_int Tryz.underlying3 t1
  obtain ⟨x2, e2, _, w2⟩ := DataW.trod_int Tryz.underlying3 t2
  obtain ⟨x3, e3, _, w3⟩ := DataW.trod_int Tryz.underlying3 t3
  simp only [List.cons.injEq, and_true] at e0 e1 e2 e3
  subst e0
  subst e1
  subst e2
  subst e3
  exact ⟨x0, x1, x2, x3, rfl⟩
theorem trodAll_seven {H : Type} {enc : TypeId × Value → H} {P : Program} {w : World} {base : Nat} {spare : Nat → Bool} {held : Bool} {t0 t1 t2 t3 t4 t5 t6 : TypeId} {args : Array Value} {ds : List (DataW H)} {ps : List MemPlace} (h : DataW.TrodAll enc P w base spare held [t0, t1, t2, t3, t4, t5, t6] args.toList ds ps) :
    ∃ v0 v1 v2 v3 v4 v5 v6 d0 d1 d2 d3 d4 d5 d6 p0 p1 p2 p3 p4 p5 p6, args = #[v0, v1, v2, v3, v4, v5, v6] ∧ ds = [d0, d1, d2, d3, d4, d5, d6] ∧ DataW.Trod enc P w base spare held t0 v0 d0 p0 ∧ DataW.Trod enc P w base spare held t1 v1 d1 p1 ∧ DataW.Trod enc P w base spare held t2 v2 d2 p2 ∧ DataW.Trod enc P w base spare held t3 v3 d3 p3 ∧ DataW.Trod enc P w base spare held t4 v4 d4 p4 ∧ DataW.Trod enc P w base spare held t5 v5 d5 p5 ∧ DataW.Trod enc P w base spare held t6 v6 d6 p6 := by
  obtain ⟨v0, vs0, d0, ds0, p0, q0, hargs, rfl, rfl, h0, r0⟩ := trodAll_cons h
  obtain ⟨v1, vs1, d1, ds1, p1, q1, rfl, rfl, rfl, h1, r1⟩ := trodAll_cons r0
  obtain ⟨v2, vs2, d2, ds2, p2, q2, rfl, rfl, rfl, h2, r2⟩ := trodAll_cons r1
  obtain ⟨v3, vs3, d3, ds3, p3, q3, rfl, rfl, rfl, h3, r3⟩ := trodAll_cons r2
  obtain ⟨v4, vs4, d4, ds4, p4, q4, rfl, rfl, rfl, h4, r4⟩ := trodAll_cons r3
  obtain ⟨v5, vs5, d5, ds5, p5, q5, rfl, rfl, rfl, h5, r5⟩ := trodAll_cons r4
  obtain ⟨v6, vs6, d6, ds6, p6, q6, rfl, rfl, rfl, h6, r6⟩ := trodAll_cons r5
  obtain ⟨rfl, rfl, rfl⟩ := trodAll_nil r6
  exact ⟨v0, v1, v2, v3, v4, v5, v6, d0, d1, d2, d3, d4, d5, d6, p0, p1, p2, p3, p4, p5, p6, by cases args; simp_all, rfl, h0, h1, h2, h3, h4, h5, h6⟩
theorem u8_fits {x : Int} (w : (Lit.int .u8 x).wf = true) : ∃ n : Nat, x = n ∧ n ≤ 255 := by
  have : 0 ≤ x ∧ x ≤ 255 := by simpa [Lit.wf, IntKind.min, IntKind.max, IntKind.signed, IntKind.bits] using w
  exact ⟨x.toNat, by omega, by omega⟩
theorem u16_fits {x : Int} (w : (Lit.int .u16 x).wf = true) : ∃ n : Nat, x = n ∧ n ≤ 65535 := by
  have : 0 ≤ x ∧ x ≤ 65535 := by simpa [Lit.wf, IntKind.min, IntKind.max, IntKind.signed, IntKind.bits] using w
  exact ⟨x.toNat, by omega, by omega⟩
/-- More than the law looks at. -/
theorem t_joins_long (cores more : Int) (A B : Option Addr) (na ca nb cb : Nat) (cv : Value) (i c l r : Int) (hcv : cv = confV i c l r) (x y : Int) (w : World) (_hna : na ≤ maxLen) (_hnb : nb ≤ maxLen) (h : 500 < na ∨ 500 < nb) :
    Calls Tryz.prog 3 #[.int .u8 cores, .int .u8 more, .slice A na ca, .slice B nb cb, cv, .int .u16 x, .int .u16 y] w fun e w' => e = .returned (.bool true) ∧ Below w.heap.size w w' := by
  subst hcv
  by_cases h1 : 500 < na
  · have h1' : (500 : Int) < na := by omega
    clear h
    go_enter Tryz.func3, Tryz.ntmps3
    go_wp2_with (go_at_call 4; (with_reducible refine (t_alive34 _).mono ?_); rintro e z8 ⟨rfl, hb8⟩)
    go_ret
    exact ⟨rfl, bcomp (ballo w _) hb8⟩
  · have h2 : 500 < nb := by omega
    have h1' : ¬ (500 : Int) < na := by omega
    have h2' : (500 : Int) < nb := by omega
    clear h
    go_enter Tryz.func3, Tryz.ntmps3
    go_wp2_with (go_at_call 4; (with_reducible refine (t_alive34 _).mono ?_); rintro e z8 ⟨rfl, hb8⟩)
    go_ret
    exact ⟨rfl, bcomp (ballo w _) hb8⟩

abbrev laidK : List (String × DataW Unit) := [("lunette/call.kinds", Rows.laid_lunette_call_kinds)]
/-- The door's own heap meets the condition. -/
theorem door_met (os : Os) (args : Array Value) : laidMetH Tryz.prog laidK ((World.doorLaid Tryz.prog 400 os).forCall (fun _ _ => 0) ⟨#[], args, []⟩).memory :=
  laidMetH_of_parts3 (fuel := 8) (laidMet_of_run' 8 (by kernel_rfl) (by kernel_rfl)) (by kernel_rfl) (by kernel_rfl)
set_option maxRecDepth 100000 in
theorem lifted (os : Os) (started : os.Started) (H : Type) (enc : TypeId × Value → H) :
    ReturnsInHanded {} Tryz.checked os 3 .any (fun w args => (Rows.fairJoinsSpec.pre enc Tryz.prog Tryz.f3 [] false w args ∧ laidMetH Tryz.prog laidK w) ∧ sizedMet enc Tryz.prog Tryz.f3 (OpenSpec.ofChange Rows.fairJoinsSpec) false w args)
      (Rows.fairJoinsSpec.post enc Tryz.prog Tryz.f3 false true false false) := by
  refine returnsInHanded_of_change_and (C := Tryz.checked) (X := fun w _ => laidMetH Tryz.prog laidK w) (fun _ _ _ hh h => h.of_heap hh) own started (by kernel_rfl) Tryz.func3
    (ChangeSpec.witness_shaped (enc := enc) (C := Tryz.checked) (os := os) (X := fun w _ => laidMetH Tryz.prog laidK w) false (World.doorLaid Tryz.prog 400 os) #[.int .u8 0, .int .u8 0, .slice none 0 0, .slice none 0 0, confV 0 0 0 0, .int .u16 0, .int .u16 0] 8 rfl (World.shaped_of_RefB (by kernel_rfl) (by kernel_rfl)) (by kernel_rfl) (by kernel_rfl) (by kernel_rfl) (door_met os _)) ?_
  intro W base args ds gs before hval0 hW _ _ _ _
  have hval : ∀ (j : Nat) t v, Tryz.f3.params[j]? = some t → args[j]? = some v → Value.okWide Tryz.prog W .any base t v := hval0
  have hW' := hW
  obtain ⟨p, q, hA0, hV, rfl, _, _⟩ := hW
  have hA : DataW.TrodAll enc Tryz.prog W 0 (fun _ => true) true Tryz.f3.params.toList args.toList ds p := hA0
  rw [Tryz.params3] at hA hval
  obtain ⟨v0, v1, v2, v3, v4, v5, v6, d0, d1, d2, d3, d4, d5, d6, p0, p1, p2, p3, p4, p5, p6, rfl, rfl, h0, h1, h2, h3, h4, h5, h6⟩ := trodAll_seven hA
  obtain ⟨rfl, rfl⟩ := trodVars_none hV
  obtain ⟨a0, rfl, rfl, rfl, w0⟩ := open_int Tryz.underlying5 (hval 0 5 v0 rfl rfl) h0
  obtain ⟨a1, rfl, rfl, rfl, w1⟩ := open_int Tryz.underlying5 (hval 1 5 v1 rfl rfl) h1
  obtain ⟨A, na, ca, la, rfl, ha1, ha2, ha3, ha4, ha5⟩ := bytes_of (okWide_slice Tryz.underlying22 (hval 2 22 v2 rfl rfl)) h2
  obtain ⟨B, nb, cb, lb, rfl, hb1, hb2, hb3, hb4, hb5⟩ := bytes_of (okWide_slice Tryz.underlying22 (hval 3 22 v3 rfl rfl)) h3
  obtain ⟨i, c, l, r, rfl⟩ := conf_open (hval 4 24 v4 rfl rfl) h4
  obtain ⟨a5, rfl, rfl, rfl, w5⟩ := open_int Tryz.underlying25 (hval 5 25 v5 rfl rfl) h5
  obtain ⟨a6, rfl, rfl, rfl, w6⟩ := open_int Tryz.underlying25 (hval 6 25 v6 rfl rfl) h6
  have key : Calls Tryz.prog 3 #[.int .u8 a0, .int .u8 a1, .slice A na ca, .slice B nb cb, confV i c l r, .int .u16 a5, .int .u16 a6] W fun e w' => e = .returned (.bool true) ∧ Below W.heap.size W w' := by
    by_cases hlong : 500 < na ∨ 500 < nb
    · exact t_joins_long a0 a1 A B na ca nb cb _ i c l r rfl a5 a6 W ha2 hb2 hlong
    · obtain ⟨n0, rfl, m0⟩ := u8_fits w0
      obtain ⟨n1, rfl, m1⟩ := u8_fits w1
      obtain ⟨n5, rfl, m5⟩ := u16_fits w5
      obtain ⟨n6, rfl, m6⟩ := u16_fits w6
      exact t_joins n0 n1 A B na ca nb cb la lb i c l r n5 n6 W m0 m1 m5 m6 ha5 hb5 ha4 hb4 ha1 hb1 ha3 hb3 (by omega) (by omega)
  refine key.mono fun e W' ⟨he, hb⟩ => ?_
  exact ⟨_, he, law_post laidOut (by kernel_rfl) rfl (by kernel_rfl) Tryz.underlying4 hW' rfl hb⟩

theorem fairJoins_row : Rows.FairJoinsSaid :=
  OpenClaim.holds_of_wide 3 Tryz.f3 rfl rfl rfl rfl rfl rfl rfl ⟨rfl, rfl, rfl, rfl, rfl⟩ rfl rfl rfl rfl rfl (by kernel_rfl) Tryz.func3 (by kernel_rfl)
    (of_decide_eq_true (by kernel_rfl)) (by unfold Func.isWrapper; first | (rw [if_pos (by decide +kernel)]; kernel_rfl) | (rw [if_neg (by decide +kernel)]; exact ⟨rfl, rfl⟩))
    (fun os started H enc _ => lifted os started H enc)
end Go.Proofs.YtmnombfgahmfkaaGreatDoor
