/- FdsCount is proved: for every list of steps the statement's Go function returns true, and its argument reads as it did. No condition. -/
import Derived.Test.YtggpjddomicekaaF
import Derived.Test.YtggpjddomicekaaL
namespace Go.Proofs.Ytggpjddomicekaa
open Go.ChangeShapes Go.WideShapes Go.ChangeAt Go.RowKit

theorem own : ownKnob Try.prog.godebug = none := by kernel_rfl
theorem laidOut : laidOutB Try.prog = true := by kernel_rfl
theorem cells31 : Try.prog.cellsOf 31 = 4 := by kernel_rfl

theorem add_flat {b o : Nat} (i : Nat) : (⟨b, o, none⟩ : Addr).add i = ⟨b, o + i, none⟩ := by unfold Addr.add; split <;> simp_all

/-- What the argument's reading gives. -/
theorem steps_of {H : Type} {enc : TypeId × Value → H} {W : World} {sp : Nat → Bool} {held : Bool} {v : Value} {d : DataW H} {p : List MemPlace} (hv : ∃ a len cap, v = .slice a len cap) (h : DataW.Trod enc Try.prog W 0 sp held 22 v d p) :
    ∃ (A : Option Addr) (n c : Nat) (f : Nat → Int × Int × Int × Int), v = .slice A n c ∧ n ≤ maxLen ∧ Steps W A n f := by
  obtain ⟨a0, len, cap, rfl⟩ := hv
  obtain ⟨fuel, hf⟩ := h
  rcases structs_open Try.underlying22 Try.underlying31 (by kernel_rfl) cells31 hf with h0 | ⟨a, len', cap', h0, hl, hm, hc⟩
  · simp [Value.cells] at h0
    obtain ⟨rfl, rfl, rfl⟩ := h0
    exact ⟨_, _, _, fun _ => (0, 0, 0, 0), rfl, Nat.zero_le _, ⟨fun h => absurd h (by omega), fun _ => by simp⟩⟩
  · simp [Value.cells] at h0
    obtain ⟨rfl, rfl, rfl⟩ := h0
    have hall : ∀ i, i < len → ∃ q : Int × Int × Int × Int, W.cell? (a.add (i * 4 + 0)) = some (.int .i64 q.1) ∧ W.cell? (a.add (i * 4 + 1)) = some (.int .i64 q.2.1) ∧ W.cell? (a.add (i * 4 + 2)) = some (.int .i64 q.2.2.1) ∧ W.cell? (a.add (i * 4 + 3)) = some (.int .u32 q.2.2.2) ∧ (0 ≤ q.2.2.2 ∧ q.2.2.2 ≤ 4294967295) := by
      intro i hi
      obtain ⟨v0, y0, n0, c0, t0⟩ := hc i hi 0 _ rfl
      obtain ⟨v1, y1, n1, c1, t1⟩ := hc i hi 1 _ rfl
      obtain ⟨v2, y2, n2, c2, t2⟩ := hc i hi 2 _ rfl
      obtain ⟨v3, y3, n3, c3, t3⟩ := hc i hi 3 _ rfl
      obtain ⟨x0, e0, _, _⟩ := DataW.trod_int Try.underlying3 t0
      obtain ⟨x1, e1, _, _⟩ := DataW.trod_int Try.underlying3 t1
      obtain ⟨x2, e2, _, _⟩ := DataW.trod_int Try.underlying3 t2
      obtain ⟨x3, e3, _, w3⟩ := DataW.trod_int Try.underlying29 t3
      simp only [List.cons.injEq, and_true] at e0 e1 e2 e3
      subst e0; subst e1; subst e2; subst e3
      refine ⟨(x0, x1, x2, x3), c0, c1, c2, c3, ?_⟩
      simpa [Lit.wf, IntKind.min, IntKind.max, IntKind.signed, IntKind.bits] using w3
    let f : Nat → Int × Int × Int × Int := fun i => if h : i < len then Classical.choose (hall i h) else (0, 0, 0, 0)
    have hspec : ∀ i, (h : i < len) → W.cell? (a.add (i * 4 + 0)) = some (.int .i64 (f i).1) ∧ W.cell? (a.add (i * 4 + 1)) = some (.int .i64 (f i).2.1) ∧ W.cell? (a.add (i * 4 + 2)) = some (.int .i64 (f i).2.2.1) ∧ W.cell? (a.add (i * 4 + 3)) = some (.int .u32 (f i).2.2.2) ∧ (0 ≤ (f i).2.2.2 ∧ (f i).2.2.2 ≤ 4294967295) := by
      intro i h
      have := Classical.choose_spec (hall i h)
      simp only [f, dif_pos h]
      exact this
    refine ⟨_, _, _, f, rfl, Nat.le_trans hl hm, ⟨fun hpos => ?_, fun k => ?_⟩⟩
    · have h0 := (hspec 0 hpos).1
      obtain ⟨ab, ao, asp⟩ := a
      have hsn : asp = none := by
        cases asp with
        | none => rfl
        | some s =>
          exfalso
          simp [World.cell?, Addr.add] at h0
          split at h0 <;> cases h0
      subst hsn
      refine ⟨ab, ao, rfl, ?_, fun k hk => ?_⟩
      · simp only [add_flat] at h0
        exact World.block_lt_of_cell? W _ h0
      · have := hspec k hk
        simp only [add_flat, Nat.add_zero, ← Nat.add_assoc] at this
        exact ⟨this.1, this.2.1, this.2.2.1, this.2.2.2.1⟩
    · by_cases h : k < len
      · exact (hspec k h).2.2.2.2
      · simp [f, h]

set_option maxRecDepth 100000 in
theorem lifted (os : Os) (started : os.Started) (H : Type) (enc : TypeId × Value → H) :
    ReturnsInHanded {} Try.checked os 3 .any (Rows.fdsCountSpec.pre6 enc Try.prog Try.f3 Rows.fdsCountRow.domain false) (Rows.fdsCountSpec.post enc Try.prog Try.f3 false true false false) := by
  refine returnsInHanded_of_change (C := Try.checked) own started (by kernel_rfl) Try.func3
    (ChangeSpec.witness6 (enc := enc) (C := Try.checked) false ⟨#[], #[.slice none 0 0], []⟩ 8 (by kernel_rfl) (by kernel_rfl) (by kernel_rfl) (by kernel_rfl)) ?_
  intro W base args ds gs before hval0 hW _ _
  have hval : ∀ (j : Nat) t v, Try.f3.params[j]? = some t → args[j]? = some v → Value.okWide Try.prog W .any base t v := hval0
  have hW' := hW
  obtain ⟨p, q, hA0, hV, rfl, _, _⟩ := hW
  have hA : DataW.TrodAll enc Try.prog W 0 (fun _ => true) true Try.f3.params.toList args.toList ds p := hA0
  rw [Try.params3] at hA hval
  obtain ⟨v0, d0, rfl, rfl, h0⟩ := trodAll_one hA
  obtain ⟨rfl, rfl⟩ := trodVars_none hV
  obtain ⟨A, n, c, f, rfl, hn, hs⟩ := steps_of (okWide_slice Try.underlying22 (hval 0 22 v0 rfl rfl)) h0
  refine (count_any A n c f W hs hn).mono fun e W' ⟨he, hb⟩ => ?_
  exact ⟨_, he, law_post laidOut (by kernel_rfl) rfl (by kernel_rfl) Try.underlying4 hW' rfl hb⟩

theorem fdsCount_holds : Rows.FdsCountSaid :=
  OpenClaim.holds_of_wide 3 Try.f3 rfl rfl rfl rfl rfl rfl rfl ⟨rfl, rfl, rfl, rfl, rfl⟩ rfl rfl rfl rfl rfl (by kernel_rfl) Try.func3 (by kernel_rfl)
    (of_decide_eq_true (by kernel_rfl)) (by unfold Func.isWrapper; first | (rw [if_pos (by decide +kernel)]; kernel_rfl) | (rw [if_neg (by decide +kernel)]; exact ⟨rfl, rfl⟩))
    (fun os started H enc _ => lifted os started H enc)
#print axioms fdsCount_holds
end Go.Proofs.Ytggpjddomicekaa
