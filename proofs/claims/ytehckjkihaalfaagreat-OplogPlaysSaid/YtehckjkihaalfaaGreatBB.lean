/- The kinds of records. -/
import Derived.Test.YtehckjkihaalfaaGreatBA
import Derived.Test.YtehckjkihaalfaaGreatRA
namespace Go.Proofs.YtehckjkihaalfaaGreat
open Go.RowKit Go.Maps

def kindV (word : Array UInt8) (e k m s d : Bool) (f : Nat) : Value := .agg #[.string ⟨word⟩, .bool e, .bool k, .bool m, .bool s, .bool d, .func (.func f) #[] #[]]
abbrev kind1 : Value := .agg #[.string ⟨#[109, 97, 107, 101]⟩, .bool true, .bool true, .bool false, .bool false, .bool false, .func (.func 104) #[] #[]]
abbrev kind2 : Value := .agg #[.string ⟨#[108, 105, 110, 107]⟩, .bool true, .bool false, .bool false, .bool false, .bool false, .func (.func 105) #[] #[]]
abbrev kind3 : Value := .agg #[.string ⟨#[117, 110, 108, 105, 110, 107]⟩, .bool true, .bool true, .bool false, .bool false, .bool false, .func (.func 106) #[] #[]]
abbrev kind4 : Value := .agg #[.string ⟨#[114, 101, 110, 97, 109, 101]⟩, .bool true, .bool true, .bool true, .bool false, .bool false, .func (.func 107) #[] #[]]
abbrev kind5 : Value := .agg #[.string ⟨#[115, 105, 122, 101]⟩, .bool false, .bool false, .bool false, .bool true, .bool false, .func (.func 108) #[] #[]]
abbrev kind6 : Value := .agg #[.string ⟨#[112, 97, 103, 101]⟩, .bool false, .bool false, .bool false, .bool true, .bool true, .func (.func 109) #[] #[]]
abbrev kind7 : Value := .agg #[.string ⟨#[102, 114, 101, 101]⟩, .bool false, .bool false, .bool false, .bool false, .bool false, .func (.func 110) #[] #[]]
abbrev kind0 : Value := .agg #[.string ⟨#[]⟩, .bool false, .bool false, .bool false, .bool false, .bool false, .nilFunc]
def kindO (a : Int) : Option Value := if a = 7 then some kind7 else if a = 6 then some kind6 else if a = 5 then some kind5 else if a = 4 then some kind4 else if a = 3 then some kind3 else if a = 2 then some kind2 else if a = 1 then some kind1 else none
def kindsM : Lit → Option Value
  | .int .u8 a => kindO a
  | _ => none
theorem pkey8 {i : Int} (h : 0 ≤ i ∧ i ≤ 255) : keyOf Tryz.prog 5 (.int .u8 i) = some (.int .u8 i) :=
  keyOf_int_mk Tryz.underlying5 (by simp [Lit.wf, IntKind.min, IntKind.max, IntKind.signed, IntKind.bits]; omega)
theorem law8 : Keyed Tryz.prog 5 := int_keyed Tryz.underlying5
set_option maxRecDepth 100000 in
/-- A map of all kinds, the call's own. -/
theorem t_rkinds (w : World) : Calls Tryz.prog 71 #[] w fun e w' => ∃ b, e = .returned (.map (some b)) ∧ MapAt w' Tryz.prog 5 b 7 kindsM ∧ Below w.heap.size w w' ∧ w.heap.size ≤ b := by
  have hmm := @run_makeMap Tryz.prog
  have m0 := MapAt.made w Tryz.prog 5
  obtain ⟨w1, r1, m1, t1⟩ := m0.update law8 Tryz.underlying111 (by unfold maxLen; omega) (val := kind1) (pkey8 (i := 1) (by omega))
  obtain ⟨w2, r2, m2, t2⟩ := m1.update law8 Tryz.underlying111 (by unfold maxLen; omega) (val := kind2) (pkey8 (i := 2) (by omega))
  obtain ⟨w3, r3, m3, t3⟩ := m2.update law8 Tryz.underlying111 (by unfold maxLen; omega) (val := kind3) (pkey8 (i := 3) (by omega))
  obtain ⟨w4, r4, m4, t4⟩ := m3.update law8 Tryz.underlying111 (by unfold maxLen; omega) (val := kind4) (pkey8 (i := 4) (by omega))
  obtain ⟨w5, r5, m5, t5⟩ := m4.update law8 Tryz.underlying111 (by unfold maxLen; omega) (val := kind5) (pkey8 (i := 5) (by omega))
  obtain ⟨w6, r6, m6, t6⟩ := m5.update law8 Tryz.underlying111 (by unfold maxLen; omega) (val := kind6) (pkey8 (i := 6) (by omega))
  obtain ⟨w7, r7, m7, t7⟩ := m6.update law8 Tryz.underlying111 (by unfold maxLen; omega) (val := kind7) (pkey8 (i := 7) (by omega))
  have HM : Hid (MapAt w7 Tryz.prog 5 w.heap.size 7 kindsM) := m7.congr fun kl _ => by
    cases kl with
    | int q a =>
      cases q <;> try (unfold updM; simp [kindsM, Lit.sameKey]; done)
      show updM _ _ _ _ = kindO a
      unfold updM kindO
      by_cases h7 : a = 7
      · simp [h7, Lit.sameKey]
      by_cases h6 : a = 6
      · simp [h6, Lit.sameKey]
      by_cases h5 : a = 5
      · simp [h5, Lit.sameKey]
      by_cases h4 : a = 4
      · simp [h4, Lit.sameKey]
      by_cases h3 : a = 3
      · simp [h3, Lit.sameKey]
      by_cases h2 : a = 2
      · simp [h2, Lit.sameKey]
      by_cases h1 : a = 1
      · simp [h1, Lit.sameKey]
      simp [h1, h2, h3, h4, h5, h6, h7, Lit.sameKey]
    | _ => unfold updM; simp [kindsM, Lit.sameKey]
  have HB : Hid (Below w.heap.size w w7) := by
    have hg := ((((((t1.grown.trans t2.grown).trans t3.grown).trans t4.grown).trans t5.grown).trans t6.grown).trans t7.grown)
    have ha : Below w.heap.size w (w.alloc (.map #[] 0)) := (Below.refl _ _).alloc (Nat.le_refl _) _
    refine ⟨hg.os.trans ha.os, hg.tape.trans ha.tape, hg.output.trans ha.output, Nat.le_trans ha.size hg.size, fun b hb => (hg.block b (Nat.lt_of_lt_of_le hb ha.size) fun e => ?_).trans (ha.block b hb)⟩
    injection e with e
    omega
  clear m0 m1 m2 m3 m4 m5 m6 m7 t1 t2 t3 t4 t5 t6 t7
  go_enter Tryz.func71, Tryz.ntmps71
  go_wp2
  go_ret
  exact ⟨_, rfl, HM.out, HB.out, Nat.le_refl _⟩
end Go.Proofs.YtehckjkihaalfaaGreat
