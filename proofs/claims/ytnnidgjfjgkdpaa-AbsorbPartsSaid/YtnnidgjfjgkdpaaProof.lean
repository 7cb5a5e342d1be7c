/- AbsorbParts is proved: for every two rows of records the statement's Go function returns true, and its arguments read as they did. No condition. -/
import Derived.Test.YtnnidgjfjgkdpaaK
import Derived.Test.YtnnidgjfjgkdpaaO
namespace Go.Proofs.Ytnnidgjfjgkdpaa
open Go.ChangeShapes Go.WideShapes Go.ChangeAt Go.RowKit

theorem parts_any (A A' : Option Addr) (n n' c c' B : Nat) (ra rb : List R) (w : World) (h : Recs w B A n ra) (h' : Recs w B A' n' rb) (hB : B ≤ w.heap.size) (hn : n ≤ maxLen) (hn' : n' ≤ maxLen) :
    Calls Try.prog 4 #[.slice A n c, .slice A' n' c'] w fun e W' => e = .returned (.bool true) ∧ Below w.heap.size w W' := by
  by_cases hl : longB ra = true
  · exact parts_long1 A A' n n' c c' B ra w h hn hl
  · have hl0 : longB ra = false := by simpa using hl
    by_cases hl' : longB rb = true
    · exact parts_long2 A A' n n' c c' B ra rb w h h' hn hn' hl0 hl'
    · exact parts_main A A' n n' c c' B ra rb w h h' hB hn hn' hl0 (by simpa using hl')

set_option maxRecDepth 100000 in
theorem lifted (os : Os) (started : os.Started) (H : Type) (enc : TypeId × Value → H) :
    ReturnsInHanded {} Try.checked os 4 .any (Rows.absorbPartsSpec.pre6 enc Try.prog Try.f4 Rows.absorbPartsRow.domain false) (Rows.absorbPartsSpec.post enc Try.prog Try.f4 false true false false) := by
  refine returnsInHanded_of_change_sized (C := Try.checked) own started (by kernel_rfl) Try.func4
    (ChangeSpec.witness6 (enc := enc) (C := Try.checked) false ⟨#[], #[.slice none 0 0, .slice none 0 0], []⟩ 8 (by kernel_rfl) (by kernel_rfl) (by kernel_rfl) (by kernel_rfl)) ?_
  intro W base args ds gs before hval0 hW _ hsz0 _
  have hval : ∀ (j : Nat) t v, Try.f4.params[j]? = some t → args[j]? = some v → Value.okWide Try.prog W .any base t v := hval0
  have hW' := hW
  obtain ⟨p, q, hA0, hV, rfl, _, _⟩ := hW
  have hA : DataW.TrodAll enc Try.prog W 0 (fun _ => true) true Try.f4.params.toList args.toList ds p := hA0
  have hsz : (DataW.weightsEach Try.prog (Try.f4.params.toList ++ Rows.absorbPartsSpec.plain.varTypes Try.prog) (ds ++ gs)).all (· ≤ reachBytes) = true := hsz0
  rw [Try.params4] at hA hval hsz
  obtain ⟨v0, v1, d0, d1, _, _, rfl, rfl, rfl, h0, h1⟩ := trodAll_two hA
  obtain ⟨rfl, rfl⟩ := trodVars_none hV
  have hz0 : ∀ m, m ∈ d0.weights Try.prog 22 → m ≤ reachBytes := fun m hm => by
    have := List.all_eq_true.1 hsz m (DataW.weights_mem_each (j := 0) (t := 22) (d := d0) rfl rfl m hm); simpa using this
  have hz1 : ∀ m, m ∈ d1.weights Try.prog 22 → m ≤ reachBytes := fun m hm => by
    have := List.all_eq_true.1 hsz m (DataW.weights_mem_each (j := 1) (t := 22) (d := d1) rfl rfl m hm); simpa using this
  obtain ⟨A, n, c, ra, rfl, hn, hs⟩ := recs_of (okWide_slice Try.underlying22 (hval 0 22 v0 rfl rfl)) h0 hz0
  obtain ⟨A', n', c', rb, rfl, hn', hs'⟩ := recs_of (okWide_slice Try.underlying22 (hval 1 22 v1 rfl rfl)) h1 hz1
  refine (parts_any A A' n n' c c' _ ra rb W hs hs' (Nat.le_refl _) hn hn').mono fun e W' ⟨he, hb⟩ => ?_
  exact ⟨_, he, law_post laidOut (by kernel_rfl) rfl (by kernel_rfl) Try.underlying4 hW' rfl hb⟩

theorem absorbParts_holds : Rows.AbsorbPartsSaid :=
  OpenClaim.holds_of_wide 4 Try.f4 rfl rfl rfl rfl rfl rfl rfl ⟨rfl, rfl, rfl, rfl, rfl⟩ rfl rfl rfl rfl rfl (by kernel_rfl) Try.func4 (by kernel_rfl)
    (of_decide_eq_true (by kernel_rfl)) (by unfold Func.isWrapper; first | (rw [if_pos (by decide +kernel)]; kernel_rfl) | (rw [if_neg (by decide +kernel)]; exact ⟨rfl, rfl⟩))
    (fun os started H enc _ => lifted os started H enc)
#print axioms absorbParts_holds
end Go.Proofs.Ytnnidgjfjgkdpaa
