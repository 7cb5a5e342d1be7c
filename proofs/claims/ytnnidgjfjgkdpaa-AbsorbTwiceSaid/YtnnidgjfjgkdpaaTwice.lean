/- AbsorbTwice is proved: for every row of records the statement's Go function returns true, and its argument reads as it did. No condition. -/
import Derived.Test.YtnnidgjfjgkdpaaU5
import Derived.Test.YtnnidgjfjgkdpaaU6
namespace Go.Proofs.Ytnnidgjfjgkdpaa
open Go.ChangeShapes Go.WideShapes Go.ChangeAt Go.RowKit

theorem twice_any (A : Option Addr) (n c B : Nat) (rs : List R) (w : World) (h : Recs w B A n rs) (hfit : ∀ r ∈ rs, r.Fit) (hB : B ≤ w.heap.size) (hn : n ≤ maxLen) :
    Calls Try.prog 3 #[.slice A n c] w fun e W' => e = .returned (.bool true) ∧ Below w.heap.size w W' := by
  by_cases hl : longB rs = true
  · exact twice_long A n c B rs w h hn hl
  · exact twice_main A n c B rs w h hfit hB hn (by simpa using hl)

set_option maxRecDepth 100000 in
theorem lifted3 (os : Os) (started : os.Started) (H : Type) (enc : TypeId × Value → H) :
    ReturnsInHanded {} Try.checked os 3 .any (Rows.absorbTwiceSpec.pre6 enc Try.prog Try.f3 Rows.absorbTwiceRow.domain false) (Rows.absorbTwiceSpec.post enc Try.prog Try.f3 false true false false) := by
  refine returnsInHanded_of_change_sized (C := Try.checked) own started (by kernel_rfl) Try.func3
    (ChangeSpec.witness6 (enc := enc) (C := Try.checked) false ⟨#[], #[.slice none 0 0], []⟩ 8 (by kernel_rfl) (by kernel_rfl) (by kernel_rfl) (by kernel_rfl)) ?_
  intro W base args ds gs before hval0 hW _ hsz0 _
  have hval : ∀ (j : Nat) t v, Try.f3.params[j]? = some t → args[j]? = some v → Value.okWide Try.prog W .any base t v := hval0
  have hW' := hW
  obtain ⟨p, q, hA0, hV, rfl, _, _⟩ := hW
  have hA : DataW.TrodAll enc Try.prog W 0 (fun _ => true) true Try.f3.params.toList args.toList ds p := hA0
  have hsz : (DataW.weightsEach Try.prog (Try.f3.params.toList ++ Rows.absorbTwiceSpec.plain.varTypes Try.prog) (ds ++ gs)).all (· ≤ reachBytes) = true := hsz0
  rw [Try.params3] at hA hval hsz
  obtain ⟨v0, d0, rfl, rfl, h0⟩ := trodAll_one hA
  obtain ⟨rfl, rfl⟩ := trodVars_none hV
  have hz0 : ∀ m, m ∈ d0.weights Try.prog 22 → m ≤ reachBytes := fun m hm => by
    have := List.all_eq_true.1 hsz m (DataW.weights_mem_each (j := 0) (t := 22) (d := d0) rfl rfl m hm); simpa using this
  obtain ⟨A, n, c, rs, rfl, hn, hs, hfit⟩ := recs_of2 (okWide_slice Try.underlying22 (hval 0 22 v0 rfl rfl)) h0 hz0
  refine (twice_any A n c _ rs W hs hfit (Nat.le_refl _) hn).mono fun e W' ⟨he, hb⟩ => ?_
  exact ⟨_, he, law_post laidOut (by kernel_rfl) rfl (by kernel_rfl) Try.underlying4 hW' rfl hb⟩

theorem absorbTwice_holds : Rows.AbsorbTwiceSaid :=
  OpenClaim.holds_of_wide 3 Try.f3 rfl rfl rfl rfl rfl rfl rfl ⟨rfl, rfl, rfl, rfl, rfl⟩ rfl rfl rfl rfl rfl (by kernel_rfl) Try.func3 (by kernel_rfl)
    (of_decide_eq_true (by kernel_rfl)) (by unfold Func.isWrapper; first | (rw [if_pos (by decide +kernel)]; kernel_rfl) | (rw [if_neg (by decide +kernel)]; exact ⟨rfl, rfl⟩))
    (fun os started H enc _ => lifted3 os started H enc)
#print axioms absorbTwice_holds
end Go.Proofs.Ytnnidgjfjgkdpaa
