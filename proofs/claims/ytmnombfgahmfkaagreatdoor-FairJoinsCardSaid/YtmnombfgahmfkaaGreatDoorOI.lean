/- FairJoins is proved: for whatever numbers, picks and conf the statement's Go function returns true, and its arguments read as they did. The one condition is the given one: the listed package variable reads as its text lays it; the card ties that to the program's text. -/
import Derived.Test.YtmnombfgahmfkaaGreatDoorOH
import Derived.Test.YtmnombfgahmfkaaGreatDoorCards
import Derived.Test.YtmnombfgahmfkaaGreatDoorTie
import Derived.SevenTiedAt
namespace Go.Proofs.YtmnombfgahmfkaaGreatDoor
open Go

/-- The tied card of FairJoins. -/
theorem fairJoins_holds : Rows.FairJoinsCardSaid :=
  Claim7.holds_tied_plain_at .later [] [.data] true Rows.fairJoinsCard.stood.harness true
    fairJoins_row (fun _ h => by cases h) (by kernel_rfl) (fun _ h => by cases h) fairJoins_row_tie rfl ⟨rfl, rfl⟩ (by kernel_rfl) rfl
    (fun f fn hf hfn => by
      obtain rfl : f = 3 := Option.some.inj ((show Tryz.prog.funcNamed "lunette/lunettelaw34.FairJoins" = some 3 by kernel_rfl).symm.trans hf) |>.symm
      obtain rfl : fn = Tryz.f3 := (Option.some.inj (Tryz.func3.symm.trans hfn)).symm
      refine ⟨by kernel_rfl, fun j t ht => ?_⟩
      rw [Tryz.params3] at ht
      have hm : t ∈ [5, 5, 22, 22, 24, 25, 25] := List.mem_of_getElem? (i := j) (by rw [← ht]; exact (List.getElem?_toArray ..).symm)
      have hall : ∀ t ∈ [5, 5, 22, 22, 24, 25, 25], Tryz.prog.wantsStandIn t = false := by
        intro t h
        simp only [List.mem_cons, List.not_mem_nil, or_false] at h
        rcases h with rfl | rfl | rfl | rfl | rfl | rfl | rfl <;> kernel_rfl
      exact hall t hm)
    (by kernel_rfl)
#print axioms fairJoins_holds
end Go.Proofs.YtmnombfgahmfkaaGreatDoor
