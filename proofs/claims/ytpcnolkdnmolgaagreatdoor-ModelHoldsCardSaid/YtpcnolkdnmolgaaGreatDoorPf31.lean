/- ModelHolds is proved: for whatever numbers and steps the statement's Go function returns true, and its arguments read as they did. The one condition is the given one: the listed package variable reads as its text lays it; the card ties that to the program's text. -/
import Derived.Test.YtpcnolkdnmolgaaGreatDoorPf13
import Derived.Test.YtpcnolkdnmolgaaGreatDoorPf16
import Derived.Test.YtpcnolkdnmolgaaGreatDoorPf17
import Derived.Test.YtpcnolkdnmolgaaGreatDoorPf28
import Derived.Test.YtpcnolkdnmolgaaGreatDoorPf30
import Derived.Test.YtpcnolkdnmolgaaGreatDoorCards
import Derived.Test.YtpcnolkdnmolgaaGreatDoorTie
import Derived.SevenTiedAt
namespace Go.Proofs.YtpcnolkdnmolgaaGreatDoor
section
open Go Go.ChangeShapes Go.WideShapes Go.ChangeAt Go.RowKit
theorem u8_nat {x : Int} (w : (Lit.int .u8 x).wf = true) : ∃ k : Nat, x = k ∧ k ≤ 255 := by
 have : 0 ≤ x ∧ x ≤ 255 := by simpa [Lit.wf, IntKind.min, IntKind.max, IntKind.signed, IntKind.bits] using w
 exact ⟨x.toNat, by omega, by omega⟩
set_option maxRecDepth 100000 in
theorem lifted_modelHolds (os : Os) (started : os.Started) (H : Type) (enc : TypeId × Value → H) :
  ReturnsInHanded {} Tryz.checked os 4 .any (fun w args => (Rows.modelHoldsSpec.pre enc Tryz.prog Tryz.f4 [] false w args ∧ laidMetH Tryz.prog laidK w) ∧ sizedMet enc Tryz.prog Tryz.f4 (OpenSpec.ofChange Rows.modelHoldsSpec) false w args)
   (Rows.modelHoldsSpec.post enc Tryz.prog Tryz.f4 false true false false) := by
 refine returnsInHanded_of_change_and (C := Tryz.checked) (X := fun w _ => laidMetH Tryz.prog laidK w) (fun _ _ _ hh h => h.of_heap hh) own started (by kernel_rfl) Tryz.func4
  (ChangeSpec.witness_shaped (enc := enc) (C := Tryz.checked) (os := os) (X := fun w _ => laidMetH Tryz.prog laidK w) false (World.doorLaid Tryz.prog 400 os) #[.int .u8 0, .int .u8 0, .slice none 0 0] 8 rfl (World.shaped_of_RefB (by kernel_rfl) (by kernel_rfl)) (by kernel_rfl) (by kernel_rfl) (by kernel_rfl) (door_met os _)) ?_
 intro W base args ds gs before hval0 hW _ _ hX _
 have hval : ∀ (j : Nat) t v, Tryz.f4.params[j]? = some t → args[j]? = some v → Value.okWide Tryz.prog W .any base t v := hval0
 have hW' := hW
 obtain ⟨p, q, hA0, hV, rfl, _, _⟩ := hW
 have hA : DataW.TrodAll enc Tryz.prog W 0 (fun _ => true) true Tryz.f4.params.toList args.toList ds p := hA0
 rw [Tryz.params4] at hA hval
 obtain ⟨v0, vs0, d0, ds0, p0, q0, hargs, rfl, rfl, h0, r0⟩ := trodAll_cons hA
 obtain ⟨v1, vs1, d1, ds1, p1, q1, rfl, rfl, rfl, h1, r1⟩ := trodAll_cons r0
 obtain ⟨v2, vs2, d2, ds2, p2, q2, rfl, rfl, rfl, h2, r2⟩ := trodAll_cons r1
 obtain ⟨rfl, rfl, rfl⟩ := trodAll_nil r2
 obtain rfl : args = #[v0, v1, v2] := by cases args; simp_all
 obtain ⟨rfl, rfl⟩ := trodVars_none hV
 obtain ⟨i0, rfl, rfl, rfl, wi⟩ := open_int Tryz.underlying5 (hval 0 5 v0 rfl rfl) h0
 obtain ⟨c0, rfl, rfl, rfl, wc⟩ := open_int Tryz.underlying5 (hval 1 5 v1 rfl rfl) h1
 obtain ⟨i0, rfl, hi0⟩ := u8_nat wi
 obtain ⟨c0, rfl, hc0⟩ := u8_nat wc
 obtain ⟨A, n, c, l, rfl, hn, hl, hs, hf⟩ := steps21_of (okWide_slice Tryz.underlying22 (hval 2 22 v2 rfl rfl)) h2
 refine (t_modelHolds i0 c0 hi0 hc0 A n c l W hs hl hn hf (kinds_of_laid hX)).mono fun e W' ⟨he, hb⟩ => ?_
 exact ⟨_, he, law_post laidOut (by kernel_rfl) rfl (by kernel_rfl) Tryz.underlying4 hW' rfl hb⟩
theorem modelHolds_row : Rows.ModelHoldsSaid :=
 OpenClaim.holds_of_wide 4 Tryz.f4 rfl rfl rfl rfl rfl rfl rfl ⟨rfl, rfl, rfl, rfl, rfl⟩ rfl rfl rfl rfl rfl (by kernel_rfl) Tryz.func4 (by kernel_rfl)
  (of_decide_eq_true (by kernel_rfl)) (by unfold Func.isWrapper; first | (rw [if_pos (by decide +kernel)]; kernel_rfl) | (rw [if_neg (by decide +kernel)]; exact ⟨rfl, rfl⟩))
  (fun os started H enc _ => lifted_modelHolds os started H enc)
theorem modelHolds_holds : Rows.ModelHoldsCardSaid :=
 Claim7.holds_tied_plain_at .later [] [.data] true Rows.modelHoldsCard.stood.harness true
  modelHolds_row (fun _ h => by cases h) (by kernel_rfl) (fun _ h => by cases h) modelHolds_row_tie rfl ⟨rfl, rfl⟩ (by kernel_rfl) rfl
  (fun f fn hf hfn => by
   obtain rfl : f = 4 := Option.some.inj ((show Tryz.prog.funcNamed "lunette/lunettelaw21.ModelHolds" = some 4 by kernel_rfl).symm.trans hf) |>.symm
   obtain rfl : fn = Tryz.f4 := (Option.some.inj (Tryz.func4.symm.trans hfn)).symm
   refine ⟨by kernel_rfl, fun j t ht => ?_⟩
   rw [Tryz.params4] at ht
   have hm : t ∈ [5, 5, 22] := List.mem_of_getElem? (i := j) (by rw [← ht]; exact (List.getElem?_toArray ..).symm)
   have hall : ∀ t ∈ [5, 5, 22], Tryz.prog.wantsStandIn t = false := by
    intro t h
    simp only [List.mem_cons, List.not_mem_nil, or_false] at h
    rcases h with rfl | rfl | rfl <;> kernel_rfl
   exact hall t hm)
  (by kernel_rfl)
#print axioms modelHolds_holds
end
end Go.Proofs.YtpcnolkdnmolgaaGreatDoor
