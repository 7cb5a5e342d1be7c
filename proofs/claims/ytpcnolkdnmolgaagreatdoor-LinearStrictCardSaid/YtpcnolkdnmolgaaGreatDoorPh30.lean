/- LinearStrict is proved: for whatever numbers, history and calls the statement's Go function returns true, and its arguments read as they did. The one condition is the given one: the listed package variable reads as its text lays it; the card ties that to the program's text. -/
import Derived.Test.YtpcnolkdnmolgaaGreatDoorPh02
import Derived.Test.YtpcnolkdnmolgaaGreatDoorPh05
import Derived.Test.YtpcnolkdnmolgaaGreatDoorPh09
import Derived.Test.YtpcnolkdnmolgaaGreatDoorPh11
import Derived.Test.YtpcnolkdnmolgaaGreatDoorPh20
import Derived.Test.YtpcnolkdnmolgaaGreatDoorPh29
import Derived.Test.YtpcnolkdnmolgaaGreatDoorCards
import Derived.Test.YtpcnolkdnmolgaaGreatDoorTie
import Derived.SevenTiedAt
namespace Go.Proofs.YtpcnolkdnmolgaaGreatDoor
section
open Go Go.ChangeShapes Go.WideShapes Go.ChangeAt Go.RowKit
set_option maxRecDepth 100000 in
theorem lifted_linearStrict (os : Os) (started : os.Started) (H : Type) (enc : TypeId × Value → H) :
  ReturnsInHanded {} Tryz.checked os 6 .any (fun w args => (Rows.linearStrictSpec.pre enc Tryz.prog Tryz.f6 [] false w args ∧ laidMetH Tryz.prog laidK w) ∧ sizedMet enc Tryz.prog Tryz.f6 (OpenSpec.ofChange Rows.linearStrictSpec) false w args)
   (Rows.linearStrictSpec.post enc Tryz.prog Tryz.f6 false true false false) := by
 refine returnsInHanded_of_change_and (C := Tryz.checked) (X := fun w _ => laidMetH Tryz.prog laidK w) (fun _ _ _ hh h => h.of_heap hh) own started (by kernel_rfl) Tryz.func6
  (ChangeSpec.witness_shaped (enc := enc) (C := Tryz.checked) (os := os) (X := fun w _ => laidMetH Tryz.prog laidK w) false (World.doorLaid Tryz.prog 400 os) #[.int .u8 0, .int .u8 0, .slice none 0 0, .int .i64 0, .int .i64 0, .int .i64 0] 8 rfl (World.shaped_of_RefB (by kernel_rfl) (by kernel_rfl)) (by kernel_rfl) (by kernel_rfl) (by kernel_rfl) (door_met os _)) ?_
 intro W base args ds gs before hval0 hW _ _ hX _
 have hval : ∀ (j : Nat) t v, Tryz.f6.params[j]? = some t → args[j]? = some v → Value.okWide Tryz.prog W .any base t v := hval0
 have hW' := hW
 obtain ⟨p, q, hA0, hV, rfl, _, _⟩ := hW
 have hA : DataW.TrodAll enc Tryz.prog W 0 (fun _ => true) true Tryz.f6.params.toList args.toList ds p := hA0
 rw [Tryz.params6] at hA hval
 obtain ⟨v0, vs0, d0, ds0, p0, q0, hargs, rfl, rfl, h0, r0⟩ := trodAll_cons hA
 obtain ⟨v1, vs1, d1, ds1, p1, q1, rfl, rfl, rfl, h1, r1⟩ := trodAll_cons r0
 obtain ⟨v2, vs2, d2, ds2, p2, q2, rfl, rfl, rfl, h2, r2⟩ := trodAll_cons r1
 obtain ⟨v3, vs3, d3, ds3, p3, q3, rfl, rfl, rfl, h3, r3⟩ := trodAll_cons r2
 obtain ⟨v4, vs4, d4, ds4, p4, q4, rfl, rfl, rfl, h4, r4⟩ := trodAll_cons r3
 obtain ⟨v5, vs5, d5, ds5, p5, q5, rfl, rfl, rfl, h5, r5⟩ := trodAll_cons r4
 obtain ⟨rfl, rfl, rfl⟩ := trodAll_nil r5
 obtain rfl : args = #[v0, v1, v2, v3, v4, v5] := by cases args; simp_all
 obtain ⟨rfl, rfl⟩ := trodVars_none hV
 obtain ⟨i0, rfl, rfl, rfl, wi⟩ := open_int Tryz.underlying5 (hval 0 5 v0 rfl rfl) h0
 obtain ⟨c0, rfl, rfl, rfl, wc⟩ := open_int Tryz.underlying5 (hval 1 5 v1 rfl rfl) h1
 obtain ⟨x, rfl, rfl, rfl, _⟩ := open_int Tryz.underlying3 (hval 3 3 v3 rfl rfl) h3
 obtain ⟨y, rfl, rfl, rfl, _⟩ := open_int Tryz.underlying3 (hval 4 3 v4 rfl rfl) h4
 obtain ⟨z, rfl, rfl, rfl, _⟩ := open_int Tryz.underlying3 (hval 5 3 v5 rfl rfl) h5
 obtain ⟨i0, rfl, hi0⟩ := u8_wf wi
 obtain ⟨c0, rfl, hc0⟩ := u8_wf wc
 obtain ⟨A, n, c, l, rfl, hnc, hc, hn, hl, hL, hf⟩ := events_of (okWide_slice Tryz.underlying55 (hval 2 55 v2 rfl rfl)) h2
 refine (t_strict31 i0 c0 hi0 hc0 x y z A n c l W hl hL hn (Nat.le_trans hnc hc) hnc hc hf (kinds_of_laid hX)).mono fun e W' ⟨he, hb⟩ => ?_
 exact ⟨_, he, law_post laidOut (by kernel_rfl) rfl (by kernel_rfl) Tryz.underlying4 hW' rfl hb⟩
theorem linearStrict_row : Rows.LinearStrictSaid :=
 OpenClaim.holds_of_wide 6 Tryz.f6 rfl rfl rfl rfl rfl rfl rfl ⟨rfl, rfl, rfl, rfl, rfl⟩ rfl rfl rfl rfl rfl (by kernel_rfl) Tryz.func6 (by kernel_rfl)
  (of_decide_eq_true (by kernel_rfl)) (by unfold Func.isWrapper; first | (rw [if_pos (by decide +kernel)]; kernel_rfl) | (rw [if_neg (by decide +kernel)]; exact ⟨rfl, rfl⟩))
  (fun os started H enc _ => lifted_linearStrict os started H enc)
theorem linearStrict_holds : Rows.LinearStrictCardSaid :=
 Claim7.holds_tied_plain_at .later [] [.data] true Rows.linearStrictCard.stood.harness true
  linearStrict_row (fun _ h => by cases h) (by kernel_rfl) (fun _ h => by cases h) linearStrict_row_tie rfl ⟨rfl, rfl⟩ (by kernel_rfl) rfl
  (fun f fn hf hfn => by
   obtain rfl : f = 6 := Option.some.inj ((show Tryz.prog.funcNamed "lunette/lunettelaw31.LinearStrict" = some 6 by kernel_rfl).symm.trans hf) |>.symm
   obtain rfl : fn = Tryz.f6 := (Option.some.inj (Tryz.func6.symm.trans hfn)).symm
   refine ⟨by kernel_rfl, fun j t ht => ?_⟩
   rw [Tryz.params6] at ht
   have hm : t ∈ [5, 5, 55, 3, 3, 3] := List.mem_of_getElem? (i := j) (by rw [← ht]; exact (List.getElem?_toArray ..).symm)
   have hall : ∀ t ∈ [5, 5, 55, 3, 3, 3], Tryz.prog.wantsStandIn t = false := by
    intro t h
    simp only [List.mem_cons, List.not_mem_nil, or_false] at h
    rcases h with rfl | rfl | rfl | rfl | rfl | rfl <;> kernel_rfl
   exact hall t hm)
  (by kernel_rfl)
#print axioms linearStrict_holds
end
end Go.Proofs.YtpcnolkdnmolgaaGreatDoor
