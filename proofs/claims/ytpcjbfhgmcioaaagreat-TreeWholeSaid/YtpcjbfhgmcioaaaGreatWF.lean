/- TreeWhole is proved: for every number and every list of steps the statement's Go function returns true, and its arguments read as they did. No condition. -/
import Derived.Test.YtpcjbfhgmcioaaaGreatWE
namespace Go.Proofs.YtpcjbfhgmcioaaaGreat
open Go.RowKit Go.Maps

section
variable {t : PT}
theorem makeAt_room (d : Int) (s : ByteArray) (k i : Int) : (makeAtP t d s k i).2.room = t.room := by
  unfold makeAtP makeT
  repeat' (first | rfl | split)
theorem make_room (d : Int) (s : ByteArray) (k i : Int) : (makeP t d s k i).2.room = t.room := by
  unfold makeP
  split
  · exact makeAt_room _ _ _ _
  · rfl
theorem link_room (d : Int) (s : ByteArray) (i : Int) : (linkP t d s i).2.room = t.room := by
  unfold linkP linkT
  repeat' (first | rfl | split)
theorem drop_room (d : Int) (s : ByteArray) (q : PN → Int) : (dropP t d s q).2.room = t.room := by
  unfold dropP dropT freeP
  repeat' (first | rfl | split)
theorem moveT_room (a : Int) (s : ByteArray) (b : Int) (s2 : ByteArray) (i : Int) : (moveT t a s b s2 i).room = t.room := by
  unfold moveT
  repeat' (first | rfl | split)
theorem rename_room (a : Int) (s : ByteArray) (b : Int) (s2 : ByteArray) : (renameP t a s b s2).2.room = t.room := by
  unfold renameP
  repeat' (first | rfl | (exact moveT_room _ _ _ _ _) | (refine (moveT_room _ _ _ _ _).trans ?_; unfold dropT freeP; repeat' (first | rfl | split)) | split)
theorem resize_room (i n : Int) : (resizeP t i n).2.room = t.room := by
  unfold resizeP resizeT
  repeat' (first | rfl | split)
theorem write_room (i p : Int) (d : ByteArray) : (writeP t i p d).2.room = t.room := by
  unfold writeP writeT
  repeat' (first | rfl | split)
theorem hold_room (i : Int) : (holdP t i).2.room = t.room := by
  unfold holdP
  repeat' (first | rfl | split)
theorem unhold_room (i : Int) : (unholdP t i).2.room = t.room := by
  unfold unholdP unholdT freeP
  repeat' (first | rfl | split)
/-- The room stays. -/
theorem play_room (s : PStep) : (playP t s).2.room = t.room := by
  unfold playP
  split
  · exact make_room _ _ _ _
  split
  · exact makeAt_room _ _ _ _
  split
  · exact link_room _ _ _
  split
  · exact drop_room _ _ _
  split
  · exact drop_room _ _ _
  split
  · exact rename_room _ _ _ _
  split
  · exact resize_room _ _
  split
  · exact write_room _ _ _
  split
  · exact hold_room _
  split
  · exact unhold_room _
  · rfl
end
section
variable {B P P2 N : Nat} {K : Int} {w1 w w' : World} {t t2 : PT}
theorem two_whole (h : Two B w1 P P2 N t t2 w) (hN : N ≤ 60000) :
    Calls Tryz.prog 20 #[.pointer (some ⟨P, 0, none⟩)] w fun e w' => e = .returned (.bool true) ∧ Two B w1 P P2 N t t2 w' := by
  have h' := h
  obtain ⟨y, F, y2, F2, hT, hT2, hW, _⟩ := h
  exact (t_whole w hT hW hN).mono fun e w' ⟨he, hb⟩ => ⟨he, h'.below hb⟩
theorem two_all (h : Two B w1 P P2 N t t2 w) (hN : N ≤ 60000) :
    Calls Tryz.prog 21 #[.pointer (some ⟨P, 0, none⟩)] w fun e w' => ∃ B1 c l : Nat, e = .returned (.slice (some ⟨B1, 0, none⟩) l c) ∧ (l : Int) ≤ t.room ∧ Two B w1 P P2 N t t2 w' := by
  have h' := h
  obtain ⟨y, F, y2, F2, hT, hT2, hW, _⟩ := h
  refine (t_allP w hT hN ?_).mono fun e w' ⟨B1, c, l, he, hs, hm, hr, hg, hb⟩ => ⟨B1, c, l.length, he, ?_, h'.below hb⟩
  · obtain ⟨x, hx, _⟩ := hW.root
    exact ⟨1, by rw [hx]; rfl⟩
  · have := rising_len (a := 1) (b := t.room) hs (fun x hx => by
      obtain ⟨z, hz⟩ := Option.isSome_iff_exists.1 ((hm x).1 hx)
      exact hW.range x z hz)
    have := hW.room
    omega
end
def Wholed (B : Nat) (w1 : World) (P k : Nat) (m : Int) (w : World) : Prop := ∃ t, Gr B w1 P (1 + 2 * k) (k : Int) t w ∧ t.room = m
set_option maxRecDepth 100000 in
set_option maxHeartbeats 4000000 in
theorem t_treeWhole (A : Option Addr) (n c : Nat) (f : Nat → PStep) (q : Int) (w : World) (hs : Steps w A n f) (hn : n ≤ maxLen) (hq : 0 ≤ q ∧ q ≤ 255) :
    Calls Tryz.prog 4 #[.int .u8 q, .slice A n c] w fun e w' => e = .returned (.bool true) ∧ Below w.heap.size w w' := by
  have HN := Lib.hid hn
  have HS := Lib.hid hs
  have HQ := Lib.hid hq
  have HL := Lib.hid (t_long A n c f w HS.out HN.out)
  obtain ⟨hq1, hq2⟩ := hq
  clear hs hn
  go_enter Tryz.func4, Tryz.ntmps4
  all_goals (go_wp2_with (first
    | (go_at_call 6; with_reducible refine HL.out.mono ?_; rintro e w1 hq; obtain ⟨b, rfl, hb, h1⟩ := hq.get2; clear hq; have HB1 := Lib.hid h1; have HBL := Lib.hid hb; clear h1 hb; cases b)
    | (go_at_call 7; with_reducible refine (t_alive _).mono ?_; rintro e w2 ⟨rfl, h2⟩; have HA := Lib.hid h2; clear h2)
    | (go_at_call 9; with_reducible refine (gr_new (2 + q % 30) _ (by omega) (by omega)).mono ?_; rintro e w2 ⟨P, rfl, h2⟩; have HG := Lib.hid h2; clear h2)))
  all_goals first
    | (go_ret; exact ⟨rfl, ptrans HB1.out HA.out⟩; done)
    | skip
  have hn150 : n ≤ 150 := by
    have h := HBL.out
    simpa using h
  have HSt := Lib.hid (fun W (h : Below w1.heap.size w1 W) => HS.out.below (ptrans HB1.out h))
  clear HL HN HBL HS
  obtain ⟨m, hm⟩ : ∃ m : Int, 2 + q % 30 = m := ⟨_, rfl⟩
  have hm31 : m ≤ 31 := by omega
  have hm2 : 2 ≤ m := by omega
  rw [hm] at HG ⊢
  clear hm hq1 hq2 HQ
  go_loopw [8] (fun v wr => ∃ k : Nat, v = .int .i64 (k : Int) ∧ k ≤ n ∧ Wholed w1.heap.size w1 P k m wr) (fun v _ => n - (intOf v).toNat)
  case atStart => exact ⟨0, rfl, Nat.zero_le _, _, HG.out, rfl⟩
  case round =>
    obtain ⟨k, rfl, hk, t, hg, hroom⟩ := hrel
    have HGr := Lib.hid hg
    clear hg
    by_cases he : k = n
    · subst he
      go_wp2_with (go_at_call 7; with_reducible refine (t_alive _).mono ?_; rintro e w9 ⟨rfl, h9⟩; have HA := Lib.hid (ptrans (ptrans HB1.out HGr.out.mem) h9); clear h9)
      go_ret
      exact ⟨rfl, HA.out⟩
    · have hkn : k < n := by omega
      obtain ⟨ab, ao, rfl, hlt, hc⟩ := (HSt.out w1 (Below.refl _ _)).at_ (by omega)
      have hf := (HSt.out w1 (Below.refl _ _)).fits k hkn
      have HF := Lib.hid hf
      have HC := Lib.hid (hc k hkn)
      have HLT := Lib.hid hlt
      have HR := Lib.hid hroom
      have HKK : Hid (HeldK (k : Int) t) := by
        obtain ⟨_, _, _, _, h, _⟩ := HGr.out
        exact h
      obtain ⟨r, t', hpl⟩ : ∃ r t', playP t (f k) = (r, t') := ⟨_, _, rfl⟩
      have hroom' : t'.room = m := by
        have := play_room (t := t) (f k)
        rw [hpl] at this
        rw [this]
        exact hroom
      have hK' : HeldK ((k : Int) + 1) t' := by
        have := HKK.out.playP_ (by omega) (f k)
        rw [hpl] at this
        exact this
      have HPL := Lib.hid hpl
      have HRO := Lib.hid hroom'
      have HK2 := Lib.hid hK'
      clear hf hc hlt he hroom hpl hroom' hK'
      by_cases hr : r = 0
      · subst hr
        go_wp2_with (first
          | (go_at_call 11; with_reducible refine (gr_copy HGr.out (by omega)).mono ?_; rintro e w3 ⟨P2, rfl, h3⟩; have hp := two_play (f k) HF.out h3 HKK.out (by omega) (by omega); rw [HPL.out] at hp; unfold stepV at hp; have HP := Lib.hid hp; obtain ⟨c0, c1, c2, c3, c4, c5, c6, c7⟩ := HC.out.below h3.mem HLT.out; clear h3 hp)
          | (go_at_call 19; with_reducible refine HP.out.mono ?_; rintro e w4 ⟨rfl, h4⟩; have H4 := Lib.hid h4; clear h4)
          | (go_at_call 20; with_reducible refine (two_whole H4.out (by omega)).mono ?_; rintro e w5 ⟨rfl, h5⟩; have H5 := Lib.hid h5; clear h5)
          | (go_at_call 21; with_reducible refine (two_all H5.out (by omega)).mono ?_; rintro e w6 ⟨B6, c6, l6, rfl, hl6, h6⟩; have H6 := Lib.hid h6; rw [HRO.out] at hl6; clear h6))
        refine ⟨⟨k + 1, by go_num, by omega, t', ?_, HRO.out⟩, by simp [intOf]; omega⟩
        have h := H6.out.one HK2.out
        exact h
      · have hrb : (r == 0) = false := by simpa using hr
        have hrb2 : (r != 0) = true := by simpa using hr
        have hsame : t' = t := by
          have := play_same (t := t) (f k) (by rw [HPL.out]; exact hr)
          rw [HPL.out] at this
          exact this
        subst hsame
        clear hr
        go_wp2_with (first
          | (go_at_call 11; with_reducible refine (gr_copy HGr.out (by omega)).mono ?_; rintro e w3 ⟨P2, rfl, h3⟩; have hp := two_play (f k) HF.out h3 HKK.out (by omega) (by omega); rw [HPL.out] at hp; unfold stepV at hp; have HP := Lib.hid hp; obtain ⟨c0, c1, c2, c3, c4, c5, c6, c7⟩ := HC.out.below h3.mem HLT.out; clear h3 hp)
          | (go_at_call 19; with_reducible refine HP.out.mono ?_; rintro e w4 ⟨rfl, h4⟩; have H4 := Lib.hid h4; clear h4)
          | (go_at_call 20; with_reducible refine (two_whole H4.out (by omega)).mono ?_; rintro e w5 ⟨rfl, h5⟩; have H5 := Lib.hid h5; clear h5)
          | (go_at_call 21; with_reducible refine (two_all H5.out (by omega)).mono ?_; rintro e w6 ⟨B6, c6, l6, rfl, hl6, h6⟩; have H6 := Lib.hid h6; rw [HRO.out] at hl6; clear h6)
          | (go_at_call 22; with_reducible refine (two_alike H6.out (by omega)).mono ?_; rintro e w7 ⟨rfl, h7⟩; have H7 := Lib.hid h7; clear h7))
        refine ⟨⟨k + 1, by go_num, by omega, t', ?_, HRO.out⟩, by simp [intOf]; omega⟩
        have h := H7.out.one HK2.out
        exact h
end Go.Proofs.YtpcjbfhgmcioaaaGreat

/- The theorem. -/
namespace Go.Proofs.YtpcjbfhgmcioaaaGreat
open Go.ChangeShapes Go.WideShapes Go.ChangeAt Go.RowKit

theorem trodAll_two {H : Type} {enc : TypeId × Value → H} {P : Program} {w : World} {base : Nat} {spare : Nat → Bool} {held : Bool} {t0 t1 : TypeId} {args : Array Value} {ds : List (DataW H)} {ps : List MemPlace} (h : DataW.TrodAll enc P w base spare held [t0, t1] args.toList ds ps) :
    ∃ v0 v1 d0 d1 p0 p1, args = #[v0, v1] ∧ ds = [d0, d1] ∧ ps = p0 ++ p1 ∧ DataW.Trod enc P w base spare held t0 v0 d0 p0 ∧ DataW.Trod enc P w base spare held t1 v1 d1 p1 := by
  obtain ⟨v0, vs0, d0, ds0, p0, q0, hargs, rfl, rfl, h0, r0⟩ := trodAll_cons h
  obtain ⟨v1, vs1, d1, ds1, p1, q1, rfl, rfl, rfl, h1, r1⟩ := trodAll_cons r0
  obtain ⟨rfl, rfl, rfl⟩ := trodAll_nil r1
  exact ⟨v0, v1, d0, d1, p0, p1, by cases args; simp_all, rfl, by simp, h0, h1⟩
theorem u8_of {x : Int} (w : (Lit.int .u8 x).wf = true) : 0 ≤ x ∧ x ≤ 255 := by
  simpa [Lit.wf, IntKind.min, IntKind.max, IntKind.signed, IntKind.bits] using w
set_option maxRecDepth 100000 in
theorem lifted_whole (os : Os) (started : os.Started) (H : Type) (enc : TypeId × Value → H) :
    ReturnsInHanded {} Tryz.checked os 4 .any (Rows.treeWholeSpec.pre6 enc Tryz.prog Tryz.f4 Rows.treeWholeRow.domain false) (Rows.treeWholeSpec.post enc Tryz.prog Tryz.f4 false true false false) := by
  refine returnsInHanded_of_change (C := Tryz.checked) own started (by kernel_rfl) Tryz.func4
    (ChangeSpec.witness6 (enc := enc) (C := Tryz.checked) false ⟨#[], #[.int .u8 0, .slice none 0 0], []⟩ 8 (by kernel_rfl) (by kernel_rfl) (by kernel_rfl) (by kernel_rfl)) ?_
  intro W base args ds gs before hval0 hW _ _
  have hval : ∀ (j : Nat) t v, Tryz.f4.params[j]? = some t → args[j]? = some v → Value.okWide Tryz.prog W .any base t v := hval0
  have hW' := hW
  obtain ⟨p, q, hA0, hV, rfl, _, _⟩ := hW
  have hA : DataW.TrodAll enc Tryz.prog W 0 (fun _ => true) true Tryz.f4.params.toList args.toList ds p := hA0
  rw [Tryz.params4] at hA hval
  obtain ⟨v0, v1, d0, d1, p0, p1, rfl, rfl, rfl, h0, h1⟩ := trodAll_two hA
  obtain ⟨rfl, rfl⟩ := trodVars_none hV
  obtain ⟨a, rfl, rfl, rfl, wa⟩ := open_int Tryz.underlying5 (hval 0 5 v0 rfl rfl) h0
  obtain ⟨A, n, c, f, rfl, hn, hs⟩ := steps_of (okWide_slice Tryz.underlying22 (hval 1 22 v1 rfl rfl)) h1
  refine (t_treeWhole A n c f a W hs hn (u8_of wa)).mono fun e W' ⟨he, hb⟩ => ?_
  exact ⟨_, he, law_post laidOut (by kernel_rfl) rfl (by kernel_rfl) Tryz.underlying4 hW' rfl hb⟩

theorem treeWhole_holds : Rows.TreeWholeSaid :=
  OpenClaim.holds_of_wide 4 Tryz.f4 rfl rfl rfl rfl rfl rfl rfl ⟨rfl, rfl, rfl, rfl, rfl⟩ rfl rfl rfl rfl rfl (by kernel_rfl) Tryz.func4 (by kernel_rfl)
    (of_decide_eq_true (by kernel_rfl)) (by unfold Func.isWrapper; first | (rw [if_pos (by decide +kernel)]; kernel_rfl) | (rw [if_neg (by decide +kernel)]; exact ⟨rfl, rfl⟩))
    (fun os started H enc _ => lifted_whole os started H enc)
#print axioms treeWhole_holds
end Go.Proofs.YtpcjbfhgmcioaaaGreat
