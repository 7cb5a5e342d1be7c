/- The program's tree: Hold, Drop, Held. -/
import Derived.Test.YtogljgiefmfafaaGreatPd02
import Derived.Test.YtogljgiefmfafaaGreatPd04
import Derived.Test.YtogljgiefmfafaaGreatPd10
import Derived.Test.YtogljgiefmfafaaGreatPd17
import Derived.Shelf.SlMaps.Clone
import Derived.StillTailTactics
import Derived.IntWalk
namespace Go.Proofs.YtogljgiefmfafaaGreat
open Go.RowKit Go.Maps
section
variable {F : Nat → Prop} {P N : Nat} {y : Lay} {t : PT}
theorem asked2 {W : World} {i : Int} {v1 v2 : Value} (q1 : Question W v1 (thereE t [i])) (q2 : (t.n i).isSome = true → Question W v2 (fileE' t i)) : Asked W [v1, v2] [thereE t [i], fileE' t i] := by
 refine Asked.of W _ _ rfl fun j e v he hv h0 => ?_
 match j with
 | 0 => simp at he hv; subst he; subst hv; exact q1
 | 1 => simp at he hv; subst he; subst hv; exact q2 (there_one (h0 0 _ (by omega) rfl))
 | j + 2 => simp at he
theorem asked2h {W : World} {i : Int} {v1 v2 : Value} (q1 : Question W v1 (thereE t [i])) (q2 : (t.n i).isSome = true → Question W v2 (heldE' t i)) : Asked W [v1, v2] [thereE t [i], heldE' t i] := by
 refine Asked.of W _ _ rfl fun j e v he hv h0 => ?_
 match j with
 | 0 => simp at he hv; subst he; subst hv; exact q1
 | 1 => simp at he hv; subst he; subst hv; exact q2 (there_one (h0 0 _ (by omega) rfl))
 | j + 2 => simp at he
set_option maxHeartbeats 2000000 in
theorem t_holdP (i r : Int) (t' : PT) (hr : holdP t i = (r, t')) (w : World) (h : TreeM w F P N y t) (hi : U32 i) (hK : HeldK 1000000000 t) (hK0 : ∀ x, t.n i = some x → 0 ≤ x.held) :
  Calls Tryz.prog 170 #[.pointer (some ⟨P, 0, none⟩), .int .u32 i] w fun e w' => e = .returned (.int .i64 r) ∧ Became w w' F P N t' := by
 have HTh := Lib.hid (there_later h i hi)
 have HFl := Lib.hid (file_later h i)
 have HT := Lib.hid h
 obtain ⟨q, hq⟩ : ∃ q, holdE t i = q := ⟨_, rfl⟩
 have HE : Hid (firstE [thereE t [i], fileE' t i] = q) := hq
 by_cases hz : q = 0
 · subst hz
   have hz := HE.out
   obtain ⟨z1, hz⟩ := firstE_cons hz
   obtain ⟨z2, hz⟩ := firstE_cons hz
   obtain ⟨x, hx⟩ := Option.isSome_iff_exists.1 (there_one z1)
   have HX := Lib.hid hx
   have HP : Hid (r = 0 ∧ t' = t.set i { x with held := x.held + 1 }) := by
    unfold holdP at hr
    rw [if_pos hq, hx] at hr
    injection hr with a b
    exact ⟨a.symm, b.symm⟩
   have hh := hK i x hx
   have hh0 := hK0 x hx
   clear h hi hK hK0 hr z1 z2 hz hx hq
   go_enter Tryz.func170, Tryz.ntmps170
   go_wp2_with (first
    | (go_at_call 48; (with_reducible refine (HTh.out _ _ _ (below_a1 w _) (SliceAt.built' _ [.int .u32 i] _ (w.heap.size) rfl)).mono ?_); rintro e w1 hq; obtain ⟨g1, l1, rfl, hq1, hb1⟩ := hq.get; have HQ1 := Lib.hid hq1; have HB1 := Lib.hid (ptrans (below_a1 w _) hb1); clear hq hq1 hb1)
    | (go_at_call 49; (with_reducible refine (HFl.out _ HB1.out).mono ?_); rintro e w2 ⟨g2, l2, rfl, hq2, hb2⟩; have HQ2 := Lib.hid hq2; have HB2 := Lib.hid (ptrans HB1.out hb2); have HQ1' := Lib.hid (HQ1.out.later hb2); clear hq2 hb2)
    | (go_at_call 47; (with_reducible refine (check_built w2 P [.func (.func g1) #[] l1, .func (.func g2) #[] l2] 2 [thereE t [i], fileE' t i] 0 HE.out _ rfl (by omega) (asked2 HQ1'.out HQ2.out) (by simp)).mono ?_); rintro e w4 ⟨rfl, hb4⟩
       have hb : Below w.heap.size w w4 := ptrans (ptrans HB2.out (below_a1 _ _)) hb4
       have hT := HT.out.below hb
       have c1 := hT.c1
       have hlk := hT.look_some HX.out
       have n5 : w4.cell? ⟨y.f i, 5, none⟩ = some (.int .i64 x.held) := (hT.node i x HX.out).cell 5
       have nf5 := (hT.node i x HX.out).frozen 5
       have hTF := hT.store HX.out 5 (.int .i64 (x.held + 1)) (x' := { x with held := x.held + 1 }) rfl rfl rfl
       have HTF := Lib.hid hTF
       have HUF := Lib.hid ((Turn.of_below F hb).trans (turn_store F w4 (y.f i) 5 (.int .i64 (x.held + 1)) (hT.foot_f HX.out)))
       clear hTF hb hb4 hT HQ1 HQ2 HQ1' HB1 HB2))
   go_ret
   obtain ⟨rfl, rfl⟩ := HP.out
   exact ⟨rfl, y, F, HTF.out, HUF.out⟩
 · have HP : Hid (r = q ∧ t' = t) := by
    unfold holdP at hr
    rw [if_neg (by rw [hq]; exact hz), hq] at hr
    injection hr with a b
    exact ⟨a.symm, b.symm⟩
   have hq0 : (q == 0) = false := by simpa using hz
   clear h hi hK hK0 hr hq hz
   go_enter Tryz.func170, Tryz.ntmps170
   go_wp2_with (first
    | (go_at_call 48; (with_reducible refine (HTh.out _ _ _ (below_a1 w _) (SliceAt.built' _ [.int .u32 i] _ (w.heap.size) rfl)).mono ?_); rintro e w1 hq; obtain ⟨g1, l1, rfl, hq1, hb1⟩ := hq.get; have HQ1 := Lib.hid hq1; have HB1 := Lib.hid (ptrans (below_a1 w _) hb1); clear hq hq1 hb1)
    | (go_at_call 49; (with_reducible refine (HFl.out _ HB1.out).mono ?_); rintro e w2 ⟨g2, l2, rfl, hq2, hb2⟩; have HQ2 := Lib.hid hq2; have HB2 := Lib.hid (ptrans HB1.out hb2); have HQ1' := Lib.hid (HQ1.out.later hb2); clear hq2 hb2)
    | (go_at_call 47; (with_reducible refine (check_built w2 P [.func (.func g1) #[] l1, .func (.func g2) #[] l2] 2 [thereE t [i], fileE' t i] q HE.out _ rfl (by omega) (asked2 HQ1'.out HQ2.out) (by simp)).mono ?_); rintro e w4 ⟨rfl, hb4⟩
       have HB := Lib.hid (ptrans (ptrans HB2.out (below_a1 _ _)) hb4)
       clear hb4 HQ1 HQ2 HQ1' HB1 HB2))
   go_ret
   obtain ⟨rfl, rfl⟩ := HP.out
   exact ⟨rfl, became_below HT.out (Nat.le_refl _) HB.out⟩
def heldR (t : PT) (i : Int) : Int := match t.n i with | some x => x.held | none => 0
theorem t_heldP (i : Int) (w : World) (h : TreeM w F P N y t) (hi : U32 i) :
  Calls Tryz.prog 39 #[.pointer (some ⟨P, 0, none⟩), .int .u32 i] w fun e w' => e = .returned (.int .i64 (heldR t i)) ∧ w = w' := by
 have c1 := h.c1
 cases hx : t.n i with
 | none =>
  have hlk := h.look_none hi hx
  have HR : Hid (heldR t i = 0) := by show _ = _; unfold heldR; rw [hx]
  clear h hi hx
  go_enter Tryz.func39, Tryz.ntmps39
  go_wp2
  go_ret
  rw [HR.out]
  exact ⟨rfl, rfl⟩
 | some x =>
  have hlk := h.look_some hx
  have n5 : w.cell? ⟨y.f i, 5, none⟩ = some (.int .i64 x.held) := (h.node i x hx).cell 5
  have HR : Hid (heldR t i = x.held) := by show _ = _; unfold heldR; rw [hx]
  clear h hi hx
  go_enter Tryz.func39, Tryz.ntmps39
  go_wp2
  go_ret
  rw [HR.out]
  exact ⟨rfl, rfl⟩
theorem t_drop1 (i : Int) (x : PN) (B1 B2 : Nat) (r : Int) (hr : heldE x = r) (w : World) (h : TreeM w F P N y t) (hx : t.n i = some x)
  (hc1 : w.cell? ⟨B1, 0, none⟩ = some (.pointer (some ⟨P, 0, none⟩))) (hc2 : w.cell? ⟨B2, 0, none⟩ = some (.int .u32 i)) :
  Calls Tryz.prog 228 #[.pointer (some ⟨B1, 0, none⟩), .pointer (some ⟨B2, 0, none⟩)] w (AQ r w) := by
 have c1 := h.c1
 have hl : ∀ n, (Instr.lookup 75 (.map (some y.M)) (.int .u32 i) false).run Tryz.prog (w.drewN n) = .ok (.pointer (some ⟨y.f i, 0, none⟩)) (w.drewN n) := fun n => (h.drewN n).look_some hx
 have k1 : w.cell? ⟨y.f i, 5, none⟩ = some (.int .i64 x.held) := (h.node i x hx).cell 5
 obtain ⟨b, hb⟩ : ∃ b, (x.held == 0) = b := ⟨_, rfl⟩
 have HR : Hid ((if b = true then (3 : Int) else 0) = r) := by show _ = _; rw [← hr, ← hb]; simp [heldE]
 clear hr hx h
 go_enter Tryz.func228, Tryz.ntmps228
 go_wp2
 go_quiet ((go_at_call 89; exact quiet_eq (t_as b 3 _ HR.out _)))
 go_wp2
 go_ret
 exact AQ.mk rfl (pbelow_drewN (Below.refl _ _) _)
theorem enters_drop : Enters 228 := enters_of Tryz.func228 (by kernel_rfl) rfl
theorem q_drop {w : World} {B1 B2 : Nat} {i r : Int} (hx : (t.n i).isSome = true) (hr : heldE' t i = r) (h : TreeM w F P N y t) (hB1 : B1 < w.heap.size) (hB2 : B2 < w.heap.size) (hc1 : w.cell? ⟨B1, 0, none⟩ = some (.pointer (some ⟨P, 0, none⟩))) (hc2 : w.cell? ⟨B2, 0, none⟩ = some (.int .u32 i)) :
  Question w (.func (.func 228) #[] #[.pointer (some ⟨B1, 0, none⟩), .pointer (some ⟨B2, 0, none⟩)]) r := by
 obtain ⟨x, hx⟩ := Option.isSome_iff_exists.1 hx
 exact ⟨_, _, rfl, enters_drop, fun W hW => t_drop1 i x B1 B2 r (by rw [← hr]; unfold heldE'; rw [hx]) W (h.below hW) hx (cell_below hW hB1 hc1) (cell_below hW hB2 hc2)⟩
end
end Go.Proofs.YtogljgiefmfafaaGreat
namespace Go.Proofs.YtogljgiefmfafaaGreat
open Go.RowKit Go.Maps
section
variable {F : Nat → Prop} {P N : Nat} {y : Lay} {t : PT}
set_option maxRecDepth 100000 in
set_option maxHeartbeats 8000000 in
theorem t_unholdP (i r : Int) (t' : PT) (hr : unholdP t i = (r, t')) (w : World) (h : TreeM w F P N y t) (hi : U32 i) (hK : HeldK 1000000000 t) (hK0 : ∀ x, t.n i = some x → 0 ≤ x.held) :
  Calls Tryz.prog 178 #[.pointer (some ⟨P, 0, none⟩), .int .u32 i] w fun e w' => e = .returned (.int .i64 r) ∧ Became w w' F P N t' := by
 go_enter Tryz.func178, Tryz.ntmps178
 go_wp2
 obtain ⟨w0, hw0⟩ : ∃ w0, (w.alloc (.cells #[.pointer (some ⟨P, 0, none⟩)] 26)).alloc (.cells #[.int .u32 i] 37) = w0 := ⟨_, rfl⟩
 obtain ⟨hBw, b2, b3, hsz⟩ := two_boxes w (.pointer (some ⟨P, 0, none⟩)) (.int .u32 i) 26 37
 rw [hw0] at hBw b2 b3 hsz ⊢
 have hT : TreeM w0 F P N y t := h.below hBw
 clear hw0
 refine wp_region_all (phi [isV (.pointer (some ⟨P, 0, none⟩)), isV (.pointer (some ⟨P, 0, none⟩)), isV (.int .u32 i), isSl [.int .u32 i], isQ True (thereE t [i]), isV (.func (.func 228) #[] #[.pointer (some ⟨w.heap.size, 0, none⟩), .pointer (some ⟨w.heap.size + 1, 0, none⟩)]), isAsk 2 [thereE t [i], heldE' t i], isV (.int .i64 (firstE [thereE t [i], heldE' t i])), isV (.int .i64 (firstE [thereE t [i], heldE' t i]))]) (by kernel_rfl) (by kernel_rfl) ?_ ?_ ?_
 · refine stays_phi ?_
   simp only [List.forall_mem_cons]
   exact ⟨stays_V _, stays_V _, stays_V _, stays_Sl _, stays_Q _ _, stays_V _, stays_Ask _ _, stays_V _, stays_V _, fun _ h => absurd h (by simp)⟩
 · refine ⟨?_, ?_, ?_, ?_, ?_, ?_, ?_, ?_, ?_, trivial⟩
   · refine op_mk rfl fun a W hB hp hq K hK => ?_
     have e2 : a.tmps[2]?.getD undef = .pointer (some ⟨w.heap.size, 0, none⟩) := hp 2 (by kernel_rfl)
     have cc := box_at hB b2
     clear hp hq
     go_simp
     exact hK _ _ (Below.refl _ _) rfl
   · refine op_mk rfl fun a W hB hp hq K hK => ?_
     have e2 : a.tmps[2]?.getD undef = .pointer (some ⟨w.heap.size, 0, none⟩) := hp 2 (by kernel_rfl)
     have cc := box_at hB b2
     clear hp hq
     go_simp
     exact hK _ _ (Below.refl _ _) rfl
   · refine op_mk rfl fun a W hB hp hq K hK => ?_
     have e3 : a.tmps[3]?.getD undef = .pointer (some ⟨w.heap.size + 1, 0, none⟩) := hp 3 (by kernel_rfl)
     have cc := box_at hB b3
     clear hp hq
     go_simp
     exact hK _ _ (Below.refl _ _) rfl
   · refine op_mk rfl fun a W hB hp hq K hK => ?_
     have e8 : a.tmps[8]?.getD undef = .int .u32 i := hq 2 8 (by kernel_rfl) (by kernel_rfl)
     clear hp hq
     go_simp
     exact hK _ _ ((Below.refl _ _).alloc (Nat.le_refl _) _) ⟨_, _, rfl, SliceAt.built _ _ _⟩
   · refine op_mk rfl fun a W hB hp hq K hK => ?_
     have e7 : a.tmps[7]?.getD undef = .pointer (some ⟨P, 0, none⟩) := hq 1 7 (by kernel_rfl) (by kernel_rfl)
     obtain ⟨A, c, e9, hA⟩ : isSl [.int .u32 i] (a.tmps[9]?.getD undef) W := hq 3 9 (by kernel_rfl) (by kernel_rfl)
     have HA := Lib.hid hA
     clear hA
     have HB := Lib.hid hB
     clear hp hq hB
     go_simp
     refine (t_there [i] A 1 c _ rfl W (hT.below HB.out) rfl (by simpa using hi) (by simp [maxLen]) HA.out).mono ?_
     rintro e w' ⟨v, rfl, hv, hb⟩
     exact hK _ _ hb (isQ.of hv)
   · refine op_mk rfl fun a W hB hp hq K hK => ?_
     have e2 : a.tmps[2]?.getD undef = .pointer (some ⟨w.heap.size, 0, none⟩) := hp 2 (by kernel_rfl)
     have e3 : a.tmps[3]?.getD undef = .pointer (some ⟨w.heap.size + 1, 0, none⟩) := hp 3 (by kernel_rfl)
     clear hp hq
     go_simp
     exact hK _ _ (Below.refl _ _) rfl
   · refine op_mk rfl fun a W hB hp hq K hK => ?_
     obtain ⟨g1, l1, q1, h1⟩ : isQ True (thereE t [i]) (a.tmps[10]?.getD undef) W := hq 4 10 (by kernel_rfl) (by kernel_rfl)
     have q2 : a.tmps[11]?.getD undef = (.func (.func 228) #[] #[.pointer (some ⟨w.heap.size, 0, none⟩), .pointer (some ⟨w.heap.size + 1, 0, none⟩)]) := hq 5 11 (by kernel_rfl) (by kernel_rfl)
     have H1 := Lib.hid h1
     clear h1
     have HB := Lib.hid hB
     clear hp hq hB
     go_simp
     have hb := (Below.refl W.heap.size W).alloc (Nat.le_refl _) (.cells #[.func (.func g1) #[] l1, (.func (.func 228) #[] #[.pointer (some ⟨w.heap.size, 0, none⟩), .pointer (some ⟨w.heap.size + 1, 0, none⟩)])] 82)
     have q2' := fun hx => q_drop (i := i) hx rfl (hT.below HB.out) (Nat.lt_of_lt_of_le (by omega) HB.out.size) (Nat.lt_of_lt_of_le (by omega) HB.out.size) (box_at HB.out b2) (box_at HB.out b3)
     exact hK _ _ hb ⟨_, _, _, rfl, rfl, SliceAt.built _ _ _, (asked2h (H1.out trivial) q2').later hb⟩
   · refine op_mk rfl fun a W hB hp hq K hK => ?_
     have e6 : a.tmps[6]?.getD undef = .pointer (some ⟨P, 0, none⟩) := hq 0 6 (by kernel_rfl) (by kernel_rfl)
     obtain ⟨A, c, vs, e12, hl, hA, hq1⟩ : isAsk 2 [thereE t [i], heldE' t i] (a.tmps[12]?.getD undef) W := hq 6 12 (by kernel_rfl) (by kernel_rfl)
     have HA := Lib.hid hA
     have HQ := Lib.hid hq1
     clear hp hq hA hq1
     go_simp
     refine (t_checkL ⟨P, 0, none⟩ A vs 2 c [thereE t [i], heldE' t i] _ rfl W hl (by rw [hl]; simp [maxLen]) HA.out HQ.out (by simp)).mono ?_
     rintro e w' ⟨rfl, hb⟩
     exact hK _ _ hb rfl
   · refine op_mk rfl fun a W hB hp hq K hK => ?_
     have e13 : a.tmps[13]?.getD undef = .int .i64 (firstE [thereE t [i], heldE' t i]) := hq 7 13 (by kernel_rfl) (by kernel_rfl)
     clear hp hq
     go_simp
     exact hK _ _ (Below.refl _ _) rfl
 · intro vs W hB hv
   have f7 : vs 7 = .int .i64 (unholdE t i) := hv 7 (by decide) (by kernel_rfl)
   have f8 : vs 8 = .int .i64 (unholdE t i) := hv 8 (by decide) (by kernel_rfl)
   clear hv
   have hBW : Below w.heap.size w W := ptrans hBw hB
   have hTW : TreeM W F P N y t := h.below hBW
   have d2 := box_at hB b2
   have d3 := box_at hB b3
   clear hB b2 b3 hT hBw
   simp only [putAll, Act.put, List.setIfInBounds_toArray, List.set_cons_succ, List.set_cons_zero, Nat.zero_add, Nat.reduceAdd, f7, f8]
   by_cases he : unholdE t i = 0
   · have he0 := he
     unfold unholdE at he0
     obtain ⟨z1, he0⟩ := firstE_cons he0
     obtain ⟨z2, _⟩ := firstE_cons he0
     obtain ⟨x, hx⟩ := Option.isSome_iff_exists.1 (there_one z1)
     have hP : Hid (r = 0 ∧ t' = unholdT t i x) := by
      unfold unholdP at hr
      rw [if_pos he, hx] at hr
      injection hr with a b
      exact ⟨a.symm, b.symm⟩
     have c1 := hTW.c1
     have hlk : (Instr.lookup 75 (.map (some y.M)) (.int .u32 i) false).run Tryz.prog W.drew = .ok (.pointer (some ⟨y.f i, 0, none⟩)) W.drew := (hTW.drewN 1).look_some hx
     have n5 : W.cell? ⟨y.f i, 5, none⟩ = some (.int .i64 x.held) := (hTW.node i x hx).cell 5
     have nf5 := (hTW.node i x hx).frozen 5
     have hh := hK i x hx
     have hh0 := hK0 x hx
     have hwr : IntKind.i64.wrap (x.held - 1) = x.held - 1 := IntWalk.i64_in _ (by omega)
     have HTW := Lib.hid hTW
     have HBW := Lib.hid hBW
     have HX := Lib.hid hx
     have HF := Lib.hid h
     rw [he]
     clear hr he z1 z2 hx hTW hBW f7 f8 h hK hK0
     go_wp2
     go_still_tail 12, (by kernel_rfl)
     change wpList _ _ _ _ _ W.drew
     have HD : Hid (Below W.heap.size W W.drew) := pbelow_drewN (Below.refl _ _) 1
     clear hlk n5 c1 nf5
     generalize W.drew = w2 at *
     have hT2 : TreeM w2 F P N y t := HTW.out.below HD.out
     have c1 := hT2.c1
     have n5 : w2.cell? ⟨y.f i, 5, none⟩ = some (.int .i64 x.held) := (hT2.node i x HX.out).cell 5
     have nf5 := (hT2.node i x HX.out).frozen 5
     have hnF : ¬ F w.heap.size := fun hh => by have := HF.out.lt _ hh; omega
     have hnF1 : ¬ F (w.heap.size + 1) := fun hh => by have := HF.out.lt _ hh; omega
     have ne2 : y.f i ≠ w.heap.size := fun e => hnF (e ▸ hT2.foot_f HX.out)
     have ne3 : y.f i ≠ w.heap.size + 1 := fun e => hnF1 (e ▸ hT2.foot_f HX.out)
     have ot : ∀ B v, y.f i ≠ B → w2.cell? ⟨B, 0, none⟩ = some v → (w2.setCell ⟨y.f i, 5, none⟩ (.int .i64 (x.held - 1))).cell? ⟨B, 0, none⟩ = some v := fun B v hB hc => (World.cell?_of_block (Below.heap_setCell w2 ⟨y.f i, 5, none⟩ _ B (Ne.symm hB))).trans hc
     have dd2 := ot _ _ ne2 (box_at HD.out d2)
     have dd3 := ot _ _ ne3 (box_at HD.out d3)
     have hTF := hT2.store HX.out 5 (.int .i64 (x.held - 1)) (x' := { x with held := x.held - 1 }) rfl rfl rfl
     have hU := ((Turn.of_below F HBW.out).trans (Turn.of_below F HD.out)).trans (turn_store F w2 (y.f i) 5 (.int .i64 (x.held - 1)) (hT2.foot_f HX.out))
     have hi2 : (t.set i { x with held := x.held - 1 }).n i = some { x with held := x.held - 1 } := by rw [PT.set_n, if_pos rfl]
     have HFR := Lib.hid (t_freeP i _ _ hTF hi2)
     have HUF := Lib.hid hU
     clear d2 d3 hnF hnF1 ne2 ne3 ot hTF hU hi2 hT2 hh hh0
     go_wp2_with (go_at_call 225; refine HFR.out.mono ?_; rintro e w3 ⟨rfl, hT3, hU3⟩; have HT3 := Lib.hid hT3; have HU3 := Lib.hid (HUF.out.trans hU3); clear hT3 hU3)
     go_ret
     obtain ⟨rfl, rfl⟩ := hP.out
     exact ⟨rfl, y, F, HT3.out, HU3.out⟩
   · have hP : Hid (r = unholdE t i ∧ t' = t) := by
      unfold unholdP at hr
      rw [if_neg he] at hr
      injection hr with a b
      exact ⟨a.symm, b.symm⟩
     have HH : Hid (TreeM W F P N y t ∧ Below w.heap.size w W) := ⟨hTW, hBW⟩
     generalize unholdE t i = q at *
     have he' : (q == 0) = false := by simpa using he
     clear hr he hTW hBW f7 f8 d2 d3 h hK hK0
     go_wp2
     go_ret
     obtain ⟨rfl, rfl⟩ := hP.out
     exact ⟨rfl, _, _, HH.out.1, Turn.of_below F HH.out.2⟩
end
end Go.Proofs.YtogljgiefmfafaaGreat

namespace Go.Proofs.YtogljgiefmfafaaGreat
open Go.RowKit Go.Maps
section
variable {F : Nat → Prop} {P N : Nat} {y : Lay} {t : PT}
set_option maxRecDepth 100000 in
set_option maxHeartbeats 1000000 in
theorem r_same (A1 A2 : Option Addr) (c1 c2 : Nat) (L : List E) (w : World) (h1 : EntsAt w A1 L) (h2 : EntsAt w A2 L) (hn : L.length ≤ 60000) :
  Calls Tryz.prog 38 #[.slice A1 L.length c1, .slice A2 L.length c2] w fun e w' => e = .returned (.bool true) ∧ ∃ m, w' = w.drewN m := by
 obtain ⟨n, hL⟩ : ∃ n, L.length = n := ⟨_, rfl⟩
 rw [hL] at hn ⊢
 have HL := Lib.hid hL
 have H1 := Lib.hid h1
 have H2 := Lib.hid h2
 clear h1 h2 hL
 go_enter Tryz.func38, Tryz.ntmps38
 go_wp2
 go_loopw [5] (fun v wr => ∃ k : Nat, v = .int .i64 (k : Int) ∧ k ≤ n ∧ ∃ m, wr = w.drewN m) (fun v _ => n - (intOf v).toNat)
 case atStart => exact ⟨0, rfl, Nat.zero_le _, 0, rfl⟩
 case round =>
  obtain ⟨k, rfl, hk, m0, hm0⟩ := hrel
  have HB : Hid (Below w.heap.size w wr) := by rw [hm0]; exact pbelow_drewN (Below.refl _ _) m0
  have HM := Lib.hid hm0
  clear hm0
  by_cases he : k = n
  · go_wp2
    go_ret
    exact ⟨rfl, m0, HM.out⟩
  · have hk2 : k < n := by omega
    obtain ⟨b1, rfl, hl1, e1⟩ := H1.out.at_ (by rw [HL.out]; omega)
    obtain ⟨b2, rfl, hl2, e2⟩ := H2.out.at_ (by rw [HL.out]; omega)
    obtain ⟨⟨s, i⟩, hx⟩ : ∃ x, L[k]? = some x := ⟨L[k]'(by rw [HL.out]; exact hk2), List.getElem?_eq_getElem _⟩
    obtain ⟨a1, a2⟩ := e1 k _ hx
    obtain ⟨a3, a4⟩ := e2 k _ hx
    have d1 := (HB.out.cell (p := ⟨b1, _, none⟩) hl1).trans a1
    have d2 := (HB.out.cell (p := ⟨b1, _, none⟩) hl1).trans a2
    have d3 := (HB.out.cell (p := ⟨b2, _, none⟩) hl2).trans a3
    have d4 := (HB.out.cell (p := ⟨b2, _, none⟩) hl2).trans a4
    clear e1 e2 a1 a2 a3 a4 hx hl1 hl2 he
    go_wp2
    go_quiet (fail)
    generalize hw2 : wr.drewN _ = w2
    have HM2 : Hid (∃ m, w2 = w.drewN m) := ⟨_, by rw [← hw2, HM.out, World.drewN_drewN]⟩
    clear hw2
    go_wp2
    go_roundw
    case rel => exact ⟨k + 1, by go_num, by omega, HM2.out⟩
    case measure => simp [intOf]; omega
end
end Go.Proofs.YtogljgiefmfafaaGreat
namespace Go.Proofs.YtogljgiefmfafaaGreat
open Go.RowKit Go.Maps
theorem sorted_unique {α : Type} {r : α → α → Prop} (hi : ∀ a b, r a b → r b a → False) : ∀ {l m : List α}, l.Pairwise r → m.Pairwise r → (∀ x, x ∈ l ↔ x ∈ m) → l = m
 | [], [], _, _, _ => rfl
 | [], b :: m, _, _, h => absurd ((h b).2 (by simp)) (by simp)
 | a :: l, [], _, _, h => absurd ((h a).1 (by simp)) (by simp)
 | a :: l, b :: m, h1, h2, h => by
  rw [List.pairwise_cons] at h1 h2
  have e : a = b := by
   rcases List.mem_cons.1 ((h a).1 (by simp)) with e | ha
   · exact e
   · rcases List.mem_cons.1 ((h b).2 (by simp)) with e | hb
     · exact e.symm
     · exact (hi a b (h1.1 b hb) (h2.1 a ha)).elim
  subst e
  rw [sorted_unique hi h1.2 h2.2 (fun x => ?_)]
  constructor
  · intro hx
    rcases List.mem_cons.1 ((h x).1 (List.mem_cons_of_mem _ hx)) with e | h3
    · subst e
      exact (hi x x (h1.1 x hx) (h1.1 x hx)).elim
    · exact h3
  · intro hx
    rcases List.mem_cons.1 ((h x).2 (List.mem_cons_of_mem _ hx)) with e | h3
    · subst e
      exact (hi x x (h2.1 x hx) (h2.1 x hx)).elim
    · exact h3
theorem ents_unique {l : List UInt8 → Option Int} {L1 L2 : List E} (h1 : EntsOf l L1) (h2 : EntsOf l L2) : L1 = L2 := by
 have ext : ∀ a b : E, nameL a = nameL b → a.2 = b.2 → a = b := fun a b e1 e2 => by
  obtain ⟨⟨⟨a1⟩⟩, a2⟩ := a
  obtain ⟨⟨⟨b1⟩⟩, b2⟩ := b
  simp only [nameL] at e1 e2
  subst e2
  have : a1 = b1 := by simpa using e1
  subst this
  rfl
 refine sorted_unique (r := fun a b => nameL a < nameL b) (fun a b x y => List.lt_irrefl _ (List.lt_trans x y)) h1.sorted h2.sorted fun x => ?_
 constructor
 · intro hx
   obtain ⟨z, hz, e1, e2⟩ := (h2.mem (nameL x) x.2).2 ((h1.mem (nameL x) x.2).1 ⟨x, hx, rfl, rfl⟩)
   rw [← ext z x e1 e2]
   exact hz
 · intro hx
   obtain ⟨z, hz, e1, e2⟩ := (h1.mem (nameL x) x.2).2 ((h2.mem (nameL x) x.2).1 ⟨x, hx, rfl, rfl⟩)
   rw [← ext z x e1 e2]
   exact hz
theorem ints_unique {l m : List Int} (h1 : l.Pairwise (· < ·)) (h2 : m.Pairwise (· < ·)) (h : ∀ x, x ∈ l ↔ x ∈ m) : l = m :=
 sorted_unique (r := fun a b => a < b) (fun a b x y => by omega) h1 h2 h
theorem rising_len : ∀ {l : List Int} {a b : Int}, l.Pairwise (· < ·) → (∀ x ∈ l, a ≤ x ∧ x ≤ b) → (l.length : Int) ≤ max 0 (b - a + 1)
 | [], _, _, _, _ => by simp; omega
 | c :: l, a, b, h, hb => by
  rw [List.pairwise_cons] at h
  have h1 := hb c (by simp)
  have := rising_len (l := l) (a := c + 1) (b := b) h.2 (fun x hx => ⟨by have := h.1 x hx; omega, (hb x (List.mem_cons_of_mem _ hx)).2⟩)
  simp only [List.length_cons]
  omega
theorem all_len {t : PT} (h : WellP t) {l : List Int} (hs : l.Pairwise (· < ·)) (hm : ∀ i, i ∈ l ↔ (t.n i).isSome = true) : l.length ≤ 256 := by
 have := rising_len (a := 1) (b := 256) hs (fun x hx => by
  obtain ⟨z, hz⟩ := Option.isSome_iff_exists.1 ((hm x).1 hx)
  have := h.range x z hz
  have := h.room
  omega)
 omega
section
variable {F : Nat → Prop} {P N : Nat} {y : Lay} {t : PT}
theorem t_statS {i : Int} {x : PN} (w : World) (h : TreeM w F P N y t) (hx : t.n i = some x) :
  Calls Tryz.prog 19 #[.pointer (some ⟨P, 0, none⟩), .int .u32 i] w fun e w' => e = .returned (.tuple #[.agg #[.int .u32 i, .int .u8 x.kind, .int .i64 x.links, .int .u32 x.size], .int .i64 0]) ∧ Below w.heap.size w w' := by
 have hp := h.pos i x hx
 have := t_statP i w h ⟨by omega, by omega⟩
 unfold statR statP at this
 rw [hx] at this
 exact this
end
abbrev statC (i : Int) (x : PN) : Obj := .cells #[.int .u32 i, .int .u8 x.kind, .int .i64 x.links, .int .u32 x.size] 39
structure StatAt (w : World) (B : Nat) (i : Int) (x : PN) : Prop where
 c0 : w.cell? ⟨B, 0, none⟩ = some (.int .u32 i)
 c1 : w.cell? ⟨B, 1, none⟩ = some (.int .u8 x.kind)
 c2 : w.cell? ⟨B, 2, none⟩ = some (.int .i64 x.links)
 c3 : w.cell? ⟨B, 3, none⟩ = some (.int .u32 x.size)
 lt : B < w.heap.size
theorem StatAt.new (w : World) (i : Int) (x : PN) : StatAt (w.alloc (statC i x)) w.heap.size i x := by
 have e := heap_alloc_new w (statC i x)
 unfold statC at e ⊢
 refine ⟨?_, ?_, ?_, ?_, by simp⟩ <;> simp only [World.cell?, e] <;> rfl
theorem StatAt.below {w w' : World} {B : Nat} {i : Int} {x : PN} (h : StatAt w B i x) (hb : Below w.heap.size w w') : StatAt w' B i x :=
 have key : ∀ j, w'.cell? ⟨B, j, none⟩ = w.cell? ⟨B, j, none⟩ := fun j => hb.cell (p := ⟨B, j, none⟩) h.lt
 ⟨(key _).trans h.c0, (key _).trans h.c1, (key _).trans h.c2, (key _).trans h.c3, Nat.lt_of_lt_of_le h.lt hb.size⟩
section
variable {F1 F2 : Nat → Prop} {P1 P2 N : Nat} {y1 y2 : Lay} {t : PT}
set_option maxRecDepth 100000 in
set_option maxHeartbeats 8000000 in
theorem t_alike (w : World) (h1 : TreeM w F1 P1 N y1 t) (h2 : TreeM w F2 P2 N y2 t) (hW : WellP t) (hN : N ≤ 60000) :
  Calls Tryz.prog 12 #[.pointer (some ⟨P1, 0, none⟩), .pointer (some ⟨P2, 0, none⟩)] w fun e w' => e = .returned (.bool true) ∧ Below w.heap.size w w' := by
 have HT1 := Lib.hid h1
 have HT2 := Lib.hid h2
 have HW := Lib.hid hW
 have HN := Lib.hid hN
 have hne : ∃ i, (t.n i).isSome = true := by
  obtain ⟨x, hx, _⟩ := hW.root
  exact ⟨1, by rw [hx]; rfl⟩
 have HNE := Lib.hid hne
 clear h1 h2 hW hN hne
 go_enter Tryz.func12, Tryz.ntmps12
 go_wp2_with (go_at_call 36; first
  | (with_reducible refine (t_allP w HT1.out HN.out HNE.out).mono ?_
     rintro e w1 ⟨B1, c1, l1, rfl, hs1, hm1, hr1, hg1, hb1⟩
     have HS1 := Lib.hid hs1
     have HM1 := Lib.hid hm1
     have HR1 := Lib.hid hr1
     have HB1 := Lib.hid hb1
     clear hs1 hm1 hr1 hg1 hb1)
  | (with_reducible refine (t_allP w1 (HT2.out.below HB1.out) HN.out HNE.out).mono ?_
     rintro e w2 ⟨B2, c2, l2, rfl, hs2, hm2, hr2, hg2, hb2⟩
     obtain rfl := ints_unique HS1.out hs2 (fun x => (HM1.out x).trans (hm2 x).symm)
     have HR1' := Lib.hid (HR1.out.below hb2)
     have HR2 := Lib.hid hr2
     have HB2 := Lib.hid (ptrans HB1.out hb2)
     clear hs2 hm2 hr2 hg2 hb2))
 obtain ⟨n, hn⟩ : ∃ n, l1.length = n := ⟨_, rfl⟩
 have hn2 : n ≤ 256 := by rw [← hn]; exact all_len HW.out HS1.out HM1.out
 rw [hn]
 have HLN := Lib.hid hn
 have HT1' := Lib.hid (HT1.out.below HB2.out)
 have HT2' := Lib.hid (HT2.out.below HB2.out)
 clear hn HS1 HR1 HT1 HT2 HNE
 go_loopw [7] (fun v wr => ∃ k : Nat, v = .int .i64 (k : Int) ∧ k ≤ n ∧ Below w2.heap.size w2 wr) (fun v _ => n - (intOf v).toNat)
 case atStart => exact ⟨0, rfl, Nat.zero_le _, Below.refl _ _⟩
 case round =>
  obtain ⟨k, rfl, hk, hB⟩ := hrel
  have HB := Lib.hid hB
  clear hB
  by_cases he : k = n
  · go_wp2
    go_ret
    exact ⟨rfl, ptrans HB2.out HB.out⟩
  · have hk2 : k < n := by omega
    obtain ⟨i, hi⟩ : ∃ i, l1[k]? = some i := ⟨l1[k]'(by rw [HLN.out]; exact hk2), List.getElem?_eq_getElem _⟩
    obtain ⟨x, hx⟩ := Option.isSome_iff_exists.1 ((HM1.out i).1 (List.mem_of_getElem? hi))
    have HX := Lib.hid hx
    have hd : ∀ W, Below w2.heap.size w2 W → W.cell? ⟨B1, k, none⟩ = some (.int .u32 i) ∧ W.cell? ⟨B2, k, none⟩ = some (.int .u32 i) := fun W hW => ⟨(hW.cell (p := ⟨B1, _, none⟩) HR1'.out.lt).trans (HR1'.out.cell k i hi), (hW.cell (p := ⟨B2, _, none⟩) HR2.out.lt).trans (HR2.out.cell k i hi)⟩
    have HD := Lib.hid hd
    obtain ⟨d1, d2⟩ := hd wr HB.out
    have hpos := HT1'.out.pos i x hx
    have HU : Hid (U32 i) := ⟨by omega, by omega⟩
    clear hi hx he hd hpos
    go_wp2_with (first
     | (go_at_call 19; first
      | (with_reducible refine (t_statS wr (HT1'.out.below HB.out) HX.out).mono ?_
         rintro e w3 ⟨rfl, hb3⟩
         have hb3' : Below w2.heap.size w2 (w3.alloc (statC i x)) := ptrans (ptrans HB.out hb3) (u_alloc1 w3 _)
         have HB3 := Lib.hid hb3'
         have HS3 := Lib.hid (StatAt.new w3 i x)
         obtain ⟨d3, d4⟩ := HD.out _ hb3'
         unfold statC at d3 d4
         clear hb3 hb3' d1 d2)
      | (with_reducible refine (t_statS (w3.alloc (statC i x)) (HT2'.out.below HB3.out) HX.out).mono ?_
         rintro e w4 ⟨rfl, hb4⟩
         have hb4' : Below w2.heap.size w2 (w4.alloc (statC i x)) := ptrans (ptrans HB3.out hb4) (u_alloc1 w4 _)
         have HB4 := Lib.hid hb4'
         have HS4 := Lib.hid (StatAt.new w4 i x)
         have HS3' := Lib.hid (HS3.out.below (ptrans hb4 (u_alloc1 w4 (statC i x))))
         obtain ⟨d5, d6⟩ := HD.out _ hb4'
         unfold statC at d5 d6
         clear hb4 hb4' d3 d4))
     | (go_at_call 37; first
      | (with_reducible refine (t_listP i (w4.alloc (statC i x)) (HT1'.out.below HB4.out) HU.out HN.out).mono ?_
         rintro e w5 ⟨A1, k1, L1, rfl, hL1, hn1, hE1, hb5, _⟩
         have HL1 := Lib.hid hL1
         have HN1 := Lib.hid hn1
         have HE1 := Lib.hid hE1
         have hb5' := ptrans HB4.out hb5
         have HB5 := Lib.hid hb5'
         have HS5 := Lib.hid (HS3'.out.below hb5)
         have HS6 := Lib.hid (HS4.out.below hb5)
         obtain ⟨d7, d8⟩ := HD.out _ hb5'
         clear hL1 hn1 hE1 hb5 hb5' d5 d6)
      | (with_reducible refine (t_listP i w5 (HT2'.out.below HB5.out) HU.out HN.out).mono ?_
         rintro e w6 ⟨A2, k2, L2, rfl, hL2, hn2, hE2, hb6, _⟩
         obtain rfl := ents_unique HL1.out hL2
         have HE2 := Lib.hid hE2
         have HE1' := Lib.hid (HE1.out.below hb6)
         have hb6' := ptrans HB5.out hb6
         have HB6 := Lib.hid hb6'
         have HS7 := Lib.hid (HS5.out.below hb6)
         have HS8 := Lib.hid (HS6.out.below hb6)
         obtain ⟨d9, d10⟩ := HD.out _ hb6'
         clear hL2 hn2 hE2 hb6 hb6' d7 d8 HS3 HS4 HS3' HS5 HS6 HB3 HB4 HB5 HE1)))
    obtain ⟨e0, e1, e2, e3, _⟩ := HS7.out
    obtain ⟨f0, f1, f2, f3, _⟩ := HS8.out
    have HT6 := Lib.hid (HT1'.out.below HB6.out)
    have HT6' := Lib.hid (HT2'.out.below HB6.out)
    go_quiet (first
     | (go_at_call 38; refine Calls.quiet_of (r_same A1 A2 k1 k2 L1 _ (HE1'.out.below (pbelow_drewN (Below.refl _ _) _)) (HE2.out.below (pbelow_drewN (Below.refl _ _) _)) HN1.out))
     | (go_at_call 39; first
      | exact quiet_eq (t_heldP i _ (HT6.out.below (pbelow_drewN (Below.refl _ _) _)) HU.out)
      | exact quiet_eq (t_heldP i _ (HT6'.out.below (pbelow_drewN (Below.refl _ _) _)) HU.out)))
    generalize hw7 : w6.drewN nq = w7
    have hB7 : Below w2.heap.size w2 w7 := by rw [← hw7]; exact pbelow_drewN HB6.out _
    have hS7 : StatAt w7 w3.heap.size i x := by rw [← hw7]; exact HS7.out.below (pbelow_drewN (Below.refl _ _) _)
    have HB7 := Lib.hid hB7
    have HS9 := Lib.hid hS7
    have hok := HW.out.pages i x HX.out
    have hsx := hok.size
    have HOK := Lib.hid (fun z (hz : t.n i = some z) => HW.out.pages i z hz)
    clear hw7 hB7 hS7 HS7 HS8 e0 e1 e2 e3 f0 f1 f2 f3 HT6 HT6' HE1' HE2 HB6 HN1 HL1 d9 d10 hok
    go_wp2
    go_loopw [16] (fun v W => ∃ m : Nat, v = .int .i64 (m : Int) ∧ m ≤ 36 ∧ Below w7.heap.size w7 W) (fun v _ => 37 - (intOf v).toNat)
    case atStart => exact ⟨0, rfl, Nat.zero_le _, Below.refl _ _⟩
    case round =>
     obtain ⟨m, rfl, hm, hBm⟩ := hrel
     have HBM := Lib.hid (ptrans HB7.out hBm)
     have HBM7 := Lib.hid hBm
     obtain ⟨_, _, _, e3, _⟩ := HS9.out.below hBm
     clear hBm
     have hw32 : IntKind.u32.wrap ((m : Int) * 64) = (m : Int) * 64 := IntWalk.u32_in _ (by omega)
     by_cases hlt : (m : Int) * 64 < x.size
     · obtain ⟨d1, d2⟩ := HD.out _ HBM.out
       have hw64 : IntKind.i64.wrap ((m : Int) * 64) = (m : Int) * 64 := IntWalk.i64_in _ (by omega)
       have hm36 : m < 36 := by omega
       go_wp2_with (go_at_call 20; first
        | (with_reducible refine (t_readP i (m : Int) wr (HT1'.out.below HBM.out) HU.out HOK.out).mono ?_
           rintro e w8 ⟨rfl, hb8⟩
           have hb8' := ptrans HBM.out hb8
           have HB8 := Lib.hid hb8'
           have HB8' := Lib.hid hb8
           obtain ⟨d3, d4⟩ := HD.out _ hb8'
           clear hb8 hb8' d1 d2)
        | (with_reducible refine (t_readP i (m : Int) w8 (HT2'.out.below HB8.out) HU.out HOK.out).mono ?_
           rintro e w9 ⟨rfl, hb9⟩
           have HB9 := Lib.hid (ptrans HB8'.out hb9)
           clear hb9 d3 d4))
       go_roundw
       case rel => exact ⟨m + 1, by go_num, by omega, ptrans HBM7.out HB9.out⟩
       case measure => simp [intOf]; omega
     · go_wp2
       go_roundw
       case rel => exact ⟨k + 1, by go_num, by omega, HBM.out⟩
       case measure => simp [intOf]; omega
end
end Go.Proofs.YtogljgiefmfafaaGreat
