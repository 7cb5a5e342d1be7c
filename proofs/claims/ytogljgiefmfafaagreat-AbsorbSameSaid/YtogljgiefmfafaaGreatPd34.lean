/- AbsorbSame is proved: for every row of records and every room, the statement's Go function returns true, and its arguments read as they did. No condition. -/
import Derived.Test.YtogljgiefmfafaaGreatPd27
import Derived.Test.YtogljgiefmfafaaGreatPd33
namespace Go.Proofs.YtogljgiefmfafaaGreat
open Go.RowKit Go.Maps
section
variable {w : World} {Ad : Option Addr} {n B : Nat} {l : List R}
theorem recs_agree {rs : List A.R} (h : RecsAt w Ad l) (hn : l.length = n) (g : A.Recs w B Ad n rs) : rs = l.map toA := by
 refine List.ext_getElem? fun k => ?_
 by_cases hk : k < n
 · obtain ⟨b, o, r, hA, _, hr, hat, _⟩ := g.get hk
   have hx := rAt_at (l := l) (k := k) (by omega)
   obtain ⟨b', o', hA', _, hc⟩ := h.at_ (fun e => by rw [e] at hx; simp at hx)
   rw [hA] at hA'
   cases hA'
   rw [hr, map_rAt (by omega)]
   have f := hc k _ hx
   have r0 := f 0 (.int .u64 (rAt l k).stamp) rfl
   rw [Nat.add_zero] at r0
   have e0 := r0.symm.trans hat.c0
   have e1 := (f 1 (.int .u8 (rAt l k).act) rfl).symm.trans hat.c1
   have e2 := (f 2 (.int .u32 (rAt l k).dir) rfl).symm.trans hat.c2
   have e3 := (f 3 (.string (rAt l k).name) rfl).symm.trans hat.c3
   have e4 := (f 4 (.int .u32 (rAt l k).ino) rfl).symm.trans hat.c4
   have e5 := (f 5 (.int .u8 (rAt l k).kind) rfl).symm.trans hat.c5
   have e6 := (f 6 (.int .u32 (rAt l k).dir2) rfl).symm.trans hat.c6
   have e7 := (f 7 (.string (rAt l k).name2) rfl).symm.trans hat.c7
   have e8 := (f 8 (.int .u32 (rAt l k).old) rfl).symm.trans hat.c8
   have e9 := (f 9 (.int .u32 (rAt l k).size) rfl).symm.trans hat.c9
   have e10 := (f 10 (.int .i64 (rAt l k).page) rfl).symm.trans hat.c10
   have e11 := (f 11 (.string (rAt l k).data) rfl).symm.trans hat.c11
   simp only [Option.some.injEq, Value.int.injEq, Value.string.injEq, true_and] at e0 e1 e2 e3 e4 e5 e6 e7 e8 e9 e10 e11
   unfold toA
   rw [e0, e1, e2, e3, e4, e5, e6, e7, e8, e9, e10, e11]
 · rw [List.getElem?_eq_none (by rw [g.len]; omega), List.getElem?_eq_none (by rw [List.length_map]; omega)]
theorem flat_toA (l : List R) : A.recCells (l.map toA) = flatR l := by
 induction l with
 | nil => rfl
 | cons x l ih =>
  unfold A.recCells flatR at ih ⊢
  rw [List.map_cons, List.flatMap_cons, List.flatMap_cons, ih]
  rfl
theorem held1_new (n : Int) : Held1 (newT n) := by
 intro j x hx hk
 unfold newT PT.set at hx
 simp only at hx
 split at hx
 · cases hx
   cases hk
 · cases hx
theorem below_drewN (w : World) (B k : Nat) : Below B w (w.drewN k) := A.bdn (Below.refl _ w) k
theorem own_own {B P P2 N N2 : Nat} {w1 w w' : World} {t t2 : PT} (h : Own B w1 P N t w) (g : Own w.heap.size w P2 N2 t2 w') : Pair B w1 P P2 (max N N2) t t2 w' := by
 obtain ⟨y, F, hT, hW, hF, hs, hB⟩ := h
 obtain ⟨y2, F2, hT2, hW2, hF2, hs2, hb⟩ := g
 refine ⟨y, F, y2, F2, (hT.below hb).mono (by omega), hT2.mono (by omega), hW, hW2, hF, fun b hb2 => Nat.le_trans hs (hF2 b hb2), fun b hb1 hb2 => ?_, Nat.le_trans hs hb.size, hB.trans (below_own hb hs)⟩
 have := hT.lt b hb1
 have := hF2 b hb2
 omega
end
set_option maxRecDepth 100000 in
set_option maxHeartbeats 16000000 in
theorem t_absorbSame (m : Int) (hm : 0 ≤ m ∧ m ≤ 255) (Ad : Option Addr) (c n : Nat) (l : List R) (w : World) (hl : RecsAt w Ad l) (hg : A.Recs w w.heap.size Ad n (l.map toA)) (hn : l.length = n) (hn2 : n ≤ maxLen) :
  Calls Tryz.prog 3 #[.int .u8 m, .slice Ad n c] w fun e w' => e = .returned (.bool true) ∧ Below w.heap.size w w' := by
 have hlo : ∀ W, Below w.heap.size w W → Calls Tryz.prog 7 #[.slice Ad n c] W fun e w' => ∃ b : Bool, e = .returned (.bool b) ∧ (b = false → n ≤ 60) ∧ Below w.heap.size w w' := fun W hb =>
  (A.long_any Ad n c W.heap.size _ W (hg.below hb (Nat.le_refl _) hb.size) hn2).mono fun e w' ⟨he, k, hk⟩ => by
   refine ⟨_, he, fun hf => ?_, hk ▸ hb.trans (below_drewN W _ k)⟩
   unfold A.longB at hf
   simp only [Bool.or_eq_false_iff, decide_eq_false_iff_not, List.length_map] at hf
   omega
 have HLo := Lib.hid hlo
 have HL := Lib.hid hl
 have HG := Lib.hid hg
 have HN := Lib.hid hn
 obtain ⟨q, hq⟩ : ∃ q : Nat, (2 : Int) + m % 30 = (q : Int) := ⟨(2 + m % 30).toNat, by omega⟩
 have hq1 : 2 ≤ q := by omega
 have hq2 : q ≤ 31 := by omega
 have hqw : IntKind.i64.wrap ((2 : Int) + m % 30) = (q : Int) := by rw [hq]; exact IntWalk.i64_in _ (by omega)
 have HQ := Lib.hid hq
 clear hl hg hlo hn hn2 hq
 by_cases hrun : ∃ u, runA (newT (q : Int)) l = some u
 · obtain ⟨u, hu⟩ := hrun
   have hwn : WellP (newT (q : Int)) := WellP.new q (by omega) (by omega)
   obtain ⟨l', hl1, hl2, hl3⟩ := absorb_same hwn (held1_new _) (fun r hr => (HL.out.ok r hr).1) hu
   obtain ⟨n1, hn1⟩ : ∃ n1, l'.length = n1 := ⟨_, rfl⟩
   have hle : n1 ≤ n := by
    have h1 := A.leftOf_le (l.map toA)
    rw [List.length_map] at h1
    have h2 : (A.ofOf (l.map toA)).length = (A.leftOf (l.map toA)).length := A.ofOf_length _
    rw [hl1, List.length_map] at h2
    have := HN.out
    omega
   have hok2 : ∀ r ∈ l', RecOk r := fun r hr => by
    have h1 : toA r ∈ A.ofOf (l.map toA) := by rw [hl1]; exact List.mem_map_of_mem hr
    have h2 := A.pick_ok HG.out.ok (A.leftOf (l.map toA)) _ h1
    have b1 : r.name.size ≤ 140737488355328 := h2.name
    have b2 : r.name2.size ≤ 140737488355328 := h2.name2
    have b3 : r.data.size ≤ 140737488355328 := h2.data
    exact ⟨hl2 r hr, by unfold maxLen; omega, by unfold maxLen; omega, by unfold maxLen; omega⟩
   have hof : ∀ W, Below w.heap.size w W → n ≤ 60 → Calls Tryz.prog 11 #[.slice Ad n c] W fun e w' => ∃ A2 c2, e = .returned (.slice A2 n1 c2) ∧ RecsAt w' A2 l' ∧ Below W.heap.size W w' := fun W hb h60 =>
    (A.of_any Ad n c W.heap.size _ W (HG.out.below hb (Nat.le_refl _) hb.size) (Nat.le_refl _) (by omega)).mono fun e w' ⟨v, he, hr, hb2⟩ => by
     rw [hl1, List.length_map, hn1, flat_toA] at hr
     obtain ⟨A2, c2, rfl⟩ := row_slice hr
     exact ⟨A2, c2, he, recs_of_row hr hn1 hok2, hb2⟩
   have HU1 := Lib.hid hu
   have HV1 := Lib.hid hl3
   have HN1 := Lib.hid hn1
   have HOf := Lib.hid hof
   clear hu hwn hl1 hl2 hl3 hn1 hok2 hof
   go_enter Tryz.func3, Tryz.ntmps3
   go_wp2_with (first
    | (go_at_call 7; (with_reducible refine (HLo.out _ (Below.refl _ w)).mono ?_); rintro e w2 ⟨b, rfl, hb, hbb⟩; have HB1 := Lib.hid hbb; have HBL := Lib.hid hb; clear hb hbb; cases b)
    | (go_at_call 9; with_reducible refine (A.lawAlive_any _).mono ?_; rintro e w9 ⟨rfl, hb⟩; have H9 := Lib.hid hb; clear hb)
    | (go_at_call 8; (with_reducible refine (t_plays24 q hq1 (by omega) Ad n c l _ (HL.out.below HB1.out) HN.out (by have := HBL.out (by simp); omega)).mono ?_); rintro e w3 hq; obtain ⟨bp, rfl, hr, hb⟩ := hq.get; have HB2 := Lib.hid (ptrans HB1.out hb); clear hr hb; cases bp)
    | (go_at_call 10; first
     | (with_reducible refine (t_played24 q hq1 (by omega) Ad n c l u w3 (HL.out.below HB2.out) HN.out (by have := HBL.out (by simp); omega) HU1.out).mono ?_; rintro e w4 ⟨P, rfl, hb⟩; have J0 := Lib.hid hb; clear hb)
     | (with_reducible refine (t_played24 q hq1 (by omega) A2 n1 c2 l' u w5 HR5.out HN1.out (by have := HBL.out (by simp); omega) HV1.out).mono ?_; rintro e w6 ⟨P2, rfl, hb⟩; have J2 := Lib.hid (own_own (Own.below J0.out HB5.out) hb); clear hb))
    | (go_at_call 11; (with_reducible refine (HOf.out _ (ptrans HB2.out J0.out.mem) (HBL.out (by simp))).mono ?_); rintro e w5 ⟨A2, c2, rfl, hr, hb⟩; have HR5 := Lib.hid hr; have HB5 := Lib.hid hb; clear hr hb)
    | (go_at_call 12; with_reducible refine (pair_alike J2.out (by have := HBL.out (by simp); omega)).mono ?_; rintro e w7 ⟨rfl, hb⟩; have J3 := Lib.hid hb; clear hb))
   all_goals first
    | (go_ret; exact ⟨rfl, ptrans (ptrans HB2.out J3.out.mem) H9.out⟩; done)
    | (go_ret; exact ⟨rfl, ptrans HB2.out H9.out⟩; done)
    | (go_ret; exact ⟨rfl, ptrans HB1.out H9.out⟩; done)
 · have HNo : Hid (¬ ∃ u, runA (newT (q : Int)) l = some u) := hrun
   clear hrun
   go_enter Tryz.func3, Tryz.ntmps3
   go_wp2_with (first
    | (go_at_call 7; (with_reducible refine (HLo.out _ (Below.refl _ w)).mono ?_); rintro e w2 ⟨b, rfl, hb, hbb⟩; have HB1 := Lib.hid hbb; have HBL := Lib.hid hb; clear hb hbb; cases b)
    | (go_at_call 9; with_reducible refine (A.lawAlive_any _).mono ?_; rintro e w9 ⟨rfl, hb⟩; have H9 := Lib.hid hb; clear hb)
    | (go_at_call 8; (with_reducible refine (t_plays24 q hq1 (by omega) Ad n c l _ (HL.out.below HB1.out) HN.out (by have := HBL.out (by simp); omega)).mono ?_); rintro e w3 hq; obtain ⟨bp, rfl, hr, hb⟩ := hq.get; have HB2 := Lib.hid (ptrans HB1.out hb); have HR3 := Lib.hid hr; clear hr hb; cases bp; rotate_left; exact absurd (HR3.out (by simp)) HNo.out))
   all_goals first
    | (go_ret; exact ⟨rfl, ptrans HB2.out H9.out⟩; done)
    | (go_ret; exact ⟨rfl, ptrans HB1.out H9.out⟩; done)
open Go.ChangeShapes Go.WideShapes Go.ChangeAt
set_option maxRecDepth 100000 in
theorem lifted_absorbSame (os : Os) (started : os.Started) (H : Type) (enc : TypeId × Value → H) :
  ReturnsInHanded {} Tryz.checked os 3 .any (Rows.absorbSameSpec.pre6 enc Tryz.prog Tryz.f3 Rows.absorbSameRow.domain false) (Rows.absorbSameSpec.post enc Tryz.prog Tryz.f3 false true false false) := by
 refine returnsInHanded_of_change_sized (C := Tryz.checked) own started (by kernel_rfl) Tryz.func3
  (ChangeSpec.witness6 (enc := enc) (C := Tryz.checked) false ⟨#[], #[.int .u8 0, .slice none 0 0], []⟩ 8 (by kernel_rfl) (by kernel_rfl) (by kernel_rfl) (by kernel_rfl)) ?_
 intro W base args ds gs before hval0 hW _ hsz0 _
 have hval : ∀ (j : Nat) t v, Tryz.f3.params[j]? = some t → args[j]? = some v → Value.okWide Tryz.prog W .any base t v := hval0
 have hW' := hW
 obtain ⟨p, q, hA0, hV, rfl, _, _⟩ := hW
 have hA : DataW.TrodAll enc Tryz.prog W 0 (fun _ => true) true Tryz.f3.params.toList args.toList ds p := hA0
 have hsz : (DataW.weightsEach Tryz.prog (Tryz.f3.params.toList ++ Rows.absorbSameSpec.plain.varTypes Tryz.prog) (ds ++ gs)).all (· ≤ reachBytes) = true := hsz0
 rw [Tryz.params3] at hA hval hsz
 obtain ⟨v0, v1, d0, d1, p0, p1, rfl, rfl, rfl, h0, h1⟩ := trodAll_two hA
 obtain ⟨rfl, rfl⟩ := trodVars_none hV
 have hz1 : ∀ m, m ∈ d1.weights Tryz.prog 22 → m ≤ reachBytes := fun m hm => by
  have := List.all_eq_true.1 hsz m (DataW.weights_mem_each (j := 1) (t := 22) (d := d1) rfl rfl m hm); simpa using this
 obtain ⟨m, rfl, rfl, rfl, wm⟩ := open_int Tryz.underlying5 (hval 0 5 v0 rfl rfl) h0
 have hm : 0 ≤ m ∧ m ≤ 255 := by simpa [Lit.wf, IntKind.min, IntKind.max, IntKind.signed, IntKind.bits] using wm
 obtain ⟨Ad, n, c, l, rfl, k1, k2, k3, k4⟩ := recs_of (okWide_slice Tryz.underlying22 (hval 1 22 v1 rfl rfl)) h1
 obtain ⟨Ad', n', c', rs, he, hn', hs⟩ := A.recs_of (okWide_slice Tryz.underlying22 (hval 1 22 _ rfl rfl)) h1 hz1
 cases he
 have hag := recs_agree k4 k3 hs
 subst hag
 refine (t_absorbSame m hm Ad c n l W k4 hs k3 k2).mono fun e W' ⟨he, hb⟩ => ?_
 exact ⟨_, he, law_post laidOut (by kernel_rfl) rfl (by kernel_rfl) Tryz.underlying4 hW' rfl hb⟩
theorem absorbSame_holds : Rows.AbsorbSameSaid :=
 OpenClaim.holds_of_wide 3 Tryz.f3 rfl rfl rfl rfl rfl rfl rfl ⟨rfl, rfl, rfl, rfl, rfl⟩ rfl rfl rfl rfl rfl (by kernel_rfl) Tryz.func3 (by kernel_rfl)
  (of_decide_eq_true (by kernel_rfl)) (by unfold Func.isWrapper; first | (rw [if_pos (by decide +kernel)]; kernel_rfl) | (rw [if_neg (by decide +kernel)]; exact ⟨rfl, rfl⟩))
  (fun os started H enc _ => lifted_absorbSame os started H enc)
#print axioms absorbSame_holds
end Go.Proofs.YtogljgiefmfafaaGreat
