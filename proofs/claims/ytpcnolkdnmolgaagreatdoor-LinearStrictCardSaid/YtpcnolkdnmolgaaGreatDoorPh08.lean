/- The program's tree: Resize. -/
import Derived.Test.YtpcnolkdnmolgaaGreatDoorPh03
import Derived.Test.YtpcnolkdnmolgaaGreatDoorPh07
namespace Go.Proofs.YtpcnolkdnmolgaaGreatDoor
section
open Go.RowKit Go.Maps
def cutB (n : Nat) (b : List UInt8) : List UInt8 := b.take n ++ List.replicate (64 - n) 0
def cutP (n : Int) (m : Int → Option (List UInt8)) : Int → Option (List UInt8) := fun k => match m k with
 | none => none
 | some b => if n - k * 64 ≤ 0 then none else if n - k * 64 < 64 then some (cutB (n - k * 64).toNat b) else some b
def resizeE (t : PT) (i n : Int) : Int := firstE [thereE t [i], fileE' t i, sizedE n]
def resizeT (t : PT) (i n : Int) : PT := match t.n i with
 | some x => t.set i { x with pages := cutP n x.pages, size := n }
 | none => t
def resizeP (t : PT) (i n : Int) : Int × PT := if resizeE t i n = 0 then (0, resizeT t i n) else (resizeE t i n, t)
theorem PageAt.clear {w : World} {B : Nat} {b : List UInt8} (h : PageAt w B b) (hb : b.length = 64) (n : Nat) (hn : n < 64) : ∃ w', (∀ ty, (Builtin.clear_ #[168] ty #[.slice (some ⟨B, n, none⟩) (64 - n) (64 - n)]).run Tryz.prog w = .ok (.tuple #[]) w') ∧ PageAt w' B (cutB n b) ∧ w.grownBy w' (some B) := by
 refine ⟨w.setCells B n (List.replicate (64 - n) (.int .u8 0)), fun ty => ?_, ⟨fun j v hv => ?_, World.there_setCells h.there B n _⟩, grown_setCells B _ n w⟩
 · exact Lib.run_clear_slice w 168 5 ty (.int .u8 0) Tryz.underlying168 (fun w => by kernel_rfl) rfl rfl B n (64 - n) (64 - n) (by omega) (fun j hj => by have := (h.there (n + j) (by omega)).1; rwa [Nat.zero_add] at this) (fun j hj => by have := (h.there (n + j) (by omega)).2; rwa [Nat.zero_add] at this)
 · have hv' := hv
   unfold cutB at hv'
   rw [List.map_append] at hv'
   by_cases hj : j < n
   · rw [World.cell?_setCells_out B _ n w ⟨B, 0 + j, none⟩ (fun _ _ => .inl (by show 0 + j < n; omega))]
     refine h.range j v ?_
     rw [List.getElem?_append_left (by rw [List.length_map, List.length_take]; omega), List.map_take, List.getElem?_take, if_pos hj] at hv'
     exact hv'
   · rw [List.getElem?_append_right (by rw [List.length_map, List.length_take]; omega), List.length_map, List.length_take, List.map_replicate] at hv'
     have hjl : j - n < 64 - n := by
      have := (List.getElem?_eq_some_iff.1 hv').1
      rw [List.length_replicate, Nat.min_eq_left (by omega)] at this
      exact this
     have hin := World.cell?_setCells_in B (List.replicate (64 - n) (.int .u8 0)) n w (fun i hi => by
      have := (h.there (n + i) (by rw [List.length_replicate] at hi; omega)).1
      rwa [Nat.zero_add] at this) (j - n) (by rw [List.length_replicate]; exact hjl)
     rw [show n + (j - n) = 0 + j by omega] at hin
     rw [hin]
     rw [Nat.min_eq_left (by omega), List.getElem?_replicate, if_pos hjl] at hv'
     rw [List.getElem_replicate, ← hv']
     rfl
theorem cutB_length {b : List UInt8} {n : Nat} (hb : b.length = 64) (hn : n ≤ 64) : (cutB n b).length = 64 := by unfold cutB; simp [hb]; omega
section
variable {F : Nat → Prop} {P N : Nat} {y : Lay} {t : PT}
theorem wpList_next_R {ops : Array Oper} {rest : List Oper} {o : Oper} {a : Act} {w : World} {Q : Exit → Act → World → Prop} {b r n cnt : Nat} {cur : Int → Option (List UInt8)} {left : Lit → Bool} (hg : o.guard = none) (it : Operand) (hop : o.op = Op.next it false)
  (hit : a.eval it = .pointer (some ⟨r, 0, none⟩)) (h : RangeAt w Tryz.prog 3 b r n (pagesM cur) left cnt)
  (hDone : (∀ kl, left kl = false) → wpList Tryz.prog ops Q rest (a.put o.dst (.tuple #[.bool false])) w)
  (hMore : ∀ (k : Int) (bb : List UInt8) (w' : World) (cnt' : Nat), left (.int .i64 k) = true → cur k = some bb → RangeAt w' Tryz.prog 3 b r n (pagesM cur) (fun x => left x && !x.sameKey (.int .i64 k)) cnt' → cnt' < cnt → w.grownBy w' (some r) → w'.heap.size = w.heap.size →
   (Instr.entry (.pointer (some ⟨r, 0, none⟩))).run Tryz.prog w' = .ok (.tuple #[.int .i64 k, pageV bb]) w' → wpList Tryz.prog ops Q rest (a.put o.dst (.tuple #[.bool true, .int .i64 k, pageV bb])) w') :
  wpList Tryz.prog ops Q (o :: rest) a w := by
 refine wpList_plain hg fun K' hK' => ?_
 unfold Oper.wp
 rcases h.next law64 o.type with ⟨h0, hl, hrun⟩ | ⟨key, v, kl, w', cnt', hkey, hlk, hv, hrun, hrg, hlt, hgr, hsz, hen⟩
 · simp [execOp, hop, hit, hrun, Result.andThen]
   exact hK' _ _ (hDone hl)
 · obtain ⟨k, rfl, rfl, _⟩ := Maps.keyOf_int_inv Tryz.underlying3 hkey
   obtain ⟨bb, hbb, rfl⟩ : ∃ bb, cur k = some bb ∧ v = pageV bb := by
    unfold pagesM at hv
    simp only [Option.map_eq_some_iff] at hv
    obtain ⟨bb, h1, h2⟩ := hv
    exact ⟨bb, h1, h2.symm⟩
   simp [execOp, hop, hit, hrun, Result.andThen]
   exact hK' _ _ (hMore k bb w' cnt' hlk hbb hrg hlt hgr hsz hen)
def ResAt (w : World) (F : Nat → Prop) (P N : Nat) (y : Lay) (t : PT) (i : Int) (x : PN) (n : Int) (RB : Nat) (wr : World) : Prop :=
 ∃ left cnt cur, RangeAt wr Tryz.prog 3 (y.G i) RB N (pagesM cur) left cnt ∧ (∀ k, cur k = if left (.int .i64 k) = true then x.pages k else cutP n x.pages k) ∧ TreeM wr F P N y (t.set i { x with pages := cur }) ∧ Turn w wr F F ∧ wr.cell? ⟨w.heap.size, 0, none⟩ = some (.int .u32 n)
structure ResK (w : World) (F : Nat → Prop) (P N : Nat) (y : Lay) (t : PT) (i : Int) (x : PN) (n : Int) (RB : Nat) (k : Int) (left : Lit → Bool) (cnt : Nat) (cur : Int → Option (List UInt8)) (W : World) : Prop where
 rng : RangeAt W Tryz.prog 3 (y.G i) RB N (pagesM cur) (fun z => left z && !z.sameKey (.int .i64 k)) cnt
 tree : TreeM W F P N y (t.set i { x with pages := cur })
 turn : Turn w W F F
 box : W.cell? ⟨w.heap.size, 0, none⟩ = some (.int .u32 n)
theorem ResK.below {w W W' : World} {i : Int} {x : PN} {n : Int} {RB : Nat} {k : Int} {left : Lit → Bool} {cnt : Nat} {cur : Int → Option (List UInt8)} (h : ResK w F P N y t i x n RB k left cnt cur W) (hb : Below W.heap.size W W') : ResK w F P N y t i x n RB k left cnt cur W' :=
 ⟨h.rng.below hb, h.tree.below hb, h.turn.trans (Turn.of_below F hb), box_at hb h.box⟩
theorem res_left {left : Lit → Bool} {k j : Int} : (left (.int .i64 j) && !(Lit.int .i64 j).sameKey (.int .i64 k)) = (left (.int .i64 j) && !decide (j = k)) := by
 by_cases h : j = k
 · subst h; simp [Lit.sameKey]
 · simp [Lit.sameKey, h]
section
variable {w W : World} {i : Int} {x : PN} {n : Int} {RB : Nat} {k : Int} {left : Lit → Bool} {cnt : Nat} {cur : Int → Option (List UInt8)}
theorem res_keep (h : ResK w F P N y t i x n RB k left cnt cur W) (hcur : ∀ j, cur j = if left (.int .i64 j) = true then x.pages j else cutP n x.pages j) (hk : cur k = cutP n x.pages k) :
  ResAt w F P N y t i x n RB W ∧ W.rangeLeft (y.G i) RB = cnt := by
 refine ⟨⟨_, _, cur, h.rng, fun j => ?_, h.tree, h.turn, h.box⟩, h.rng.left_eq⟩
 rw [res_left]
 by_cases hj : j = k
 · subst hj; simp [hk]
 · simp [hj]; exact hcur j
theorem res_del (h : ResK w F P N y t i x n RB k left cnt cur W) (hk0 : -9223372036854775808 ≤ k ∧ k ≤ 9223372036854775807) (hcur : ∀ j, cur j = if left (.int .i64 j) = true then x.pages j else cutP n x.pages j) (hk : cutP n x.pages k = none) (hnF : ¬ F w.heap.size) :
  ∃ W', (∀ ty, (Builtin.delete_ #[113, 3] ty #[.map (some (y.G i)), .int .i64 k]).run Tryz.prog W = .ok (.tuple #[]) W') ∧ ResAt w F P N y t i x n RB W' ∧ W'.rangeLeft (y.G i) RB ≤ cnt := by
 obtain ⟨W', cnt', hrun, hrg, hle, ht⟩ := h.rng.drop law64 Tryz.underlying113 (pkey64 hk0) 0
 have hi : (t.set i { x with pages := cur }).n i = some { x with pages := cur } := by rw [PT.set_n, if_pos rfl]
 have hrg' := hrg.congr (pagesM_del cur k)
 obtain ⟨hT, hU⟩ := h.tree.pages_ (Nat.le_refl N) hi hrg'.owns ht
 rw [PT.set_set] at hT
 refine ⟨W', fun ty => hrun, ⟨_, _, delP cur k, hrg', fun j => ?_, hT, h.turn.trans hU, hU.cell hnF h.box⟩, by rw [hrg'.left_eq]; exact hle⟩
 show delP cur k j = if ((left (.int .i64 j) && !(Lit.int .i64 j).sameKey (.int .i64 k)) && !(Lit.int .i64 j).sameKey (.int .i64 k)) = true then _ else _
 by_cases hj : j = k
 · subst hj; simp [delP, Lit.sameKey, hk]
 · simp [delP, hj, Lit.sameKey]; exact hcur j
theorem res_put (h : ResK w F P N y t i x n RB k left cnt cur W) (hk0 : -9223372036854775808 ≤ k ∧ k ≤ 9223372036854775807) (hN : N < 1000000) (hcur : ∀ j, cur j = if left (.int .i64 j) = true then x.pages j else cutP n x.pages j) (hc : (cur k).isSome = true) {b : List UInt8} (hk : cutP n x.pages k = some b) (hnF : ¬ F w.heap.size) :
  ∃ W', (Instr.mapUpdate 113 (.map (some (y.G i))) (.int .i64 k) (pageV b)).run Tryz.prog W = .ok () W' ∧ ResAt w F P N y t i x n RB W' ∧ W'.rangeLeft (y.G i) RB ≤ cnt := by
 obtain ⟨W', hrun, hrg, ht⟩ := h.rng.store law64 Tryz.underlying113 (by unfold maxLen; omega) (val := pageV b) (pkey64 hk0) (by simp [pagesM]; exact hc)
 have hi : (t.set i { x with pages := cur }).n i = some { x with pages := cur } := by rw [PT.set_n, if_pos rfl]
 have hrg' := hrg.congr (pagesM_upd cur k b)
 obtain ⟨hT, hU⟩ := h.tree.pages_ (Nat.le_refl N) hi hrg'.owns ht
 rw [PT.set_set] at hT
 refine ⟨W', hrun, ⟨_, _, updP cur k b, hrg', fun j => ?_, hT, h.turn.trans hU, hU.cell hnF h.box⟩, by rw [hrg'.left_eq]; exact Nat.le_refl _⟩
 rw [res_left]
 by_cases hj : j = k
 · subst hj; simp [updP, hk]
 · simp [updP, hj]; exact hcur j
end
theorem Turn.grow {w wr w1 : World} {F F' : Nat → Prop} {r : Nat} (h : Turn w wr F F') (hg : wr.grownBy w1 (some r)) (hr : w.heap.size ≤ r) : Turn w w1 F F' :=
 ⟨hg.os.trans h.os, hg.tape.trans h.tape, hg.output.trans h.output, Nat.le_trans h.size hg.size, fun b hb hF => (hg.block b (Nat.lt_of_lt_of_le hb h.size) (fun e => by injection e with e; omega)).trans (h.block b hb hF), h.foot⟩
theorem PT.set_same {i : Int} {x : PN} (hx : t.n i = some x) : t.set i { x with pages := x.pages } = t := by
 unfold PT.set
 cases t with | mk room n =>
 congr 1
 funext j
 by_cases hj : j = i
 · subst hj; simp; exact hx.symm
 · simp [hj]
set_option maxRecDepth 100000 in
set_option maxHeartbeats 2000000 in
theorem t_resizeP (i n r : Int) (t' : PT) (hr : resizeP t i n = (r, t')) (w : World) (h : TreeM w F P N y t) (hN : N < 900000) (hi : U32 i) (hn0 : 0 ≤ n) (hok : ∀ x, t.n i = some x → PagesOk x) :
  Calls Tryz.prog 112 #[.pointer (some ⟨P, 0, none⟩), .int .u32 i, .int .u32 n] w fun e w' => e = .returned (.int .i64 r) ∧ TreeM w' F P N y t' ∧ Turn w w' F F := by
 have HTh := zz (there_later h i hi)
 have HFl := zz (file_later h i)
 have HT := zz h
 obtain ⟨q, hq⟩ : ∃ q, resizeE t i n = q := ⟨_, rfl⟩
 have HE : Hid (firstE [thereE t [i], fileE' t i, sizedE n] = q) := hq
 by_cases hz : q = 0
 · subst hz
   have hz := HE.out
   obtain ⟨z1, hz⟩ := firstE_cons hz
   obtain ⟨z2, hz⟩ := firstE_cons hz
   obtain ⟨z3, hz⟩ := firstE_cons hz
   obtain ⟨x, hx⟩ := Option.isSome_iff_exists.1 (there_one z1)
   have hn1 : n ≤ 2304 := by
    unfold sizedE at z3
    by_cases a : 2304 < n
    · rw [if_pos a] at z3; cases z3
    · omega
   have HK := zz (hok x hx)
   have HX := zz hx
   have HP : Hid (r = 0 ∧ t' = t.set i { x with pages := cutP n x.pages, size := n }) := by
    unfold resizeP resizeT at hr
    rw [if_pos hq, hx] at hr
    injection hr with a b
    exact ⟨a.symm, b.symm⟩
   have HN := zz hN
   clear h hi hok hr z1 z2 z3 hz hx hq hN
   go_enter Tryz.func112, Tryz.ntmps112
   go_wp2_with (first
    | (go_at_call 81; (with_reducible refine (HTh.out _ _ _ (below_a2 w _ _) (SliceAt.built' _ [.int .u32 i] _ (w.heap.size + 1) (by simp))).mono ?_); rintro e w1 hq; obtain ⟨g1, l1, rfl, hq1, hb1⟩ := hq.get
       have HB0 : Hid (w1.cell? ⟨w.heap.size, 0, none⟩ = some (.int .u32 n)) := box_at hb1 (two_at w _ _ _)
       have HQ1 := zz hq1; have HB1 := zz (ptrans (below_a2 w _ _) hb1); clear hq hq1 hb1)
    | (go_at_call 89; (with_reducible refine (HFl.out _ HB1.out).mono ?_); rintro e w2 ⟨g2, l2, rfl, hq2, hb2⟩; have HQ2 := zz hq2; have HB2 := zz (ptrans HB1.out hb2); have HQ1' := zz (HQ1.out.later hb2); have HB0' := zz (box_at hb2 HB0.out); clear hq2 hb2)
    | (go_at_call 80; (with_reducible refine (check_built w2 P [.func (.func g1) #[] l1, .func (.func g2) #[] l2, .func (.func 187) #[] #[.pointer (some ⟨w.heap.size, 0, none⟩)]] 3 [thereE t [i], fileE' t i, sizedE n] 0 HE.out _ rfl (by omega) (asked3 HQ1'.out HQ2.out (q_resize rfl (World.block_lt_of_cell? _ _ HB0'.out) HB0'.out)) (by simp)).mono ?_); rintro e w4 ⟨rfl, hb4⟩
       have hb : Below w.heap.size w w4 := ptrans (ptrans HB2.out (below_a1 _ _)) hb4
       have k5 : w4.cell? ⟨w.heap.size, 0, none⟩ = some (.int .u32 n) := box_at hb4 (box_old _ HB0'.out)
       have hT := HT.out.below hb
       have c1 := hT.c1
       have hlk := hT.look_some HX.out
       have n4 : w4.cell? ⟨y.f i, 4, none⟩ = some (.map (some (y.G i))) := (hT.node i x HX.out).cell 4
       obtain ⟨w5, lft, ct, hrng, hRg, hlf, hb5, hs5⟩ := (hT.node i x HX.out).pages.range law64 Tryz.underlying113
       have HB := zz hb
       have HT4 := zz hT
       have HRg := zz hRg
       have HLf := zz hlf
       have HB5 := zz hb5
       have h5l : w.heap.size < w4.heap.size := World.block_lt_of_cell? _ _ k5
       clear hb hb4 hT hRg hlf hb5 HQ1 HQ2 HQ1' HB1 HB2 HB0 HB0'))
   have hmono := HT4.out.lt
   obtain ⟨RB, hRB⟩ : ∃ RB, w4.heap.size = RB := ⟨_, rfl⟩
   rw [hRB] at HRg ⊢
   have hwR : w.heap.size < RB := by omega
   have hFR : Hid (¬ F RB) := fun hh => by have := HT.out.lt _ hh; omega
   have hFB : Hid (¬ F w.heap.size) := fun hh => by have := HT.out.lt _ hh; omega
   have hstart : ResAt w F P N y t i x n RB w5 := ⟨lft, ct, x.pages, HRg.out, fun k => by split <;> first | rfl | (rename_i hk; rw [HLf.out (.int .i64 k) (show WideAt.IsKeyLit (Lit.int .i64 k) from trivial)] at hk; unfold cutP; simp only [pagesM, Option.isSome_map, Bool.not_eq_true, Option.isSome_eq_false_iff, Option.isNone_iff_eq_none] at hk; rw [hk]),
    by rw [PT.set_same HX.out]; exact HT4.out.below HB5.out, (Turn.of_below F (ptrans HB.out HB5.out)), box_at HB5.out k5⟩
   have HSt := zz hstart
   clear hstart hrng c1 hlk n4 k5 HRg HLf hmono hs5 hRB HB5
   go_loopw [] (fun wr => ResAt w F P N y t i x n RB wr) (fun wr => wr.rangeLeft (y.G i) RB)
   case atStart => exact HSt.out
   case round =>
    obtain ⟨left, cnt, cur, hrg, hcur, hTr, hTu, hbx⟩ := hrel
    have HRg := zz hrg
    have HCu := zz hcur
    have HTr := zz hTr
    have HTu := zz hTu
    have HBx := zz hbx
    clear hcur hTr hTu hbx
    go_wp2_with (at_next; refine wpList_next_R rfl _ rfl rfl hrg ?_ ?_)
    · intro hdone
      have hall : cur = cutP n x.pages := by funext j; rw [HCu.out j, hdone]; rfl
      have hTr := HTr.out
      rw [hall] at hTr
      have hi2 : (t.set i { x with pages := cutP n x.pages }).n i = some { x with pages := cutP n x.pages } := by rw [PT.set_n, if_pos rfl]
      have k5 : wr.cell? ⟨w.heap.size, 0, none⟩ = some (.int .u32 n) := HBx.out
      have n2 : wr.cell? ⟨y.f i, 2, none⟩ = some (.int .u32 x.size) := (hTr.node i _ hi2).cell 2
      have nf2 := (hTr.node i _ hi2).frozen 2
      have hTF := hTr.store hi2 2 (.int .u32 n) (x' := { x with pages := cutP n x.pages, size := n }) rfl rfl rfl
      rw [PT.set_set] at hTF
      have HTF := zz hTF
      have HUF := zz (HTu.out.trans (turn_store F wr (y.f i) 2 (.int .u32 n) (hTr.foot_f hi2)))
      clear hdone hall hTr hi2 hTF hrg
      go_wp2
      go_ret
      obtain ⟨rfl, rfl⟩ := HP.out
      exact ⟨rfl, HTF.out, HUF.out⟩
    · intro k bb w1 cnt1 hlk hck hrg1 hlt1 hg1 hs1 hen
      have hxk : x.pages k = some bb := by have := HCu.out k; rw [if_pos hlk, hck] at this; exact this.symm
      obtain ⟨hlb, hk1, hk2⟩ := HK.out.len k bb hxk
      have HK1 : Hid (ResK w F P N y t i x n RB k left cnt1 cur w1) :=
       ⟨hrg1, HTr.out.same (fun b hb => hg1.block b (HTr.out.lt b hb) (fun e => hFR.out (by injection e with e; rw [← e]; exact hb))) hg1.size,
        HTu.out.grow hg1 (by omega), hg1.cell HBx.out (fun e => by injection e with e; simp at e; omega)⟩
      have HIs : Hid ((t.set i { x with pages := cur }).n i = some { x with pages := cur }) := by show _ = _; rw [PT.set_n, if_pos rfl]
      have HLb := zz hlb
      have hk0 : -9223372036854775808 ≤ k ∧ k ≤ 9223372036854775807 := ⟨by omega, by omega⟩
      have HLt : Hid (cnt1 < wr.rangeLeft (y.G i) RB) := by rw [hrg.left_eq]; exact hlt1
      have HCs : Hid ((cur k).isSome = true) := by show _ = _; rw [hck]; rfl
      by_cases hA : n - k * 64 ≤ 0
      · have HCut : Hid (cutP n x.pages k = none) := by show _ = _; unfold cutP; rw [hxk]; simp only; rw [if_pos hA]
        clear hlk hck hrg1 hlt1 hg1 hs1 hxk hlb hrg
        go_wp2_with (first
        | ((with_reducible refine wpList_alloc_z 149 z66 zero66 ?_); intro w2 hw2
           have ht2 : w2.there w1.heap.size 0 64 := (by rw [hw2]; exact there_new w1 _)
           have hB2 : Below w1.heap.size w1 w2 := (by rw [hw2]; exact below_a1 _ _)
           obtain ⟨w3, hst, hpa, hg3⟩ := page_store HLb.out ht2
           have hB3 : Below w1.heap.size w1 w3 := below_grown hB2 hg3 (Nat.le_refl _)
           have hK3 := HK1.out.below hB3
           have c5 : w3.cell? ⟨w.heap.size, 0, none⟩ = some (.int .u32 n) := hK3.box
           have n4 : w3.cell? ⟨y.f i, 4, none⟩ = some (.map (some (y.G i))) := (hK3.tree.node i _ HIs.out).cell 4
           obtain ⟨w4, hdel, hR4, hm4⟩ := res_del hK3 hk0 HCu.out HCut.out hFB.out
           have HR4 := zz hR4
           have HM4 := zz hm4
           clear hR4 hm4
           clear hw2 ht2 hB2 hpa hg3 hB3 hK3)
        | (refine wpList_store_run 149 10 41 w3 _ _ rfl rfl hst ?_; clear hst))
        go_roundw
        case rel => exact HR4.out
        case measure => exact Nat.lt_of_le_of_lt HM4.out HLt.out
      · obtain ⟨v, hv⟩ : ∃ v : Nat, n - k * 64 = (v : Int) := ⟨(n - k * 64).toNat, by omega⟩
        by_cases hB : v < 64
        · have HCut : Hid (cutP n x.pages k = some (cutB v bb)) := by
           show _ = _; unfold cutP; rw [hxk]; simp only; rw [if_neg hA, if_pos (by omega), hv]; rfl
          have hv1 : (v : Int) < 64 := by omega
          have hv2 : 0 < (v : Int) := by omega
          have hv3 : (0 : Int) ≤ (v : Int) := by omega
          have hv4 : (v : Int) ≤ 64 := by omega
          have hv5 : ¬ ((v : Int) ≤ 0) := by omega
          clear hlk hck hrg1 hlt1 hg1 hs1 hxk hlb hrg hA
          go_wp2_with (first
          | ((with_reducible refine wpList_alloc_z 149 z66 zero66 ?_); intro w2 hw2
             have ht2 : w2.there w1.heap.size 0 64 := (by rw [hw2]; exact there_new w1 _)
             have hB2 : Below w1.heap.size w1 w2 := (by rw [hw2]; exact below_a1 _ _)
             obtain ⟨w3, hst, hpa, hg3⟩ := page_store HLb.out ht2
             have hB3 : Below w1.heap.size w1 w3 := below_grown hB2 hg3 (Nat.le_refl _)
             have hK3 := HK1.out.below hB3
             have c5 : w3.cell? ⟨w.heap.size, 0, none⟩ = some (.int .u32 n) := hK3.box
             have n4 : w3.cell? ⟨y.f i, 4, none⟩ = some (.map (some (y.G i))) := (hK3.tree.node i _ HIs.out).cell 4
             obtain ⟨w4, hcl, hp4, hg4⟩ := hpa.clear HLb.out v hB
             have HPA := zz hp4
             have HK4 := zz (HK1.out.below (below_grown hB3 hg4 (Nat.le_refl _)))
             clear hp4 hg4
             clear hw2 ht2 hB2 hpa hg3 hB3 hK3)
          | (refine wpList_store_run 149 10 41 w3 _ _ rfl rfl hst ?_; clear hst))
          refine wp_region_front 6 (phi [isV (.pointer (some ⟨y.f i, 0, none⟩)), isV (.pointer (some ⟨y.f i, 0, none⟩)), isV (.pointer (some ⟨y.f i, 4, none⟩)), isV (.map (some (y.G i))), isV (.int .i64 k), isV (pageV (cutB v bb))]) (by kernel_rfl) (by kernel_rfl) (by kernel_rfl) ?_ ?_ ?_
          · refine stays_phi ?_
            simp only [List.forall_mem_cons]
            exact ⟨stays_V _, stays_V _, stays_V _, stays_V _, stays_V _, stays_V _, fun _ h => absurd h (by simp)⟩
          · refine ⟨?_, ?_, ?_, ?_, ?_, ?_, trivial⟩
            · refine op_mk rfl fun a W2 hB hp hq K hK => ?_
              have e8 : a.tmps[8]?.getD undef = .pointer (some ⟨y.f i, 0, none⟩) := hp 8 (by kernel_rfl)
              clear hp hq
              go_simp
              exact hK _ _ (Below.refl _ _) rfl
            · refine op_mk rfl fun a W2 hB hp hq K hK => ?_
              have e60 : a.tmps[60]?.getD undef = .pointer (some ⟨y.f i, 0, none⟩) := hq 0 60 (by kernel_rfl) (by kernel_rfl)
              clear hp hq
              go_simp
              exact hK _ _ (Below.refl _ _) rfl
            · refine op_mk rfl fun a W2 hB hp hq K hK => ?_
              have e61 : a.tmps[61]?.getD undef = .pointer (some ⟨y.f i, 0, none⟩) := hq 1 61 (by kernel_rfl) (by kernel_rfl)
              clear hp hq
              go_simp
              exact hK _ _ (Below.refl _ _) rfl
            · refine op_mk rfl fun a W2 hB hp hq K hK => ?_
              have e62 : a.tmps[62]?.getD undef = .pointer (some ⟨y.f i, 4, none⟩) := hq 2 62 (by kernel_rfl) (by kernel_rfl)
              have cc : W2.cell? ⟨y.f i, 4, none⟩ = some (.map (some (y.G i))) := ((HK4.out.below hB).tree.node i _ HIs.out).cell 4
              clear hp hq
              go_simp
              exact hK _ _ (Below.refl _ _) rfl
            · refine op_mk rfl fun a W2 hB hp hq K hK => ?_
              have e9 : a.tmps[9]?.getD undef = .int .i64 k := hp 9 (by kernel_rfl)
              clear hp hq
              go_simp
              exact hK _ _ (Below.refl _ _) rfl
            · refine op_mk rfl fun a W2 hB hp hq K hK => ?_
              have e10 : a.tmps[10]?.getD undef = .pointer (some ⟨w1.heap.size, 0, none⟩) := hp 10 (by kernel_rfl)
              have hpa := HPA.out.below (hB.block _ HPA.out.lt)
              refine wp_load_mid 149 (.tmp 10) rfl w1.heap.size 0 ((eval_slot a 10).trans e10) _ _ hpa.range Tryz.underlying149 rfl (by rw [List.length_map, cutB_length HLb.out (by omega)]; exact info66) ?_
              exact hK _ _ (Below.refl _ _) rfl
          · intro us W2 hB hv
            have u3 : us 3 = .map (some (y.G i)) := hv 3 (by decide) (by kernel_rfl)
            have u4 : us 4 = .int .i64 k := hv 4 (by decide) (by kernel_rfl)
            have u5 : us 5 = pageV (cutB v bb) := hv 5 (by decide) (by kernel_rfl)
            clear hv
            obtain ⟨w5, hrun, hR5, hm5⟩ := res_put (HK4.out.below hB) hk0 (by have := HN.out; omega) HCu.out HCs.out HCut.out hFB.out
            have HR5 := zz hR5
            have HM5 := zz hm5
            clear hR5 hm5 hB HK4 HPA
            refine (show wpAny Tryz.prog .any _ _ 1 _ _ W2 from ?_)
            refine wpAny_one (i := 6) (by kernel_rfl) (by rfl) rfl (fun K hK => ?_)
            simp only [List.take_succ_cons, List.take_zero, putAll, Act.put, List.setIfInBounds_toArray, List.set_cons_succ, List.set_cons_zero, Nat.zero_add, Nat.reduceAdd, u3, u4, u5] at hK ⊢
            go_simp
            refine hK _ _ (wpAny_end (by kernel_rfl) ?_)
            clear hK hrun
            go_wp2
            go_roundw
            case rel => exact HR5.out
            case measure => exact Nat.lt_of_le_of_lt HM5.out HLt.out
        · have HCk : Hid (cur k = cutP n x.pages k) := by
           show _ = _; rw [hck]; unfold cutP; rw [hxk]; simp only; rw [if_neg hA, if_neg (by omega)]
          have hv1 : ¬ ((v : Int) < 64) := by omega
          have hv5 : ¬ ((v : Int) ≤ 0) := by omega
          clear hlk hck hrg1 hlt1 hg1 hs1 hxk hlb hrg hA
          go_wp2_with (first
          | ((with_reducible refine wpList_alloc_z 149 z66 zero66 ?_); intro w2 hw2
             have ht2 : w2.there w1.heap.size 0 64 := (by rw [hw2]; exact there_new w1 _)
             have hB2 : Below w1.heap.size w1 w2 := (by rw [hw2]; exact below_a1 _ _)
             obtain ⟨w3, hst, hpa, hg3⟩ := page_store HLb.out ht2
             have hB3 : Below w1.heap.size w1 w3 := below_grown hB2 hg3 (Nat.le_refl _)
             have hK3 := HK1.out.below hB3
             have c5 : w3.cell? ⟨w.heap.size, 0, none⟩ = some (.int .u32 n) := hK3.box
             have n4 : w3.cell? ⟨y.f i, 4, none⟩ = some (.map (some (y.G i))) := (hK3.tree.node i _ HIs.out).cell 4
             have HR4 := zz (res_keep hK3 HCu.out HCk.out)
             clear hw2 ht2 hB2 hpa hg3 hB3 hK3)
          | (refine wpList_store_run 149 10 41 w3 _ _ rfl rfl hst ?_; clear hst))
          go_roundw
          case rel => exact HR4.out.1
          case measure => rw [HR4.out.2]; exact HLt.out
 · have hz' : (q != 0) = true := by simpa using hz
   have HP : Hid (r = q ∧ t' = t) := by
    unfold resizeP at hr
    rw [hq, if_neg hz] at hr
    injection hr with a b
    exact ⟨a.symm, b.symm⟩
   clear h hi hok hr hz hq
   go_enter Tryz.func112, Tryz.ntmps112
   go_wp2_with (first
    | (go_at_call 81; (with_reducible refine (HTh.out _ _ _ (below_a2 w _ _) (SliceAt.built' _ [.int .u32 i] _ (w.heap.size + 1) (by simp))).mono ?_); rintro e w1 hq; obtain ⟨g1, l1, rfl, hq1, hb1⟩ := hq.get
       have HB0 : Hid (w1.cell? ⟨w.heap.size, 0, none⟩ = some (.int .u32 n)) := box_at hb1 (two_at w _ _ _)
       have HQ1 := zz hq1; have HB1 := zz (ptrans (below_a2 w _ _) hb1); clear hq hq1 hb1)
    | (go_at_call 89; (with_reducible refine (HFl.out _ HB1.out).mono ?_); rintro e w2 ⟨g2, l2, rfl, hq2, hb2⟩; have HQ2 := zz hq2; have HB2 := zz (ptrans HB1.out hb2); have HQ1' := zz (HQ1.out.later hb2); have HB0' := zz (box_at hb2 HB0.out); clear hq2 hb2)
    | (go_at_call 80; (with_reducible refine (check_built w2 P [.func (.func g1) #[] l1, .func (.func g2) #[] l2, .func (.func 187) #[] #[.pointer (some ⟨w.heap.size, 0, none⟩)]] 3 [thereE t [i], fileE' t i, sizedE n] q HE.out _ rfl (by omega) (asked3 HQ1'.out HQ2.out (q_resize rfl (World.block_lt_of_cell? _ _ HB0'.out) HB0'.out)) (by simp)).mono ?_); rintro e w4 ⟨rfl, hb4⟩
       have HB : Hid (Below w.heap.size w w4) := ptrans (ptrans HB2.out (below_a1 _ _)) hb4
       clear hb4 HQ1 HQ2 HQ1' HB1 HB2 HB0 HB0'))
   go_ret
   obtain ⟨rfl, rfl⟩ := HP.out
   exact ⟨rfl, HT.out.below HB.out, Turn.of_below F HB.out⟩
end
end

section
open Go.RowKit Go.Maps
section
variable {F : Nat → Prop} {P N : Nat} {y : Lay} {t : PT}
theorem asked_rename {W : World} {a b : Int} {s s2 : ByteArray} {v1 v2 v3 : Value} (q1 : Question W v1 (namesE [s, s2])) (q2 : Question W v2 (thereE t [a, b])) (q3 : (∀ i ∈ [a, b], (t.n i).isSome = true) → Question W v3 (dirsE t [a, b])) : Asked W [v1, v2, v3] [namesE [s, s2], thereE t [a, b], dirsE t [a, b]] := by
 refine Asked.of W _ _ rfl fun j e v he hv h0 => ?_
 match j with
 | 0 => simp at he hv; subst he; subst hv; exact q1
 | 1 => simp at he hv; subst he; subst hv; exact q2
 | 2 => simp at he hv; subst he; subst hv; exact q3 (there_all (h0 1 _ (by omega) rfl))
 | j + 3 => simp at he
theorem there_later2 {w : World} (h : TreeM w F P N y t) (a b : Int) (ha : U32 a) (hb : U32 b) : ∀ W A c, Below w.heap.size w W → SliceAt W A [.int .u32 a, .int .u32 b] → Calls Tryz.prog 81 #[.pointer (some ⟨P, 0, none⟩), .slice A 2 c] W (QPost W (thereE t [a, b])) :=
 fun W A c hw hA => t_there [a, b] A 2 c _ rfl W (h.below hw) rfl (by simp; exact ⟨ha, hb⟩) (by simp [maxLen]) hA
theorem dirs_later2 {w : World} (h : TreeM w F P N y t) (a b : Int) : ∀ W A c, Below w.heap.size w W → SliceAt W A [.int .u32 a, .int .u32 b] → Calls Tryz.prog 82 #[.pointer (some ⟨P, 0, none⟩), .slice A 2 c] W (QIf (∀ i ∈ [a, b], (t.n i).isSome = true) W (dirsE t [a, b])) :=
 fun W A c hw hA => t_dirsI [a, b] A 2 c _ rfl W (h.below hw) rfl (by simp [maxLen]) hA
theorem names_later2 (s s2 : ByteArray) (hs : s.size ≤ maxLen) (hs2 : s2.size ≤ maxLen) : ∀ W A c, SliceAt W A [.string s, .string s2] → Calls Tryz.prog 181 #[.slice A 2 c] W (QPost W (namesE [s, s2])) :=
 fun W A c hA => t_names [s, s2] A 2 c _ rfl W rfl (by simp; exact ⟨hs, hs2⟩) (by simp [maxLen]) hA
set_option maxRecDepth 100000 in
set_option maxHeartbeats 2000000 in
theorem t_renameLoop (a : Int) (s : ByteArray) (b : Int) (s2 : ByteArray) (ino : Int) (x : PN) (k : Nat) (w : World) (h : TreeM w F P N y t) (ha : U32 a) (hb : U32 b) (hs : s.size ≤ maxLen) (hs2 : s2.size ≤ maxLen)
  (he : firstE [namesE [s, s2], thereE t [a, b], dirsE t [a, b]] = 0) (hl : lookP t a s = (ino, 0)) (hx : t.n ino = some x) (hk : (x.kind == 2) = true) (hE : Ends t k b) (hB : belowP t ino k b = true) :
  Calls Tryz.prog 118 #[.pointer (some ⟨P, 0, none⟩), .int .u32 a, .string s, .int .u32 b, .string s2] w fun e w' => e = .returned (.int .i64 183) ∧ Below w.heap.size w w' := by
 have HNm := zz (names_later2 s s2 hs hs2)
 have HTh := zz (there_later2 h a b ha hb)
 have HDi := zz (dirs_later2 h a b)
 have HL := zz (fun W (hW : Below w.heap.size w W) => t_look a s ino 0 hl W (h.below hW) ha hs)
 have HBe := zz (fun W (hW : Below w.heap.size w W) => t_belowP b ino k true hB hE W (h.below hW))
 have HE := zz he
 have HT := zz h
 have HX := zz hx
 have HK := zz hk
 clear h he hl hx hk hE hB
 go_enter Tryz.func118, Tryz.ntmps118
 go_wp2_with (first
  | (go_at_call 181; (with_reducible refine (HNm.out _ _ _ (SliceAt.built' w [.string s, .string s2] _ (w.heap.size) rfl)).mono ?_); rintro e w1 hq; obtain ⟨g1, l1, rfl, hq1, hb1⟩ := hq.get; have HQ1 := zz hq1; have HB1 := zz (ptrans (below_a1 w _) hb1); clear hq hq1 hb1)
  | (go_at_call 81; (with_reducible refine (HTh.out _ _ _ (ptrans HB1.out (below_a1 w1 _)) (SliceAt.built' w1 [.int .u32 a, .int .u32 b] _ (w1.heap.size) rfl)).mono ?_); rintro e w2 hq; obtain ⟨g2, l2, rfl, hq2, hb2⟩ := hq.get; have HQ2 := zz hq2; have HB2 := zz (ptrans (ptrans HB1.out (below_a1 w1 _)) hb2); have HQ1' := zz (HQ1.out.later (ptrans (below_a1 w1 _) hb2)); clear hq hq2 hb2)
  | (go_at_call 82; (with_reducible refine (HDi.out _ _ _ (ptrans HB2.out (below_a1 w2 _)) (SliceAt.built' w2 [.int .u32 a, .int .u32 b] _ (w2.heap.size) rfl)).mono ?_); rintro e w3 ⟨g3, l3, rfl, hq3, hb3⟩; have HQ3 := zz hq3; have HB3 := zz (ptrans (ptrans HB2.out (below_a1 w2 _)) hb3); have HQ1'' := zz (HQ1'.out.later (ptrans (below_a1 w2 _) hb3)); have HQ2' := zz (HQ2.out.later (ptrans (below_a1 w2 _) hb3)); clear hq3 hb3)
  | (go_at_call 80; (with_reducible refine (check_built w3 P [.func (.func g1) #[] l1, .func (.func g2) #[] l2, .func (.func g3) #[] l3] 3 [namesE [s, s2], thereE t [a, b], dirsE t [a, b]] 0 HE.out _ rfl (by omega) (asked_rename HQ1''.out HQ2'.out HQ3.out) (by simp)).mono ?_); rintro e w4 ⟨rfl, hb4⟩
     have HB := zz (ptrans (ptrans HB3.out (below_a1 _ _)) hb4)
     clear hb4 HQ1 HQ2 HQ3 HQ1' HQ1'' HQ2' HB1 HB2 HB3)
  | (go_at_call 145; refine (HL.out w4 HB.out).mono ?_; rintro e w5 ⟨rfl, hb5⟩
     have hb := ptrans HB.out hb5
     have hT := HT.out.below hb
     have c1 := hT.c1
     have hlk := hT.look_some HX.out
     have HD := zz (t_isdir (y.f ino) x.kind true HK.out w5 ((hT.node ino x HX.out).cell 0))
     have HB5 := zz hb
     clear hb hb5 hT)
  | (go_at_call 125; refine HD.out.mono ?_; rintro e w' ⟨rfl, rfl⟩)
  | (go_at_call 195; refine (HBe.out _ HB5.out).mono ?_; rintro e w' ⟨rfl, rfl⟩))
 go_ret
 exact ⟨rfl, HB5.out⟩
end
end
end Go.Proofs.YtpcnolkdnmolgaaGreatDoor
