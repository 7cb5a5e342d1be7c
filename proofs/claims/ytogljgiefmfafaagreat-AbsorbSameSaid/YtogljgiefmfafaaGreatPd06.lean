/- The program's tree: Write. -/
import Derived.Test.YtogljgiefmfafaaGreatPd05
namespace Go.Proofs.YtogljgiefmfafaaGreat
open Go.RowKit Go.Maps
theorem PT.set_set (t : PT) (i : Int) (x y : PN) : (t.set i x).set i y = t.set i y := by
 unfold PT.set
 congr 1
 funext j
 by_cases hj : j = i <;> simp [hj]
def over (d : List UInt8) (b : List UInt8) : List UInt8 := d ++ b.drop d.length
theorem over_length {d b : List UInt8} (h : d.length ≤ b.length) : (over d b).length = b.length := by unfold over; simp; omega
def updP (m : Int → Option (List UInt8)) (p : Int) (b : List UInt8) : Int → Option (List UInt8) := fun k => if k = p then some b else m k
def delP (m : Int → Option (List UInt8)) (p : Int) : Int → Option (List UInt8) := fun k => if k = p then none else m k
theorem pagesM_upd (m : Int → Option (List UInt8)) (p : Int) (b : List UInt8) : ∀ kl, WideAt.IsKeyLit kl → updM (pagesM m) (.int .i64 p) (pageV b) kl = pagesM (updP m p b) kl := by
 intro kl _
 unfold updM
 cases kl with
 | int q k =>
  cases q <;> try (simp [Lit.sameKey, pagesM]; done)
  by_cases hk : k = p
  · subst hk; simp [Lit.sameKey, pagesM, updP]
  · simp [Lit.sameKey, pagesM, updP, hk]
 | _ => simp [Lit.sameKey, pagesM]
theorem pagesM_del (m : Int → Option (List UInt8)) (p : Int) : ∀ kl, WideAt.IsKeyLit kl → delM (pagesM m) (.int .i64 p) kl = pagesM (delP m p) kl := by
 intro kl _
 unfold delM
 cases kl with
 | int q k =>
  cases q <;> try (simp [Lit.sameKey, pagesM]; done)
  by_cases hk : k = p
  · subst hk; simp [Lit.sameKey, pagesM, delP]
  · simp [Lit.sameKey, pagesM, delP, hk]
 | _ => simp [Lit.sameKey, pagesM]
theorem PageAt.lt {w : World} {B : Nat} {b : List UInt8} (h : PageAt w B b) : B < w.heap.size := by
 obtain ⟨h1, _⟩ := h.there 0 (by omega)
 obtain ⟨v, hv⟩ := Option.isSome_iff_exists.1 h1
 exact World.block_lt_of_cell? w _ hv
theorem PageAt.copy {w : World} {B : Nat} {b : List UInt8} (h : PageAt w B b) (_hb : b.length = 64) (d : ByteArray) (hd : d.size ≤ 64) : ∃ w', (∀ ty, (Builtin.copy_ #[93, 9] ty #[.slice (some ⟨B, 0, none⟩) 64 64, .string d]).run Tryz.prog w = .ok (goInt d.size) w') ∧ PageAt w' B (over d.data.toList b) ∧ w.grownBy w' (some B) := by
 have hdl : d.data.toList.length = d.size := by simp
 refine ⟨w.setCells B 0 (d.data.toList.map byteV), fun ty => ?_, ⟨fun j v hv => ?_, World.there_setCells h.there B 0 _⟩, grown_setCells B _ 0 w⟩
 · exact _root_.Go.run_copy_string (P := Tryz.prog) w 93 9 ty 5 B 0 64 64 d Tryz.underlying93 (fun w => by kernel_rfl) hd (fun j hj => (h.there j (by omega)).1) (fun j hj => (h.there j (by omega)).2)
 · by_cases hj : j < d.size
   · rw [World.cell?_setCells_in B _ 0 w (fun i hi => (h.there i (by rw [List.length_map, hdl] at hi; omega)).1) j (by rw [List.length_map, hdl]; exact hj)]
     rw [← hv]
     unfold over
     rw [List.map_append, List.getElem?_append_left (by rw [List.length_map, hdl]; exact hj), List.getElem?_eq_getElem]
   · rw [World.cell?_setCells_out B _ 0 w ⟨B, 0 + j, none⟩ (fun _ _ => .inr (by rw [List.length_map, hdl]; show 0 + d.size ≤ 0 + j; omega))]
     refine h.range j v ?_
     rw [← hv]
     unfold over
     rw [List.map_append, List.getElem?_append_right (by rw [List.length_map, hdl]; omega), List.length_map, hdl, List.map_drop, List.getElem?_drop]
     congr 1
     omega
def writeT (t : PT) (i p : Int) (d : ByteArray) : PT := match t.n i with
 | some x => t.set i { x with pages := updP x.pages p (over d.data.toList ((x.pages p).getD z64)), size := max x.size (p * 64 + d.size) }
 | none => t
def writeE (t : PT) (i p : Int) (d : ByteArray) : Int := firstE [thereE t [i], fileE' t i, pagedE p, dataE d]
def writeP (t : PT) (i p : Int) (d : ByteArray) : Int × PT := if writeE t i p d = 0 then (0, writeT t i p d) else (writeE t i p d, t)
section
variable {F : Nat → Prop} {P N : Nat} {y : Lay} {t : PT}
theorem two_at (w : World) (v1 : Value) (T1 : TypeId) (o : Obj) : ((w.alloc (.cells #[v1] T1)).alloc o).cell? ⟨w.heap.size, 0, none⟩ = some v1 := box_old _ (box_new _ _ _)
set_option maxRecDepth 100000 in
set_option maxHeartbeats 2000000 in
theorem t_writeP (i p : Int) (d : ByteArray) (r : Int) (t' : PT) (hr : writeP t i p d = (r, t')) (w : World) (h : TreeM w F P N y t) (hN : N < 900000) (hi : U32 i) (hd : d.size ≤ maxLen) (hok : ∀ x, t.n i = some x → PagesOk x) :
  Calls Tryz.prog 177 #[.pointer (some ⟨P, 0, none⟩), .int .u32 i, .int .i64 p, .string d] w fun e w' => e = .returned (.int .i64 r) ∧ TreeM w' F P (N + 1) y t' ∧ Turn w w' F F := by
 have HTh := Lib.hid (there_later h i hi)
 have HFl := Lib.hid (file_later h i)
 have HT := Lib.hid h
 have HD := Lib.hid hd
 obtain ⟨q, hq⟩ : ∃ q, writeE t i p d = q := ⟨_, rfl⟩
 have HE : Hid (firstE [thereE t [i], fileE' t i, pagedE p, dataE d] = q) := hq
 by_cases hz : q = 0
 · subst hz
   have hz := HE.out
   obtain ⟨z1, hz⟩ := firstE_cons hz
   obtain ⟨z2, hz⟩ := firstE_cons hz
   obtain ⟨z3, hz⟩ := firstE_cons hz
   obtain ⟨z4, hz⟩ := firstE_cons hz
   obtain ⟨x, hx⟩ := Option.isSome_iff_exists.1 (there_one z1)
   obtain ⟨p1, p2⟩ : 0 ≤ p ∧ p < 36 := by
    unfold pagedE at z3
    by_cases a : p < 0 ∨ 36 ≤ p
    · rw [if_pos a] at z3; cases z3
    · omega
   obtain ⟨d1, d2⟩ : 0 < d.size ∧ d.size ≤ 64 := by
    unfold dataE at z4
    by_cases a : d.size = 0 ∨ 64 < d.size
    · rw [if_pos a] at z4; cases z4
    · omega
   have hk := hok x hx
   have s1 := hk.size.1
   have s2 := hk.size.2
   have HX := Lib.hid hx
   have HLen : Hid (((x.pages p).getD z64).length = 64) := by
    show _ = _
    cases hb : x.pages p with
    | none => rfl
    | some b => exact (hk.len p b hb).1
   have HP : Hid (r = 0 ∧ t' = t.set i { x with pages := updP x.pages p (over d.data.toList ((x.pages p).getD z64)), size := max x.size (p * 64 + d.size) }) := by
    unfold writeP writeT at hr
    rw [if_pos hq, hx] at hr
    injection hr with a b
    exact ⟨a.symm, b.symm⟩
   have HN := Lib.hid hN
   clear h hi hok hr z1 z2 z3 z4 hz hx hk hd hq hN
   go_enter Tryz.func177, Tryz.ntmps177
   go_wp2_with (first
    | (go_at_call 48; (with_reducible refine (HTh.out _ _ _ (below_a2 w _ _) (SliceAt.built' _ [.int .u32 i] _ (w.heap.size + 1) (by simp))).mono ?_); rintro e w1 hq; obtain ⟨g1, l1, rfl, hq1, hb1⟩ := hq.get
       have HB0 : Hid (w1.cell? ⟨w.heap.size, 0, none⟩ = some (.string d)) := box_at hb1 (two_at w _ _ _)
       have HQ1 := Lib.hid hq1; have HB1 := Lib.hid (ptrans (below_a2 w _ _) hb1); clear hq hq1 hb1)
    | (go_at_call 49; (with_reducible refine (HFl.out _ HB1.out).mono ?_); rintro e w2 ⟨g2, l2, rfl, hq2, hb2⟩; have HQ2 := Lib.hid hq2; have HB2 := Lib.hid (ptrans HB1.out hb2); have HQ1' := Lib.hid (HQ1.out.later hb2); have HB0' := Lib.hid (box_at hb2 HB0.out); clear hq2 hb2)
    | (go_at_call 50; (with_reducible refine (t_paged p _ rfl w2).mono ?_); rintro e w3 hq; obtain ⟨g3, l3, rfl, hq3, hb3⟩ := hq.get; have HQ3 := Lib.hid hq3; have HB3 := Lib.hid (ptrans HB2.out hb3); have HQ1'' := Lib.hid (HQ1'.out.later hb3); have HQ2' := Lib.hid (fun h => (HQ2.out h).later hb3); have HB0'' := Lib.hid (box_at hb3 HB0'.out); clear hq hq3 hb3)
    | (go_at_call 47; (with_reducible refine (check_built w3 P [.func (.func g1) #[] l1, .func (.func g2) #[] l2, .func (.func g3) #[] l3, .func (.func 227) #[] #[.pointer (some ⟨w.heap.size, 0, none⟩)]] 4 [thereE t [i], fileE' t i, pagedE p, dataE d] 0 HE.out _ rfl (by omega) (asked4 HQ1''.out HQ2'.out HQ3.out (q_write rfl HD.out (World.block_lt_of_cell? _ _ HB0''.out) HB0''.out)) (by simp)).mono ?_); rintro e w4 ⟨rfl, hb4⟩
       have hb : Below w.heap.size w w4 := ptrans (ptrans HB3.out (below_a1 _ _)) hb4
       have k7 : w4.cell? ⟨w.heap.size, 0, none⟩ = some (.string d) := box_at hb4 (box_old _ HB0''.out)
       have hT := HT.out.below hb
       have c1 := hT.c1
       have hlk := hT.look_some HX.out
       have n4 : w4.cell? ⟨y.f i, 4, none⟩ = some (.map (some (y.G i))) := (hT.node i x HX.out).cell 4
       have hpg := (hT.node i x HX.out).page (p := p) ⟨by omega, by omega⟩
       have HB := Lib.hid hb
       have hfl : y.f i < w4.heap.size := (hT.node i x HX.out).ltQ
       have h7l : w.heap.size < w4.heap.size := World.block_lt_of_cell? _ _ k7
       clear hb hb4 hT HQ1 HQ2 HQ3 HQ1' HQ1'' HQ2' HB1 HB2 HB3 HB0 HB0' HB0'')
    | ((with_reducible refine wpList_alloc_z 92 z66 zero66 ?_); intro w5 hw5
       have ht5 : w5.there w4.heap.size 0 64 := (by rw [hw5]; exact there_new w4 _)
       have hB5 : Below w4.heap.size w4 w5 := (by rw [hw5]; exact below_a1 _ _)
       obtain ⟨w6, hst, hpa, hg6⟩ := page_store HLen.out ht5
       have hb6 := below_grown hB5 hg6 (Nat.le_refl _)
       have m7 : w6.cell? ⟨w.heap.size, 0, none⟩ = some (.string d) := box_at hb6 k7
       have HPA := Lib.hid hpa
       have HB46 := Lib.hid hb6
       have HB6 := Lib.hid (ptrans HB.out hb6)
       clear hw5 ht5 hB5 hpa hg6 hb6)
    | (refine wpList_store_run 92 11 39 w6 _ _ rfl rfl hst ?_; clear hst))
   go_frame
   have HN4 := HT.out.below HB.out
   refine wp_region_front 2 (phi [isV (.slice (some ⟨w4.heap.size, 0, none⟩) 64 64), isV (.string d)]) (by kernel_rfl) (by kernel_rfl) (by kernel_rfl) ?_ ?_ ?_
   · refine stays_phi ?_
     simp only [List.forall_mem_cons]
     exact ⟨stays_V _, stays_V _, fun _ h => absurd h (by simp)⟩
   · refine ⟨?_, ?_, trivial⟩
     · refine op_mk rfl fun a W hB hp hq K hK => ?_
       have e11 : a.tmps[11]?.getD undef = .pointer (some ⟨w4.heap.size, 0, none⟩) := hp 11 (by kernel_rfl)
       clear hp hq
       go_simp
       exact hK _ _ (Below.refl _ _) rfl
     · refine op_mk rfl fun a W hB hp hq K hK => ?_
       have e7 : a.tmps[7]?.getD undef = .pointer (some ⟨w.heap.size, 0, none⟩) := hp 7 (by kernel_rfl)
       have cc := box_at hB m7
       clear hp hq
       go_simp
       exact hK _ _ (Below.refl _ _) rfl
   · intro vs W hB hv
     have f0 : vs 0 = .slice (some ⟨w4.heap.size, 0, none⟩) 64 64 := hv 0 (by decide) (by kernel_rfl)
     have f1 : vs 1 = .string d := hv 1 (by decide) (by kernel_rfl)
     clear hv
     have hpW := HPA.out.below (hB.block _ HPA.out.lt)
     obtain ⟨w7, hcp, hp7, hg7⟩ := hpW.copy HLen.out d d2
     have hB47 : Below w4.heap.size w4 w7 := below_grown (ptrans HB46.out hB) hg7 (Nat.le_refl _)
     have k7 : w7.cell? ⟨w.heap.size, 0, none⟩ = some (.string d) := box_at hB47 k7
     have H47 := Lib.hid hB47
     have HP7 := Lib.hid hp7
     clear hpW hp7 hg7 hB47 HB46 HB6 HPA hB m7
     refine (show wpAny Tryz.prog .any _ _ 1 _ _ W from ?_)
     refine wpAny_one (i := 2) (by kernel_rfl) (by rfl) rfl (fun K hK => ?_)
     simp only [List.take_succ_cons, List.take_zero, putAll, Act.put, List.setIfInBounds_toArray, List.set_cons_succ, List.set_cons_zero, Nat.zero_add, f0, f1] at hK ⊢
     go_simp
     refine hK _ _ (wpAny_end (by kernel_rfl) ?_)
     clear hK hcp
     go_wp2
     have hT7 := HN4.below H47.out
     refine wp_region_front 6 (phi [isV (.pointer (some ⟨y.f i, 0, none⟩)), isV (.pointer (some ⟨y.f i, 0, none⟩)), isV (.pointer (some ⟨y.f i, 4, none⟩)), isV (.map (some (y.G i))), isV (.int .i64 p), isV (pageV (over d.data.toList ((x.pages p).getD z64)))]) (by kernel_rfl) (by kernel_rfl) (by kernel_rfl) ?_ ?_ ?_
     · refine stays_phi ?_
       simp only [List.forall_mem_cons]
       exact ⟨stays_V _, stays_V _, stays_V _, stays_V _, stays_V _, stays_V _, fun _ h => absurd h (by simp)⟩
     · refine ⟨?_, ?_, ?_, ?_, ?_, ?_, trivial⟩
       · refine op_mk rfl fun a W2 hB hp hq K hK => ?_
         have e10 : a.tmps[10]?.getD undef = .pointer (some ⟨y.f i, 0, none⟩) := hp 10 (by kernel_rfl)
         clear hp hq
         go_simp
         exact hK _ _ (Below.refl _ _) rfl
       · refine op_mk rfl fun a W2 hB hp hq K hK => ?_
         have e43 : a.tmps[43]?.getD undef = .pointer (some ⟨y.f i, 0, none⟩) := hq 0 43 (by kernel_rfl) (by kernel_rfl)
         clear hp hq
         go_simp
         exact hK _ _ (Below.refl _ _) rfl
       · refine op_mk rfl fun a W2 hB hp hq K hK => ?_
         have e44 : a.tmps[44]?.getD undef = .pointer (some ⟨y.f i, 0, none⟩) := hq 1 44 (by kernel_rfl) (by kernel_rfl)
         clear hp hq
         go_simp
         exact hK _ _ (Below.refl _ _) rfl
       · refine op_mk rfl fun a W2 hB hp hq K hK => ?_
         have e45 : a.tmps[45]?.getD undef = .pointer (some ⟨y.f i, 4, none⟩) := hq 2 45 (by kernel_rfl) (by kernel_rfl)
         have cc : W2.cell? ⟨y.f i, 4, none⟩ = some (.map (some (y.G i))) := ((hT7.below hB).node i x HX.out).cell 4
         clear hp hq
         go_simp
         exact hK _ _ (Below.refl _ _) rfl
       · refine op_mk rfl fun a W2 hB hp hq K hK => ?_
         have e2 : a.tmps[2]?.getD undef = .int .i64 p := hp 2 (by kernel_rfl)
         clear hp hq
         go_simp
         exact hK _ _ (Below.refl _ _) rfl
       · refine op_mk rfl fun a W2 hB hp hq K hK => ?_
         have e11 : a.tmps[11]?.getD undef = .pointer (some ⟨w4.heap.size, 0, none⟩) := hp 11 (by kernel_rfl)
         have hpa := HP7.out.below (hB.block _ HP7.out.lt)
         have hln : ((over d.data.toList ((x.pages p).getD z64)).map byteV).length = 64 := by
          rw [List.length_map, over_length (by rw [HLen.out]; simpa using d2), HLen.out]
         refine wp_load_mid 92 (.tmp 11) rfl w4.heap.size 0 ((eval_slot a 11).trans e11) _ _ hpa.range Tryz.underlying92 rfl (by rw [hln]; exact info66) ?_
         exact hK _ _ (Below.refl _ _) rfl
     · intro us W2 hB hv
       have u3 : us 3 = .map (some (y.G i)) := hv 3 (by decide) (by kernel_rfl)
       have u4 : us 4 = .int .i64 p := hv 4 (by decide) (by kernel_rfl)
       have u5 : us 5 = pageV (over d.data.toList ((x.pages p).getD z64)) := hv 5 (by decide) (by kernel_rfl)
       clear hv
       have hT2 := hT7.below hB
       obtain ⟨w8, hrun, hM8, ht8⟩ := (hT2.node i x HX.out).pages.update law64 Tryz.underlying87 (by have := HN.out; unfold maxLen; omega) (val := pageV (over d.data.toList ((x.pages p).getD z64))) (pkey64 (k := p) ⟨by omega, by omega⟩)
       obtain ⟨hT8, hU8⟩ := hT2.pages_ (Nat.le_succ N) HX.out (hM8.congr (pagesM_upd x.pages p _)) ht8
       have hi8 : (t.set i { x with pages := updP x.pages p (over d.data.toList ((x.pages p).getD z64)) }).n i = some { x with pages := updP x.pages p (over d.data.toList ((x.pages p).getD z64)) } := by rw [PT.set_n, if_pos rfl]
       have n2 : w8.cell? ⟨y.f i, 2, none⟩ = some (.int .u32 x.size) := (hT8.node i _ hi8).cell 2
       have nf2 := (hT8.node i _ hi8).frozen 2
       have k78 : w8.cell? ⟨w.heap.size, 0, none⟩ = some (.string d) := ht8.grown.cell (box_at hB k7) (fun e => by
        injection e with e
        have := (HT.out.foot i x HX.out).2.2
        have := HT.out.lt _ this
        simp at e; omega)
       have HU := Lib.hid ((Turn.of_below F (ptrans HB.out (ptrans H47.out hB))).trans hU8)
       have HT8 := Lib.hid hT8
       have HI8 := Lib.hid hi8
       clear hT2 hT7 hT8 hU8 hM8 ht8 hi8 hB HN4 H47 HP7 k7
       refine (show wpAny Tryz.prog .any _ _ 1 _ _ W2 from ?_)
       refine wpAny_one (i := 6) (by kernel_rfl) (by rfl) rfl (fun K hK => ?_)
       simp only [List.take_succ_cons, List.take_zero, putAll, Act.put, List.setIfInBounds_toArray, List.set_cons_succ, List.set_cons_zero, Nat.zero_add, Nat.reduceAdd, u3, u4, u5] at hK ⊢
       go_simp
       refine hK _ _ (wpAny_end (by kernel_rfl) ?_)
       clear hK hrun
       go_wp2
       have wr1 : IntKind.i64.wrap (p * 64) = p * 64 := IntWalk.i64_in _ (by omega)
       have wr2 : IntKind.i64.wrap (p * 64 + (d.size : Int)) = p * 64 + (d.size : Int) := IntWalk.i64_in _ (by omega)
       have wr3 : IntKind.u32.wrap (p * 64 + (d.size : Int)) = p * 64 + (d.size : Int) := IntWalk.u32_in _ (by omega)
       refine wp_region_front 16 (phi [isV (.pointer (some ⟨y.f i, 0, none⟩)), isV (.pointer (some ⟨y.f i, 0, none⟩)), isV (.pointer (some ⟨y.f i, 0, none⟩)), isV (.pointer (some ⟨y.f i, 0, none⟩)), isV (.pointer (some ⟨y.f i, 2, none⟩)), isV (.int .u32 x.size), isV (.int .i64 p), isV (.int .i64 (p * 64)), isV (.string d), isV (.int .i64 d.size), isV (.int .i64 (p * 64 + d.size)), isV (.int .u32 (p * 64 + d.size)), isV (.int .u32 (max x.size (p * 64 + d.size))), isV (.pointer (some ⟨y.f i, 0, none⟩)), isV (.pointer (some ⟨y.f i, 0, none⟩)), isV (.pointer (some ⟨y.f i, 2, none⟩))]) (by kernel_rfl) (by kernel_rfl) (by kernel_rfl) ?_ ?_ ?_
       · refine stays_phi ?_
         simp only [List.forall_mem_cons]
         exact ⟨stays_V _, stays_V _, stays_V _, stays_V _, stays_V _, stays_V _, stays_V _, stays_V _, stays_V _, stays_V _, stays_V _, stays_V _, stays_V _, stays_V _, stays_V _, stays_V _, fun _ h => absurd h (by simp)⟩
       · refine ⟨?_, ?_, ?_, ?_, ?_, ?_, ?_, ?_, ?_, ?_, ?_, ?_, ?_, ?_, ?_, ?_, trivial⟩
         · refine op_mk rfl fun a W3 hB hp hq K hK => ?_
           have e10 : a.tmps[10]?.getD undef = (.pointer (some ⟨y.f i, 0, none⟩)) := hp 10 (by kernel_rfl)
           clear hp hq
           go_simp
           exact hK _ _ (Below.refl _ _) rfl
         · refine op_mk rfl fun a W3 hB hp hq K hK => ?_
           have e10 : a.tmps[10]?.getD undef = (.pointer (some ⟨y.f i, 0, none⟩)) := hp 10 (by kernel_rfl)
           clear hp hq
           go_simp
           exact hK _ _ (Below.refl _ _) rfl
         · refine op_mk rfl fun a W3 hB hp hq K hK => ?_
           have e50 : a.tmps[50]?.getD undef = (.pointer (some ⟨y.f i, 0, none⟩)) := hq 1 50 (by kernel_rfl) (by kernel_rfl)
           clear hp hq
           go_simp
           exact hK _ _ (Below.refl _ _) rfl
         · refine op_mk rfl fun a W3 hB hp hq K hK => ?_
           have e51 : a.tmps[51]?.getD undef = (.pointer (some ⟨y.f i, 0, none⟩)) := hq 2 51 (by kernel_rfl) (by kernel_rfl)
           clear hp hq
           go_simp
           exact hK _ _ (Below.refl _ _) rfl
         · refine op_mk rfl fun a W3 hB hp hq K hK => ?_
           have e52 : a.tmps[52]?.getD undef = (.pointer (some ⟨y.f i, 0, none⟩)) := hq 3 52 (by kernel_rfl) (by kernel_rfl)
           clear hp hq
           go_simp
           exact hK _ _ (Below.refl _ _) rfl
         · refine op_mk rfl fun a W3 hB hp hq K hK => ?_
           have e53 : a.tmps[53]?.getD undef = (.pointer (some ⟨y.f i, 2, none⟩)) := hq 4 53 (by kernel_rfl) (by kernel_rfl)
           have cc : W3.cell? ⟨y.f i, 2, none⟩ = some (.int .u32 x.size) := (hB.cell (p := ⟨y.f i, 2, none⟩) (World.block_lt_of_cell? _ _ n2)).trans n2
           clear hp hq
           go_simp
           exact hK _ _ (Below.refl _ _) rfl
         · refine op_mk rfl fun a W3 hB hp hq K hK => ?_
           have e2 : a.tmps[2]?.getD undef = (.int .i64 p) := hp 2 (by kernel_rfl)
           clear hp hq
           go_simp
           exact hK _ _ (Below.refl _ _) rfl
         · refine op_mk rfl fun a W3 hB hp hq K hK => ?_
           have e55 : a.tmps[55]?.getD undef = (.int .i64 p) := hq 6 55 (by kernel_rfl) (by kernel_rfl)
           clear hp hq
           go_simp
           exact hK _ _ (Below.refl _ _) rfl
         · refine op_mk rfl fun a W3 hB hp hq K hK => ?_
           have e7 : a.tmps[7]?.getD undef = (.pointer (some ⟨w.heap.size, 0, none⟩)) := hp 7 (by kernel_rfl)
           have cc := box_at hB k78
           clear hp hq
           go_simp
           exact hK _ _ (Below.refl _ _) rfl
         · refine op_mk rfl fun a W3 hB hp hq K hK => ?_
           have e57 : a.tmps[57]?.getD undef = (.string d) := hq 8 57 (by kernel_rfl) (by kernel_rfl)
           clear hp hq
           go_simp
           exact hK _ _ (Below.refl _ _) rfl
         · refine op_mk rfl fun a W3 hB hp hq K hK => ?_
           have e56 : a.tmps[56]?.getD undef = (.int .i64 (p * 64)) := hq 7 56 (by kernel_rfl) (by kernel_rfl)
           have e58 : a.tmps[58]?.getD undef = (.int .i64 d.size) := hq 9 58 (by kernel_rfl) (by kernel_rfl)
           clear hp hq
           go_simp
           exact hK _ _ (Below.refl _ _) rfl
         · refine op_mk rfl fun a W3 hB hp hq K hK => ?_
           have e59 : a.tmps[59]?.getD undef = (.int .i64 (p * 64 + d.size)) := hq 10 59 (by kernel_rfl) (by kernel_rfl)
           clear hp hq
           go_simp
           exact hK _ _ (Below.refl _ _) rfl
         · refine op_mk rfl fun a W3 hB hp hq K hK => ?_
           have e54 : a.tmps[54]?.getD undef = (.int .u32 x.size) := hq 5 54 (by kernel_rfl) (by kernel_rfl)
           have e60 : a.tmps[60]?.getD undef = (.int .u32 (p * 64 + d.size)) := hq 11 60 (by kernel_rfl) (by kernel_rfl)
           clear hp hq
           go_simp
           exact hK _ _ (Below.refl _ _) (by show Value.int _ _ = _; congr 1; omega)
         · refine op_mk rfl fun a W3 hB hp hq K hK => ?_
           have e49 : a.tmps[49]?.getD undef = (.pointer (some ⟨y.f i, 0, none⟩)) := hq 0 49 (by kernel_rfl) (by kernel_rfl)
           clear hp hq
           go_simp
           exact hK _ _ (Below.refl _ _) rfl
         · refine op_mk rfl fun a W3 hB hp hq K hK => ?_
           have e62 : a.tmps[62]?.getD undef = (.pointer (some ⟨y.f i, 0, none⟩)) := hq 13 62 (by kernel_rfl) (by kernel_rfl)
           clear hp hq
           go_simp
           exact hK _ _ (Below.refl _ _) rfl
         · refine op_mk rfl fun a W3 hB hp hq K hK => ?_
           have e63 : a.tmps[63]?.getD undef = (.pointer (some ⟨y.f i, 0, none⟩)) := hq 14 63 (by kernel_rfl) (by kernel_rfl)
           clear hp hq
           go_simp
           exact hK _ _ (Below.refl _ _) rfl
       · intro ts W3 hB hv
         have t12 : ts 12 = .int .u32 (max x.size (p * 64 + d.size)) := hv 12 (by decide) (by kernel_rfl)
         have t15 : ts 15 = .pointer (some ⟨y.f i, 2, none⟩) := hv 15 (by decide) (by kernel_rfl)
         clear hv
         have hT3 := HT8.out.below hB
         have n3 : W3.cell? ⟨y.f i, 2, none⟩ = some (.int .u32 x.size) := (hT3.node i _ HI8.out).cell 2
         have nf3 := (hT3.node i _ HI8.out).frozen 2
         have hTF := hT3.store HI8.out 2 (.int .u32 (max x.size (p * 64 + d.size))) (x' := { x with pages := updP x.pages p (over d.data.toList ((x.pages p).getD z64)), size := max x.size (p * 64 + d.size) }) rfl rfl rfl
         have HTF := Lib.hid hTF
         have HUF := Lib.hid (HU.out.trans ((Turn.of_below F hB).trans (turn_store F W3 (y.f i) 2 (.int .u32 (max x.size (p * 64 + d.size))) (hT3.foot_f HI8.out))))
         clear hT3 hTF hB HT8 HU n2 nf2 k78
         refine (show wpAny Tryz.prog .any _ _ 1 _ _ W3 from ?_)
         refine wpAny_one (i := 16) (by kernel_rfl) (by rfl) rfl (fun K hK => ?_)
         simp only [List.take_succ_cons, List.take_zero, putAll, Act.put, List.setIfInBounds_toArray, List.set_cons_succ, List.set_cons_zero, Nat.zero_add, Nat.reduceAdd, t12, t15] at hK ⊢
         go_simp
         refine hK _ _ (wpAny_end (by kernel_rfl) ?_)
         clear hK
         go_wp2
         go_ret
         obtain ⟨rfl, rfl⟩ := HP.out
         refine ⟨rfl, ?_, HUF.out⟩
         have := HTF.out
         rw [PT.set_set] at this
         exact this
 · have hz' : (q != 0) = true := by simpa using hz
   have HP : Hid (r = q ∧ t' = t) := by
    unfold writeP at hr
    rw [hq, if_neg hz] at hr
    injection hr with a b
    exact ⟨a.symm, b.symm⟩
   clear h hi hok hr hz hd hq
   go_enter Tryz.func177, Tryz.ntmps177
   go_wp2_with (first
    | (go_at_call 48; (with_reducible refine (HTh.out _ _ _ (below_a2 w _ _) (SliceAt.built' _ [.int .u32 i] _ (w.heap.size + 1) (by simp))).mono ?_); rintro e w1 hq; obtain ⟨g1, l1, rfl, hq1, hb1⟩ := hq.get
       have HB0 : Hid (w1.cell? ⟨w.heap.size, 0, none⟩ = some (.string d)) := box_at hb1 (two_at w _ _ _)
       have HQ1 := Lib.hid hq1; have HB1 := Lib.hid (ptrans (below_a2 w _ _) hb1); clear hq hq1 hb1)
    | (go_at_call 49; (with_reducible refine (HFl.out _ HB1.out).mono ?_); rintro e w2 ⟨g2, l2, rfl, hq2, hb2⟩; have HQ2 := Lib.hid hq2; have HB2 := Lib.hid (ptrans HB1.out hb2); have HQ1' := Lib.hid (HQ1.out.later hb2); have HB0' := Lib.hid (box_at hb2 HB0.out); clear hq2 hb2)
    | (go_at_call 50; (with_reducible refine (t_paged p _ rfl w2).mono ?_); rintro e w3 hq; obtain ⟨g3, l3, rfl, hq3, hb3⟩ := hq.get; have HQ3 := Lib.hid hq3; have HB3 := Lib.hid (ptrans HB2.out hb3); have HQ1'' := Lib.hid (HQ1'.out.later hb3); have HQ2' := Lib.hid (fun h => (HQ2.out h).later hb3); have HB0'' := Lib.hid (box_at hb3 HB0'.out); clear hq hq3 hb3)
    | (go_at_call 47; (with_reducible refine (check_built w3 P [.func (.func g1) #[] l1, .func (.func g2) #[] l2, .func (.func g3) #[] l3, .func (.func 227) #[] #[.pointer (some ⟨w.heap.size, 0, none⟩)]] 4 [thereE t [i], fileE' t i, pagedE p, dataE d] q HE.out _ rfl (by omega) (asked4 HQ1''.out HQ2'.out HQ3.out (q_write rfl HD.out (World.block_lt_of_cell? _ _ HB0''.out) HB0''.out)) (by simp)).mono ?_); rintro e w4 ⟨rfl, hb4⟩
       have HB : Hid (Below w.heap.size w w4) := ptrans (ptrans HB3.out (below_a1 _ _)) hb4
       clear hb4 HQ1 HQ2 HQ3 HQ1' HQ1'' HQ2' HB1 HB2 HB3 HB0 HB0' HB0''))
   go_ret
   obtain ⟨rfl, rfl⟩ := HP.out
   exact ⟨rfl, (HT.out.below HB.out).mono (by omega), Turn.of_below F HB.out⟩
end
end Go.Proofs.YtogljgiefmfafaaGreat
