/- Parts of a record, walked. -/
import Derived.Test.YtogljgiefmfafaaGreatPc13
namespace Go.Proofs.YtogljgiefmfafaaGreat
section
open Go.RowKit Go.Maps
theorem new_at (W : World) (o : Obj) (n : Nat) (h : W.heap.size = n) : (W.alloc o).heap[n]? = some o := by subst h; exact heap_alloc_new _ _
theorem box_cell {W : World} {B : Nat} {v : Value} {T : TypeId} (h : W.heap[B]? = some (.cells #[v] T (0, 0))) : W.cell? ⟨B, 0, none⟩ = some v := by simp only [World.cell?, h]; rfl
theorem box_froz {W : World} {B : Nat} {c : Array Value} {T : TypeId} (h : W.heap[B]? = some (.cells c T (0, 0))) : W.frozen? ⟨B, 0, none⟩ = false := by simp [World.frozen?, h]
theorem parts_start {w w0 : World} {r : R} (hb : Below ((w.alloc (.cells (cellsR r) 50)).alloc (.cells #[.slice none 0 0] 99)).heap.size ((w.alloc (.cells (cellsR r) 50)).alloc (.cells #[.slice none 0 0] 99)) w0) :
  w0.heap[w.heap.size]? = some (.cells (cellsR r) 50 (0, 0)) ∧ w0.heap[w.heap.size + 1]? = some (.cells #[.slice none 0 0] 99 (0, 0)) ∧ Below w.heap.size w w0 ∧ w0.cell? ⟨w.heap.size, 4, none⟩ = some (.int .u32 r.ino) ∧ w0.cell? ⟨w.heap.size + 1, 0, none⟩ = some (.slice none 0 0) ∧ w0.frozen? ⟨w.heap.size + 1, 0, none⟩ = false := by
 have e1 : w0.heap[w.heap.size]? = some (.cells (cellsR r) 50 (0, 0)) := by
  rw [hb.block _ (by rw [World.alloc_size', World.alloc_size']; omega), heap_alloc_old _ _ (by rw [World.alloc_size']; omega)]
  exact heap_alloc_new _ _
 have e2 : w0.heap[w.heap.size + 1]? = some (.cells #[.slice none 0 0] 99 (0, 0)) := by
  rw [hb.block _ (by rw [World.alloc_size', World.alloc_size']; omega)]
  have h := heap_alloc_new (w.alloc (.cells (cellsR r) 50)) (.cells #[.slice none 0 0] 99)
  rw [World.alloc_size'] at h
  exact h
 refine ⟨e1, e2, (((Below.refl _ _).alloc (Nat.le_refl _) _).alloc (by rw [World.alloc_size']; omega) _).trans (hb.mono (by rw [World.alloc_size', World.alloc_size']; omega)), by simp only [World.cell?, e1]; rfl, by simp only [World.cell?, e2]; rfl, by simp [World.frozen?, e2]⟩
set_option maxRecDepth 100000 in
set_option maxHeartbeats 16000000 in
theorem t_parts (r : R) (hr : r.Ok) (h1 : r.name.size ≤ maxLen) (h2 : r.name2.size ≤ maxLen) (w : World) : Calls Tryz.prog 55 #[r.val] w fun e w' => ∃ v, e = .returned v ∧ w'.ownsRow w.heap.size 125 4 v (partsL r).length (flatP (partsL r)) ∧ Below w.heap.size w w' := by
 have hchk := fun w => t_chk r hr h1 h2 w
 unfold R.val at hchk ⊢
 obtain ⟨ck, hck⟩ : ∃ b, checkB r = b := ⟨_, rfl⟩
 have HCK := zz hck
 have hce : checkE r = if ck = true then 0 else 2 := by unfold checkE; rw [hck]
 obtain ⟨LP, hLP⟩ : ∃ l, partsL r = l := ⟨_, rfl⟩
 rw [hLP]
 have HLP := zz hLP
 have hra := hr.act
 clear hck hLP
 cases ck
 · have HCE : Hid (checkE r = 2) := hce
   clear hce
   go_enter Tryz.func55, Tryz.ntmps55
   go_wp2_with (go_at_call 54; (with_reducible refine (hchk _).mono ?_); rw [HCE.out]; rintro e w0 ⟨rfl, hb⟩; obtain ⟨e1, e2, e3, c4, cb, fb⟩ := parts_start hb; have HB := zz (And.intro e1 (And.intro e2 e3)); clear hb e1 e2 e3)
   refine bodyPost_ret (results_box rfl _ _ (w.heap.size + 1) (.slice none 0 0) rfl (box_cell (pheap_set _ _ 0 _ _ _ HB.out.2.1))) rfl ?_
   have hL : partsL r = [] := by (unfold partsL; rw [HCK.out]; rfl)
   refine ⟨_, rfl, ?_, below_grown HB.out.2.2 (pgrown_set _ _ 0 _) (by omega)⟩
   rw [← HLP.out, hL]
   exact World.ownsRow_nil _ _ _ _
 · have HCE : Hid (checkE r = 0) := hce
   clear hce
   obtain ⟨wd, f, hkw, hf1⟩ := kindW_form r.act
   go_enter Tryz.func55, Tryz.ntmps55
   go_wp2_with (go_at_call 54; (with_reducible refine (hchk _).mono ?_); rw [HCE.out]; rintro e w0 ⟨rfl, hb⟩; obtain ⟨e1, e2, e3, c4, cb, fb⟩ := parts_start hb; have HB := zz (And.intro e1 (And.intro e2 e3)); clear hb e1 e2 e3)
   obtain ⟨Bo, hBo⟩ : ∃ B, w.heap.size + 1 = B := ⟨_, rfl⟩
   obtain ⟨Bw, hBw⟩ : ∃ B, w0.heap.size = B := ⟨_, rfl⟩
   have hq : StQ w r Bo Bw ⟨2, r.ino, ⟨#[]⟩, false⟩ [] (w0.alloc (.cells #[.int .u8 2, .int .u32 r.ino, .string ⟨#[]⟩, .bool false] 125)) := by
    obtain ⟨e1, e2, e3⟩ := HB.out
    refine ⟨(heap_alloc_old _ _ (lt_heap e1)).trans e1, by rw [← hBw]; exact heap_alloc_new _ _, ⟨_, by rw [← hBo]; exact (heap_alloc_old _ _ (lt_heap e2)).trans e2, World.ownsRow_nil _ _ _ _⟩, e3.alloc e3.size _, by omega, by have := lt_heap e2; omega, by simp⟩
   rw [hBo, hBw]
   generalize w0.alloc (.cells #[.int .u8 2, .int .u32 r.ino, .string ⟨#[]⟩, .bool false] 125) = W1 at hq ⊢
   have HQ := zz hq
   clear hq hBo hBw HB cb fb c4 hchk
   refine wp_region_rel (RelK W1.heap.size #[] (.bool true)) (phi [isKinds, isV (.pointer (some ⟨w.heap.size, 1, none⟩)), isV (.int .u8 r.act), isV (.agg #[.string wd, .bool (kEntry r.act), .bool (kKind r.act), .bool (kMove r.act), .bool (kSized r.act), .bool (kData r.act), f]), isV (.bool (kEntry r.act)), isV (.bool (!kEntry r.act))]) (by kernel_rfl) (by kernel_rfl) (by kernel_rfl) ((RelK.refl _).trans (RelK.of_below ⟨rfl, rfl, rfl, Nat.le_refl _, fun _ _ => rfl⟩ (Nat.le_refl _))) (fun _ _ _ a b => a.trans b) ?_ ?_ ?_
   · refine stays_phiR ?_
     simp only [List.forall_mem_cons]
     exact ⟨isKinds.stays, kv, kv, kv, kv, kv, fun _ h => absurd h (by simp)⟩
   · refine ⟨?_, ?_, ?_, ?_, ?_, ?_, trivial⟩
     · refine opR_mk rfl fun a W2 hB hp hq K hK => ?_
       have hs := hB.size
       clear hp hq hB
       go_simp
       refine (t_rkinds W2).mono ?_
       rintro e w' ⟨b, rfl, hm, hb, _⟩
       exact hK _ _ (RelK.of_below hb (by omega)) ⟨b, rfl, hm⟩
     · refine opR_mk rfl fun a W2 hB hp hq K hK => ?_
       have e1 : a.tmps[1]?.getD undef = .pointer (some ⟨w.heap.size, 0, none⟩) := hp 1 (by kernel_rfl)
       clear hp hq
       go_simp
       exact hK _ _ (RelK.refl _) rfl
     · refine opR_mk rfl fun a W2 hB hp hq K hK => ?_
       have e13 : a.tmps[13]?.getD undef = .pointer (some ⟨w.heap.size, 1, none⟩) := hq 1 _ (by kernel_rfl) rfl
       have cc : W2.cell? ⟨w.heap.size, 1, none⟩ = some (.int .u8 r.act) := by
        have hb := (hB.old w.heap.size (lt_heap HQ.out.rc)).trans HQ.out.rc
        simp only [World.cell?, hb]; rfl
       clear hp hq
       go_simp
       exact hK _ _ (RelK.refl _) rfl
     · refine opR_mk rfl fun a W2 hB hp hq K hK => ?_
       obtain ⟨b, e12, hm⟩ : isKinds (a.tmps[12]?.getD undef) W2 := hq 0 _ (by kernel_rfl) rfl
       have e14 : a.tmps[14]?.getD undef = .int .u8 r.act := hq 2 _ (by kernel_rfl) rfl
       have hlk := hm.look law8 Tryz.underlying119 (zeroK W2) (pkey8 hra)
       rw [show ((kindsM (.int .u8 r.act)).getD kind0) = .agg #[.string wd, .bool (kEntry r.act), .bool (kKind r.act), .bool (kMove r.act), .bool (kSized r.act), .bool (kData r.act), f] from hkw] at hlk
       clear hp hq
       go_simp
       exact hK _ _ (RelK.refl _) rfl
     · refine opR_mk rfl fun a W2 hB hp hq K hK => ?_
       have e15 : a.tmps[15]?.getD undef = .agg #[.string wd, .bool (kEntry r.act), .bool (kKind r.act), .bool (kMove r.act), .bool (kSized r.act), .bool (kData r.act), f] := hq 3 _ (by kernel_rfl) rfl
       clear hp hq
       go_simp
       exact hK _ _ (RelK.refl _) rfl
     · refine opR_mk rfl fun a W2 hB hp hq K hK => ?_
       have e16 : a.tmps[16]?.getD undef = .bool (kEntry r.act) := hq 4 _ (by kernel_rfl) rfl
       clear hp hq
       go_simp
       exact hK _ _ (RelK.refl _) rfl
   intro us W0 hB2 hv hst
   have HQ0 : Hid (StQ w r Bo Bw ⟨2, r.ino, ⟨#[]⟩, false⟩ [] W0) := HQ.out.mono ⟨hB2.os, hB2.tape, hB2.output, hB2.size, fun b hb => hB2.old b hb⟩
   have u5 : us 5 = .bool (!kEntry r.act) := hv 5 _ rfl rfl
   clear hv hst hB2 HQ hkw hf1
   simp only [putAll, Act.put, List.setIfInBounds_toArray, List.set_cons_succ, List.set_cons_zero, Nat.zero_add, Nat.reduceAdd, u5]
   have hbare := bare_of_check hr HCK.out

   have c1_0 := HQ0.out.cr 1 _ rfl
   have c2_0 := HQ0.out.cr 2 _ rfl
   have c3_0 := HQ0.out.cr 3 _ rfl
   have c5_0 := HQ0.out.cr 5 _ rfl
   have c6_0 := HQ0.out.cr 6 _ rfl
   have c7_0 := HQ0.out.cr 7 _ rfl
   have c8_0 := HQ0.out.cr 8 _ rfl
   have o0_0 := HQ0.out.cw 0 _ rfl
   have o1_0 := HQ0.out.cw 1 _ rfl
   have o2_0 := HQ0.out.cw 2 _ rfl
   have o3_0 := HQ0.out.cw 3 _ rfl
   obtain ⟨a0, d0, hb0, hr0⟩ := HQ0.out.out2 0 rfl
   have cb0 := box_cell hb0
   have fb0 := box_froz hb0
   have HR0 := zz (And.intro hb0 hr0)
   clear hb0 hr0
   cases hke : kEntry r.act
   · skip
     go_wp2_with (first
      | (go_at_call 110; (with_reducible refine (qp_write HQ0.out (by simp) _ _ _ _).mono ?_); rintro e W1 ⟨rfl, hq⟩; have HQ1 := zz hq; clear hq; have c1_1 := HQ1.out.cr 1 _ rfl; have c2_1 := HQ1.out.cr 2 _ rfl; have c3_1 := HQ1.out.cr 3 _ rfl; have c5_1 := HQ1.out.cr 5 _ rfl; have c6_1 := HQ1.out.cr 6 _ rfl; have c7_1 := HQ1.out.cr 7 _ rfl; have c8_1 := HQ1.out.cr 8 _ rfl; have o0_1 := HQ1.out.cw 0 _ rfl; have o1_1 := HQ1.out.cw 1 _ rfl; have o2_1 := HQ1.out.cw 2 _ rfl; have o3_1 := HQ1.out.cw 3 _ rfl; obtain ⟨a1, d1, hb1, hr1⟩ := HQ1.out.out2 1 rfl; have cb1 := box_cell hb1; have fb1 := box_froz hb1; have HR1 := zz (And.intro hb1 hr1); clear hb1 hr1))
     have hd := HQ1.out.done 1 rfl HR1.out.1 HR1.out.2
     refine bodyPost_ret (results_box rfl _ _ Bo _ rfl hd.1) rfl ?_
     refine ⟨_, rfl, ?_, hd.2.2⟩
     have hL : partsL r = (([] : List Pt) ++ [⟨2, r.ino, ⟨#[]⟩, true⟩]) := by (unfold partsL; simp [HCK.out, hke])
     rw [← HLP.out, hL]
     exact hd.2.1
   · cases h4 : (r.act == 4)
     · have hold : (r.old != 0) = false := by (have h0 : kMove r.act = false := by (unfold kMove; simpa using h4)); have := hbare.old h0; simp [this]
       go_wp2_with (first
        | (at_builtin; refine wpList_append_pt rfl (.tmp 67) (.tmp 71) rfl (Bw + 1) _ ((([] : List Pt) ++ [⟨1, r.dir, r.name, true⟩]) ++ [⟨2, r.ino, ⟨#[]⟩, true⟩]) 2 3 rfl rfl rfl (HR2.out.2.alloc _) _ ⟨2, r.dir, ⟨#[]⟩, false⟩ rfl (new_at _ _ _ (by simp)) (by simp) (le_alloc (lt_heap HQ2.out.own)) ?_; intro x3 y3 Y3 h2 h3; obtain ⟨cy3, fy3, gy3, iy3, hz, hq⟩ := qp_append HQ2.out (by simp) _ 2 3 rfl rfl HR2.out.1 HR2.out.2 h2 h3; clear h2 h3; generalize hW3 : World.setCell Y3 _ _ = W3 at hq hz; have HQ3 := zz hq; have HR3 := zz hz; have cb3 := box_cell hz.1; have fb3 := box_froz hz.1; clear hq hz; have c1_3 := HQ3.out.cr 1 _ rfl; have c2_3 := HQ3.out.cr 2 _ rfl; have c3_3 := HQ3.out.cr 3 _ rfl; have c5_3 := HQ3.out.cr 5 _ rfl; have c6_3 := HQ3.out.cr 6 _ rfl; have c7_3 := HQ3.out.cr 7 _ rfl; have c8_3 := HQ3.out.cr 8 _ rfl; have o0_3 := HQ3.out.cw 0 _ rfl; have o1_3 := HQ3.out.cw 1 _ rfl; have o2_3 := HQ3.out.cw 2 _ rfl; have o3_3 := HQ3.out.cw 3 _ rfl)
        | (go_at_call 110; (with_reducible refine (qp_write HQ1.out (by simp) _ _ _ _).mono ?_); rintro e W2 ⟨rfl, hq⟩; have HQ2 := zz hq; clear hq; have c1_2 := HQ2.out.cr 1 _ rfl; have c2_2 := HQ2.out.cr 2 _ rfl; have c3_2 := HQ2.out.cr 3 _ rfl; have c5_2 := HQ2.out.cr 5 _ rfl; have c6_2 := HQ2.out.cr 6 _ rfl; have c7_2 := HQ2.out.cr 7 _ rfl; have c8_2 := HQ2.out.cr 8 _ rfl; have o0_2 := HQ2.out.cw 0 _ rfl; have o1_2 := HQ2.out.cw 1 _ rfl; have o2_2 := HQ2.out.cw 2 _ rfl; have o3_2 := HQ2.out.cw 3 _ rfl; obtain ⟨a2, d2, hb2, hr2⟩ := HQ2.out.out2 2 rfl; have cb2 := box_cell hb2; have fb2 := box_froz hb2; have HR2 := zz (And.intro hb2 hr2); clear hb2 hr2)
        | (go_at_call 110; (with_reducible refine (qp_write HQ0.out (by simp) _ _ _ _).mono ?_); rintro e W1 ⟨rfl, hq⟩; have HQ1 := zz hq; clear hq; have c1_1 := HQ1.out.cr 1 _ rfl; have c2_1 := HQ1.out.cr 2 _ rfl; have c3_1 := HQ1.out.cr 3 _ rfl; have c5_1 := HQ1.out.cr 5 _ rfl; have c6_1 := HQ1.out.cr 6 _ rfl; have c7_1 := HQ1.out.cr 7 _ rfl; have c8_1 := HQ1.out.cr 8 _ rfl; have o0_1 := HQ1.out.cw 0 _ rfl; have o1_1 := HQ1.out.cw 1 _ rfl; have o2_1 := HQ1.out.cw 2 _ rfl; have o3_1 := HQ1.out.cw 3 _ rfl; obtain ⟨a1, d1, hb1, hr1⟩ := HQ1.out.out2 1 rfl; have cb1 := box_cell hb1; have fb1 := box_froz hb1; have HR1 := zz (And.intro hb1 hr1); clear hb1 hr1))
       have hd := HQ3.out.done 3 rfl HR3.out.1 HR3.out.2
       refine bodyPost_ret (results_box rfl _ _ Bo _ rfl hd.1) rfl ?_
       refine ⟨_, rfl, ?_, hd.2.2⟩
       have hL : partsL r = (((([] : List Pt) ++ [⟨1, r.dir, r.name, true⟩]) ++ [⟨2, r.ino, ⟨#[]⟩, true⟩]) ++ [⟨2, r.dir, ⟨#[]⟩, false⟩]) := by (unfold partsL; simp [HCK.out, hke, h4, hold])
       rw [← HLP.out, hL]
       exact hd.2.1
     · cases ho : (r.old != 0) <;> cases hk2 : (r.kind == 2)
       · skip
         go_wp2_with (first
          | (at_builtin; refine wpList_append_pt rfl (.tmp 76) (.tmp 80) rfl (Bw + 1) _ ((((([] : List Pt) ++ [⟨1, r.dir, r.name, true⟩]) ++ [⟨1, r.dir2, r.name2, true⟩]) ++ [⟨2, r.ino, ⟨#[]⟩, true⟩]) ++ [⟨2, r.dir, ⟨#[]⟩, false⟩]) 4 5 rfl rfl rfl (HR4.out.2.alloc _) _ ⟨2, r.dir2, ⟨#[]⟩, false⟩ rfl (new_at _ _ _ (by simp)) (by simp) (le_alloc (lt_heap HQ4.out.own)) ?_; intro x5 y5 Y5 h2 h3; obtain ⟨cy5, fy5, gy5, iy5, hz, hq⟩ := qp_append HQ4.out (by simp) _ 4 5 rfl rfl HR4.out.1 HR4.out.2 h2 h3; clear h2 h3; generalize hW5 : World.setCell Y5 _ _ = W5 at hq hz; have HQ5 := zz hq; have HR5 := zz hz; have cb5 := box_cell hz.1; have fb5 := box_froz hz.1; clear hq hz; have c1_5 := HQ5.out.cr 1 _ rfl; have c2_5 := HQ5.out.cr 2 _ rfl; have c3_5 := HQ5.out.cr 3 _ rfl; have c5_5 := HQ5.out.cr 5 _ rfl; have c6_5 := HQ5.out.cr 6 _ rfl; have c7_5 := HQ5.out.cr 7 _ rfl; have c8_5 := HQ5.out.cr 8 _ rfl; have o0_5 := HQ5.out.cw 0 _ rfl; have o1_5 := HQ5.out.cw 1 _ rfl; have o2_5 := HQ5.out.cw 2 _ rfl; have o3_5 := HQ5.out.cw 3 _ rfl)
          | (at_builtin; refine wpList_append_pt rfl (.tmp 67) (.tmp 71) rfl (Bw + 1) _ (((([] : List Pt) ++ [⟨1, r.dir, r.name, true⟩]) ++ [⟨1, r.dir2, r.name2, true⟩]) ++ [⟨2, r.ino, ⟨#[]⟩, true⟩]) 3 4 rfl rfl rfl (HR3.out.2.alloc _) _ ⟨2, r.dir, ⟨#[]⟩, false⟩ rfl (new_at _ _ _ (by simp)) (by simp) (le_alloc (lt_heap HQ3.out.own)) ?_; intro x4 y4 Y4 h2 h3; obtain ⟨cy4, fy4, gy4, iy4, hz, hq⟩ := qp_append HQ3.out (by simp) _ 3 4 rfl rfl HR3.out.1 HR3.out.2 h2 h3; clear h2 h3; generalize hW4 : World.setCell Y4 _ _ = W4 at hq hz; have HQ4 := zz hq; have HR4 := zz hz; have cb4 := box_cell hz.1; have fb4 := box_froz hz.1; clear hq hz; have c1_4 := HQ4.out.cr 1 _ rfl; have c2_4 := HQ4.out.cr 2 _ rfl; have c3_4 := HQ4.out.cr 3 _ rfl; have c5_4 := HQ4.out.cr 5 _ rfl; have c6_4 := HQ4.out.cr 6 _ rfl; have c7_4 := HQ4.out.cr 7 _ rfl; have c8_4 := HQ4.out.cr 8 _ rfl; have o0_4 := HQ4.out.cw 0 _ rfl; have o1_4 := HQ4.out.cw 1 _ rfl; have o2_4 := HQ4.out.cw 2 _ rfl; have o3_4 := HQ4.out.cw 3 _ rfl)
          | (go_at_call 110; (with_reducible refine (qp_write HQ2.out (by simp) _ _ _ _).mono ?_); rintro e W3 ⟨rfl, hq⟩; have HQ3 := zz hq; clear hq; have c1_3 := HQ3.out.cr 1 _ rfl; have c2_3 := HQ3.out.cr 2 _ rfl; have c3_3 := HQ3.out.cr 3 _ rfl; have c5_3 := HQ3.out.cr 5 _ rfl; have c6_3 := HQ3.out.cr 6 _ rfl; have c7_3 := HQ3.out.cr 7 _ rfl; have c8_3 := HQ3.out.cr 8 _ rfl; have o0_3 := HQ3.out.cw 0 _ rfl; have o1_3 := HQ3.out.cw 1 _ rfl; have o2_3 := HQ3.out.cw 2 _ rfl; have o3_3 := HQ3.out.cw 3 _ rfl; obtain ⟨a3, d3, hb3, hr3⟩ := HQ3.out.out2 3 rfl; have cb3 := box_cell hb3; have fb3 := box_froz hb3; have HR3 := zz (And.intro hb3 hr3); clear hb3 hr3)
          | (go_at_call 110; (with_reducible refine (qp_write HQ1.out (by simp) _ _ _ _).mono ?_); rintro e W2 ⟨rfl, hq⟩; have HQ2 := zz hq; clear hq; have c1_2 := HQ2.out.cr 1 _ rfl; have c2_2 := HQ2.out.cr 2 _ rfl; have c3_2 := HQ2.out.cr 3 _ rfl; have c5_2 := HQ2.out.cr 5 _ rfl; have c6_2 := HQ2.out.cr 6 _ rfl; have c7_2 := HQ2.out.cr 7 _ rfl; have c8_2 := HQ2.out.cr 8 _ rfl; have o0_2 := HQ2.out.cw 0 _ rfl; have o1_2 := HQ2.out.cw 1 _ rfl; have o2_2 := HQ2.out.cw 2 _ rfl; have o3_2 := HQ2.out.cw 3 _ rfl; obtain ⟨a2, d2, hb2, hr2⟩ := HQ2.out.out2 2 rfl; have cb2 := box_cell hb2; have fb2 := box_froz hb2; have HR2 := zz (And.intro hb2 hr2); clear hb2 hr2)
          | (go_at_call 110; (with_reducible refine (qp_write HQ0.out (by simp) _ _ _ _).mono ?_); rintro e W1 ⟨rfl, hq⟩; have HQ1 := zz hq; clear hq; have c1_1 := HQ1.out.cr 1 _ rfl; have c2_1 := HQ1.out.cr 2 _ rfl; have c3_1 := HQ1.out.cr 3 _ rfl; have c5_1 := HQ1.out.cr 5 _ rfl; have c6_1 := HQ1.out.cr 6 _ rfl; have c7_1 := HQ1.out.cr 7 _ rfl; have c8_1 := HQ1.out.cr 8 _ rfl; have o0_1 := HQ1.out.cw 0 _ rfl; have o1_1 := HQ1.out.cw 1 _ rfl; have o2_1 := HQ1.out.cw 2 _ rfl; have o3_1 := HQ1.out.cw 3 _ rfl; obtain ⟨a1, d1, hb1, hr1⟩ := HQ1.out.out2 1 rfl; have cb1 := box_cell hb1; have fb1 := box_froz hb1; have HR1 := zz (And.intro hb1 hr1); clear hb1 hr1))
         have hd := HQ5.out.done 5 rfl HR5.out.1 HR5.out.2
         refine bodyPost_ret (results_box rfl _ _ Bo _ rfl hd.1) rfl ?_
         refine ⟨_, rfl, ?_, hd.2.2⟩
         have hL : partsL r = (((((([] : List Pt) ++ [⟨1, r.dir, r.name, true⟩]) ++ [⟨1, r.dir2, r.name2, true⟩]) ++ [⟨2, r.ino, ⟨#[]⟩, true⟩]) ++ [⟨2, r.dir, ⟨#[]⟩, false⟩]) ++ [⟨2, r.dir2, ⟨#[]⟩, false⟩]) := by (unfold partsL; simp [HCK.out, hke, h4, ho, hk2])
         rw [← HLP.out, hL]
         exact hd.2.1
       · skip
         go_wp2_with (first
          | (at_builtin; refine wpList_append_pt rfl (.tmp 76) (.tmp 80) rfl (Bw + 1) _ (((((([] : List Pt) ++ [⟨1, r.dir, r.name, true⟩]) ++ [⟨1, r.dir2, r.name2, true⟩]) ++ [⟨2, r.ino, ⟨#[]⟩, true⟩]) ++ [⟨3, 0, ⟨#[]⟩, true⟩]) ++ [⟨2, r.dir, ⟨#[]⟩, false⟩]) 5 6 rfl rfl rfl (HR5.out.2.alloc _) _ ⟨2, r.dir2, ⟨#[]⟩, false⟩ rfl (new_at _ _ _ (by simp)) (by simp) (le_alloc (lt_heap HQ5.out.own)) ?_; intro x6 y6 Y6 h2 h3; obtain ⟨cy6, fy6, gy6, iy6, hz, hq⟩ := qp_append HQ5.out (by simp) _ 5 6 rfl rfl HR5.out.1 HR5.out.2 h2 h3; clear h2 h3; generalize hW6 : World.setCell Y6 _ _ = W6 at hq hz; have HQ6 := zz hq; have HR6 := zz hz; have cb6 := box_cell hz.1; have fb6 := box_froz hz.1; clear hq hz; have c1_6 := HQ6.out.cr 1 _ rfl; have c2_6 := HQ6.out.cr 2 _ rfl; have c3_6 := HQ6.out.cr 3 _ rfl; have c5_6 := HQ6.out.cr 5 _ rfl; have c6_6 := HQ6.out.cr 6 _ rfl; have c7_6 := HQ6.out.cr 7 _ rfl; have c8_6 := HQ6.out.cr 8 _ rfl; have o0_6 := HQ6.out.cw 0 _ rfl; have o1_6 := HQ6.out.cw 1 _ rfl; have o2_6 := HQ6.out.cw 2 _ rfl; have o3_6 := HQ6.out.cw 3 _ rfl)
          | (at_builtin; refine wpList_append_pt rfl (.tmp 67) (.tmp 71) rfl (Bw + 1) _ ((((([] : List Pt) ++ [⟨1, r.dir, r.name, true⟩]) ++ [⟨1, r.dir2, r.name2, true⟩]) ++ [⟨2, r.ino, ⟨#[]⟩, true⟩]) ++ [⟨3, 0, ⟨#[]⟩, true⟩]) 4 5 rfl rfl rfl (HR4.out.2.alloc _) _ ⟨2, r.dir, ⟨#[]⟩, false⟩ rfl (new_at _ _ _ (by simp)) (by simp) (le_alloc (lt_heap HQ4.out.own)) ?_; intro x5 y5 Y5 h2 h3; obtain ⟨cy5, fy5, gy5, iy5, hz, hq⟩ := qp_append HQ4.out (by simp) _ 4 5 rfl rfl HR4.out.1 HR4.out.2 h2 h3; clear h2 h3; generalize hW5 : World.setCell Y5 _ _ = W5 at hq hz; have HQ5 := zz hq; have HR5 := zz hz; have cb5 := box_cell hz.1; have fb5 := box_froz hz.1; clear hq hz; have c1_5 := HQ5.out.cr 1 _ rfl; have c2_5 := HQ5.out.cr 2 _ rfl; have c3_5 := HQ5.out.cr 3 _ rfl; have c5_5 := HQ5.out.cr 5 _ rfl; have c6_5 := HQ5.out.cr 6 _ rfl; have c7_5 := HQ5.out.cr 7 _ rfl; have c8_5 := HQ5.out.cr 8 _ rfl; have o0_5 := HQ5.out.cw 0 _ rfl; have o1_5 := HQ5.out.cw 1 _ rfl; have o2_5 := HQ5.out.cw 2 _ rfl; have o3_5 := HQ5.out.cw 3 _ rfl)
          | (go_at_call 110; (with_reducible refine (qp_write HQ3.out (by simp) _ _ _ _).mono ?_); rintro e W4 ⟨rfl, hq⟩; have HQ4 := zz hq; clear hq; have c1_4 := HQ4.out.cr 1 _ rfl; have c2_4 := HQ4.out.cr 2 _ rfl; have c3_4 := HQ4.out.cr 3 _ rfl; have c5_4 := HQ4.out.cr 5 _ rfl; have c6_4 := HQ4.out.cr 6 _ rfl; have c7_4 := HQ4.out.cr 7 _ rfl; have c8_4 := HQ4.out.cr 8 _ rfl; have o0_4 := HQ4.out.cw 0 _ rfl; have o1_4 := HQ4.out.cw 1 _ rfl; have o2_4 := HQ4.out.cw 2 _ rfl; have o3_4 := HQ4.out.cw 3 _ rfl; obtain ⟨a4, d4, hb4, hr4⟩ := HQ4.out.out2 4 rfl; have cb4 := box_cell hb4; have fb4 := box_froz hb4; have HR4 := zz (And.intro hb4 hr4); clear hb4 hr4)
          | (go_at_call 110; (with_reducible refine (qp_write HQ2.out (by simp) _ _ _ _).mono ?_); rintro e W3 ⟨rfl, hq⟩; have HQ3 := zz hq; clear hq; have c1_3 := HQ3.out.cr 1 _ rfl; have c2_3 := HQ3.out.cr 2 _ rfl; have c3_3 := HQ3.out.cr 3 _ rfl; have c5_3 := HQ3.out.cr 5 _ rfl; have c6_3 := HQ3.out.cr 6 _ rfl; have c7_3 := HQ3.out.cr 7 _ rfl; have c8_3 := HQ3.out.cr 8 _ rfl; have o0_3 := HQ3.out.cw 0 _ rfl; have o1_3 := HQ3.out.cw 1 _ rfl; have o2_3 := HQ3.out.cw 2 _ rfl; have o3_3 := HQ3.out.cw 3 _ rfl; obtain ⟨a3, d3, hb3, hr3⟩ := HQ3.out.out2 3 rfl; have cb3 := box_cell hb3; have fb3 := box_froz hb3; have HR3 := zz (And.intro hb3 hr3); clear hb3 hr3)
          | (go_at_call 110; (with_reducible refine (qp_write HQ1.out (by simp) _ _ _ _).mono ?_); rintro e W2 ⟨rfl, hq⟩; have HQ2 := zz hq; clear hq; have c1_2 := HQ2.out.cr 1 _ rfl; have c2_2 := HQ2.out.cr 2 _ rfl; have c3_2 := HQ2.out.cr 3 _ rfl; have c5_2 := HQ2.out.cr 5 _ rfl; have c6_2 := HQ2.out.cr 6 _ rfl; have c7_2 := HQ2.out.cr 7 _ rfl; have c8_2 := HQ2.out.cr 8 _ rfl; have o0_2 := HQ2.out.cw 0 _ rfl; have o1_2 := HQ2.out.cw 1 _ rfl; have o2_2 := HQ2.out.cw 2 _ rfl; have o3_2 := HQ2.out.cw 3 _ rfl; obtain ⟨a2, d2, hb2, hr2⟩ := HQ2.out.out2 2 rfl; have cb2 := box_cell hb2; have fb2 := box_froz hb2; have HR2 := zz (And.intro hb2 hr2); clear hb2 hr2)
          | (go_at_call 110; (with_reducible refine (qp_write HQ0.out (by simp) _ _ _ _).mono ?_); rintro e W1 ⟨rfl, hq⟩; have HQ1 := zz hq; clear hq; have c1_1 := HQ1.out.cr 1 _ rfl; have c2_1 := HQ1.out.cr 2 _ rfl; have c3_1 := HQ1.out.cr 3 _ rfl; have c5_1 := HQ1.out.cr 5 _ rfl; have c6_1 := HQ1.out.cr 6 _ rfl; have c7_1 := HQ1.out.cr 7 _ rfl; have c8_1 := HQ1.out.cr 8 _ rfl; have o0_1 := HQ1.out.cw 0 _ rfl; have o1_1 := HQ1.out.cw 1 _ rfl; have o2_1 := HQ1.out.cw 2 _ rfl; have o3_1 := HQ1.out.cw 3 _ rfl; obtain ⟨a1, d1, hb1, hr1⟩ := HQ1.out.out2 1 rfl; have cb1 := box_cell hb1; have fb1 := box_froz hb1; have HR1 := zz (And.intro hb1 hr1); clear hb1 hr1))
         have hd := HQ6.out.done 6 rfl HR6.out.1 HR6.out.2
         refine bodyPost_ret (results_box rfl _ _ Bo _ rfl hd.1) rfl ?_
         refine ⟨_, rfl, ?_, hd.2.2⟩
         have hL : partsL r = ((((((([] : List Pt) ++ [⟨1, r.dir, r.name, true⟩]) ++ [⟨1, r.dir2, r.name2, true⟩]) ++ [⟨2, r.ino, ⟨#[]⟩, true⟩]) ++ [⟨3, 0, ⟨#[]⟩, true⟩]) ++ [⟨2, r.dir, ⟨#[]⟩, false⟩]) ++ [⟨2, r.dir2, ⟨#[]⟩, false⟩]) := by (unfold partsL; simp [HCK.out, hke, h4, ho, hk2])
         rw [← HLP.out, hL]
         exact hd.2.1
       · skip
         go_wp2_with (first
          | (at_builtin; refine wpList_append_pt rfl (.tmp 76) (.tmp 80) rfl (Bw + 1) _ (((((([] : List Pt) ++ [⟨1, r.dir, r.name, true⟩]) ++ [⟨1, r.dir2, r.name2, true⟩]) ++ [⟨2, r.ino, ⟨#[]⟩, true⟩]) ++ [⟨2, r.old, ⟨#[]⟩, true⟩]) ++ [⟨2, r.dir, ⟨#[]⟩, false⟩]) 5 6 rfl rfl rfl (HR5.out.2.alloc _) _ ⟨2, r.dir2, ⟨#[]⟩, false⟩ rfl (new_at _ _ _ (by simp)) (by simp) (le_alloc (lt_heap HQ5.out.own)) ?_; intro x6 y6 Y6 h2 h3; obtain ⟨cy6, fy6, gy6, iy6, hz, hq⟩ := qp_append HQ5.out (by simp) _ 5 6 rfl rfl HR5.out.1 HR5.out.2 h2 h3; clear h2 h3; generalize hW6 : World.setCell Y6 _ _ = W6 at hq hz; have HQ6 := zz hq; have HR6 := zz hz; have cb6 := box_cell hz.1; have fb6 := box_froz hz.1; clear hq hz; have c1_6 := HQ6.out.cr 1 _ rfl; have c2_6 := HQ6.out.cr 2 _ rfl; have c3_6 := HQ6.out.cr 3 _ rfl; have c5_6 := HQ6.out.cr 5 _ rfl; have c6_6 := HQ6.out.cr 6 _ rfl; have c7_6 := HQ6.out.cr 7 _ rfl; have c8_6 := HQ6.out.cr 8 _ rfl; have o0_6 := HQ6.out.cw 0 _ rfl; have o1_6 := HQ6.out.cw 1 _ rfl; have o2_6 := HQ6.out.cw 2 _ rfl; have o3_6 := HQ6.out.cw 3 _ rfl)
          | (at_builtin; refine wpList_append_pt rfl (.tmp 67) (.tmp 71) rfl (Bw + 1) _ ((((([] : List Pt) ++ [⟨1, r.dir, r.name, true⟩]) ++ [⟨1, r.dir2, r.name2, true⟩]) ++ [⟨2, r.ino, ⟨#[]⟩, true⟩]) ++ [⟨2, r.old, ⟨#[]⟩, true⟩]) 4 5 rfl rfl rfl (HR4.out.2.alloc _) _ ⟨2, r.dir, ⟨#[]⟩, false⟩ rfl (new_at _ _ _ (by simp)) (by simp) (le_alloc (lt_heap HQ4.out.own)) ?_; intro x5 y5 Y5 h2 h3; obtain ⟨cy5, fy5, gy5, iy5, hz, hq⟩ := qp_append HQ4.out (by simp) _ 4 5 rfl rfl HR4.out.1 HR4.out.2 h2 h3; clear h2 h3; generalize hW5 : World.setCell Y5 _ _ = W5 at hq hz; have HQ5 := zz hq; have HR5 := zz hz; have cb5 := box_cell hz.1; have fb5 := box_froz hz.1; clear hq hz; have c1_5 := HQ5.out.cr 1 _ rfl; have c2_5 := HQ5.out.cr 2 _ rfl; have c3_5 := HQ5.out.cr 3 _ rfl; have c5_5 := HQ5.out.cr 5 _ rfl; have c6_5 := HQ5.out.cr 6 _ rfl; have c7_5 := HQ5.out.cr 7 _ rfl; have c8_5 := HQ5.out.cr 8 _ rfl; have o0_5 := HQ5.out.cw 0 _ rfl; have o1_5 := HQ5.out.cw 1 _ rfl; have o2_5 := HQ5.out.cw 2 _ rfl; have o3_5 := HQ5.out.cw 3 _ rfl)
          | (go_at_call 110; (with_reducible refine (qp_write HQ3.out (by simp) _ _ _ _).mono ?_); rintro e W4 ⟨rfl, hq⟩; have HQ4 := zz hq; clear hq; have c1_4 := HQ4.out.cr 1 _ rfl; have c2_4 := HQ4.out.cr 2 _ rfl; have c3_4 := HQ4.out.cr 3 _ rfl; have c5_4 := HQ4.out.cr 5 _ rfl; have c6_4 := HQ4.out.cr 6 _ rfl; have c7_4 := HQ4.out.cr 7 _ rfl; have c8_4 := HQ4.out.cr 8 _ rfl; have o0_4 := HQ4.out.cw 0 _ rfl; have o1_4 := HQ4.out.cw 1 _ rfl; have o2_4 := HQ4.out.cw 2 _ rfl; have o3_4 := HQ4.out.cw 3 _ rfl; obtain ⟨a4, d4, hb4, hr4⟩ := HQ4.out.out2 4 rfl; have cb4 := box_cell hb4; have fb4 := box_froz hb4; have HR4 := zz (And.intro hb4 hr4); clear hb4 hr4)
          | (go_at_call 110; (with_reducible refine (qp_write HQ2.out (by simp) _ _ _ _).mono ?_); rintro e W3 ⟨rfl, hq⟩; have HQ3 := zz hq; clear hq; have c1_3 := HQ3.out.cr 1 _ rfl; have c2_3 := HQ3.out.cr 2 _ rfl; have c3_3 := HQ3.out.cr 3 _ rfl; have c5_3 := HQ3.out.cr 5 _ rfl; have c6_3 := HQ3.out.cr 6 _ rfl; have c7_3 := HQ3.out.cr 7 _ rfl; have c8_3 := HQ3.out.cr 8 _ rfl; have o0_3 := HQ3.out.cw 0 _ rfl; have o1_3 := HQ3.out.cw 1 _ rfl; have o2_3 := HQ3.out.cw 2 _ rfl; have o3_3 := HQ3.out.cw 3 _ rfl; obtain ⟨a3, d3, hb3, hr3⟩ := HQ3.out.out2 3 rfl; have cb3 := box_cell hb3; have fb3 := box_froz hb3; have HR3 := zz (And.intro hb3 hr3); clear hb3 hr3)
          | (go_at_call 110; (with_reducible refine (qp_write HQ1.out (by simp) _ _ _ _).mono ?_); rintro e W2 ⟨rfl, hq⟩; have HQ2 := zz hq; clear hq; have c1_2 := HQ2.out.cr 1 _ rfl; have c2_2 := HQ2.out.cr 2 _ rfl; have c3_2 := HQ2.out.cr 3 _ rfl; have c5_2 := HQ2.out.cr 5 _ rfl; have c6_2 := HQ2.out.cr 6 _ rfl; have c7_2 := HQ2.out.cr 7 _ rfl; have c8_2 := HQ2.out.cr 8 _ rfl; have o0_2 := HQ2.out.cw 0 _ rfl; have o1_2 := HQ2.out.cw 1 _ rfl; have o2_2 := HQ2.out.cw 2 _ rfl; have o3_2 := HQ2.out.cw 3 _ rfl; obtain ⟨a2, d2, hb2, hr2⟩ := HQ2.out.out2 2 rfl; have cb2 := box_cell hb2; have fb2 := box_froz hb2; have HR2 := zz (And.intro hb2 hr2); clear hb2 hr2)
          | (go_at_call 110; (with_reducible refine (qp_write HQ0.out (by simp) _ _ _ _).mono ?_); rintro e W1 ⟨rfl, hq⟩; have HQ1 := zz hq; clear hq; have c1_1 := HQ1.out.cr 1 _ rfl; have c2_1 := HQ1.out.cr 2 _ rfl; have c3_1 := HQ1.out.cr 3 _ rfl; have c5_1 := HQ1.out.cr 5 _ rfl; have c6_1 := HQ1.out.cr 6 _ rfl; have c7_1 := HQ1.out.cr 7 _ rfl; have c8_1 := HQ1.out.cr 8 _ rfl; have o0_1 := HQ1.out.cw 0 _ rfl; have o1_1 := HQ1.out.cw 1 _ rfl; have o2_1 := HQ1.out.cw 2 _ rfl; have o3_1 := HQ1.out.cw 3 _ rfl; obtain ⟨a1, d1, hb1, hr1⟩ := HQ1.out.out2 1 rfl; have cb1 := box_cell hb1; have fb1 := box_froz hb1; have HR1 := zz (And.intro hb1 hr1); clear hb1 hr1))
         have hd := HQ6.out.done 6 rfl HR6.out.1 HR6.out.2
         refine bodyPost_ret (results_box rfl _ _ Bo _ rfl hd.1) rfl ?_
         refine ⟨_, rfl, ?_, hd.2.2⟩
         have hL : partsL r = ((((((([] : List Pt) ++ [⟨1, r.dir, r.name, true⟩]) ++ [⟨1, r.dir2, r.name2, true⟩]) ++ [⟨2, r.ino, ⟨#[]⟩, true⟩]) ++ [⟨2, r.old, ⟨#[]⟩, true⟩]) ++ [⟨2, r.dir, ⟨#[]⟩, false⟩]) ++ [⟨2, r.dir2, ⟨#[]⟩, false⟩]) := by (unfold partsL; simp [HCK.out, hke, h4, ho, hk2])
         rw [← HLP.out, hL]
         exact hd.2.1
       · skip
         go_wp2_with (first
          | (at_builtin; refine wpList_append_pt rfl (.tmp 76) (.tmp 80) rfl (Bw + 1) _ ((((((([] : List Pt) ++ [⟨1, r.dir, r.name, true⟩]) ++ [⟨1, r.dir2, r.name2, true⟩]) ++ [⟨2, r.ino, ⟨#[]⟩, true⟩]) ++ [⟨2, r.old, ⟨#[]⟩, true⟩]) ++ [⟨3, 0, ⟨#[]⟩, true⟩]) ++ [⟨2, r.dir, ⟨#[]⟩, false⟩]) 6 7 rfl rfl rfl (HR6.out.2.alloc _) _ ⟨2, r.dir2, ⟨#[]⟩, false⟩ rfl (new_at _ _ _ (by simp)) (by simp) (le_alloc (lt_heap HQ6.out.own)) ?_; intro x7 y7 Y7 h2 h3; obtain ⟨cy7, fy7, gy7, iy7, hz, hq⟩ := qp_append HQ6.out (by simp) _ 6 7 rfl rfl HR6.out.1 HR6.out.2 h2 h3; clear h2 h3; generalize hW7 : World.setCell Y7 _ _ = W7 at hq hz; have HQ7 := zz hq; have HR7 := zz hz; have cb7 := box_cell hz.1; have fb7 := box_froz hz.1; clear hq hz; have c1_7 := HQ7.out.cr 1 _ rfl; have c2_7 := HQ7.out.cr 2 _ rfl; have c3_7 := HQ7.out.cr 3 _ rfl; have c5_7 := HQ7.out.cr 5 _ rfl; have c6_7 := HQ7.out.cr 6 _ rfl; have c7_7 := HQ7.out.cr 7 _ rfl; have c8_7 := HQ7.out.cr 8 _ rfl; have o0_7 := HQ7.out.cw 0 _ rfl; have o1_7 := HQ7.out.cw 1 _ rfl; have o2_7 := HQ7.out.cw 2 _ rfl; have o3_7 := HQ7.out.cw 3 _ rfl)
          | (at_builtin; refine wpList_append_pt rfl (.tmp 67) (.tmp 71) rfl (Bw + 1) _ (((((([] : List Pt) ++ [⟨1, r.dir, r.name, true⟩]) ++ [⟨1, r.dir2, r.name2, true⟩]) ++ [⟨2, r.ino, ⟨#[]⟩, true⟩]) ++ [⟨2, r.old, ⟨#[]⟩, true⟩]) ++ [⟨3, 0, ⟨#[]⟩, true⟩]) 5 6 rfl rfl rfl (HR5.out.2.alloc _) _ ⟨2, r.dir, ⟨#[]⟩, false⟩ rfl (new_at _ _ _ (by simp)) (by simp) (le_alloc (lt_heap HQ5.out.own)) ?_; intro x6 y6 Y6 h2 h3; obtain ⟨cy6, fy6, gy6, iy6, hz, hq⟩ := qp_append HQ5.out (by simp) _ 5 6 rfl rfl HR5.out.1 HR5.out.2 h2 h3; clear h2 h3; generalize hW6 : World.setCell Y6 _ _ = W6 at hq hz; have HQ6 := zz hq; have HR6 := zz hz; have cb6 := box_cell hz.1; have fb6 := box_froz hz.1; clear hq hz; have c1_6 := HQ6.out.cr 1 _ rfl; have c2_6 := HQ6.out.cr 2 _ rfl; have c3_6 := HQ6.out.cr 3 _ rfl; have c5_6 := HQ6.out.cr 5 _ rfl; have c6_6 := HQ6.out.cr 6 _ rfl; have c7_6 := HQ6.out.cr 7 _ rfl; have c8_6 := HQ6.out.cr 8 _ rfl; have o0_6 := HQ6.out.cw 0 _ rfl; have o1_6 := HQ6.out.cw 1 _ rfl; have o2_6 := HQ6.out.cw 2 _ rfl; have o3_6 := HQ6.out.cw 3 _ rfl)
          | (go_at_call 110; (with_reducible refine (qp_write HQ4.out (by simp) _ _ _ _).mono ?_); rintro e W5 ⟨rfl, hq⟩; have HQ5 := zz hq; clear hq; have c1_5 := HQ5.out.cr 1 _ rfl; have c2_5 := HQ5.out.cr 2 _ rfl; have c3_5 := HQ5.out.cr 3 _ rfl; have c5_5 := HQ5.out.cr 5 _ rfl; have c6_5 := HQ5.out.cr 6 _ rfl; have c7_5 := HQ5.out.cr 7 _ rfl; have c8_5 := HQ5.out.cr 8 _ rfl; have o0_5 := HQ5.out.cw 0 _ rfl; have o1_5 := HQ5.out.cw 1 _ rfl; have o2_5 := HQ5.out.cw 2 _ rfl; have o3_5 := HQ5.out.cw 3 _ rfl; obtain ⟨a5, d5, hb5, hr5⟩ := HQ5.out.out2 5 rfl; have cb5 := box_cell hb5; have fb5 := box_froz hb5; have HR5 := zz (And.intro hb5 hr5); clear hb5 hr5)
          | (go_at_call 110; (with_reducible refine (qp_write HQ3.out (by simp) _ _ _ _).mono ?_); rintro e W4 ⟨rfl, hq⟩; have HQ4 := zz hq; clear hq; have c1_4 := HQ4.out.cr 1 _ rfl; have c2_4 := HQ4.out.cr 2 _ rfl; have c3_4 := HQ4.out.cr 3 _ rfl; have c5_4 := HQ4.out.cr 5 _ rfl; have c6_4 := HQ4.out.cr 6 _ rfl; have c7_4 := HQ4.out.cr 7 _ rfl; have c8_4 := HQ4.out.cr 8 _ rfl; have o0_4 := HQ4.out.cw 0 _ rfl; have o1_4 := HQ4.out.cw 1 _ rfl; have o2_4 := HQ4.out.cw 2 _ rfl; have o3_4 := HQ4.out.cw 3 _ rfl; obtain ⟨a4, d4, hb4, hr4⟩ := HQ4.out.out2 4 rfl; have cb4 := box_cell hb4; have fb4 := box_froz hb4; have HR4 := zz (And.intro hb4 hr4); clear hb4 hr4)
          | (go_at_call 110; (with_reducible refine (qp_write HQ2.out (by simp) _ _ _ _).mono ?_); rintro e W3 ⟨rfl, hq⟩; have HQ3 := zz hq; clear hq; have c1_3 := HQ3.out.cr 1 _ rfl; have c2_3 := HQ3.out.cr 2 _ rfl; have c3_3 := HQ3.out.cr 3 _ rfl; have c5_3 := HQ3.out.cr 5 _ rfl; have c6_3 := HQ3.out.cr 6 _ rfl; have c7_3 := HQ3.out.cr 7 _ rfl; have c8_3 := HQ3.out.cr 8 _ rfl; have o0_3 := HQ3.out.cw 0 _ rfl; have o1_3 := HQ3.out.cw 1 _ rfl; have o2_3 := HQ3.out.cw 2 _ rfl; have o3_3 := HQ3.out.cw 3 _ rfl; obtain ⟨a3, d3, hb3, hr3⟩ := HQ3.out.out2 3 rfl; have cb3 := box_cell hb3; have fb3 := box_froz hb3; have HR3 := zz (And.intro hb3 hr3); clear hb3 hr3)
          | (go_at_call 110; (with_reducible refine (qp_write HQ1.out (by simp) _ _ _ _).mono ?_); rintro e W2 ⟨rfl, hq⟩; have HQ2 := zz hq; clear hq; have c1_2 := HQ2.out.cr 1 _ rfl; have c2_2 := HQ2.out.cr 2 _ rfl; have c3_2 := HQ2.out.cr 3 _ rfl; have c5_2 := HQ2.out.cr 5 _ rfl; have c6_2 := HQ2.out.cr 6 _ rfl; have c7_2 := HQ2.out.cr 7 _ rfl; have c8_2 := HQ2.out.cr 8 _ rfl; have o0_2 := HQ2.out.cw 0 _ rfl; have o1_2 := HQ2.out.cw 1 _ rfl; have o2_2 := HQ2.out.cw 2 _ rfl; have o3_2 := HQ2.out.cw 3 _ rfl; obtain ⟨a2, d2, hb2, hr2⟩ := HQ2.out.out2 2 rfl; have cb2 := box_cell hb2; have fb2 := box_froz hb2; have HR2 := zz (And.intro hb2 hr2); clear hb2 hr2)
          | (go_at_call 110; (with_reducible refine (qp_write HQ0.out (by simp) _ _ _ _).mono ?_); rintro e W1 ⟨rfl, hq⟩; have HQ1 := zz hq; clear hq; have c1_1 := HQ1.out.cr 1 _ rfl; have c2_1 := HQ1.out.cr 2 _ rfl; have c3_1 := HQ1.out.cr 3 _ rfl; have c5_1 := HQ1.out.cr 5 _ rfl; have c6_1 := HQ1.out.cr 6 _ rfl; have c7_1 := HQ1.out.cr 7 _ rfl; have c8_1 := HQ1.out.cr 8 _ rfl; have o0_1 := HQ1.out.cw 0 _ rfl; have o1_1 := HQ1.out.cw 1 _ rfl; have o2_1 := HQ1.out.cw 2 _ rfl; have o3_1 := HQ1.out.cw 3 _ rfl; obtain ⟨a1, d1, hb1, hr1⟩ := HQ1.out.out2 1 rfl; have cb1 := box_cell hb1; have fb1 := box_froz hb1; have HR1 := zz (And.intro hb1 hr1); clear hb1 hr1))
         have hd := HQ7.out.done 7 rfl HR7.out.1 HR7.out.2
         refine bodyPost_ret (results_box rfl _ _ Bo _ rfl hd.1) rfl ?_
         refine ⟨_, rfl, ?_, hd.2.2⟩
         have hL : partsL r = (((((((([] : List Pt) ++ [⟨1, r.dir, r.name, true⟩]) ++ [⟨1, r.dir2, r.name2, true⟩]) ++ [⟨2, r.ino, ⟨#[]⟩, true⟩]) ++ [⟨2, r.old, ⟨#[]⟩, true⟩]) ++ [⟨3, 0, ⟨#[]⟩, true⟩]) ++ [⟨2, r.dir, ⟨#[]⟩, false⟩]) ++ [⟨2, r.dir2, ⟨#[]⟩, false⟩]) := by (unfold partsL; simp [HCK.out, hke, h4, ho, hk2])
         rw [← HLP.out, hL]
         exact hd.2.1
end

section
open Go.RowKit Go.Maps
def meetPt (x y : Pt) : Bool := x.kind == y.kind && x.ino == y.ino && decide (x.name.toList = y.name.toList) && (x.write || y.write)
def meetB (a b : R) : Bool := (partsL a).any fun x => (partsL b).any fun y => meetPt x y
theorem part_cells {w w' : World} {base n c : Nat} {A : Option Addr} {l : List Pt} (h : w.ownsRow base 125 4 (.slice A n c) n (flatP l)) (_hn : l.length = n) (hb : Below w.heap.size w w') {k : Nat} (hk : k < n) :
  ∃ g, A = some ⟨g, 0, none⟩ ∧ ∀ (x : Pt), l[k]? = some x → w'.cell? ⟨g, k * 4, none⟩ = some (.int .u8 x.kind) ∧ w'.cell? ⟨g, k * 4 + 1, none⟩ = some (.int .u32 x.ino) ∧ w'.cell? ⟨g, k * 4 + 2, none⟩ = some (.string x.name) ∧ w'.cell? ⟨g, k * 4 + 3, none⟩ = some (.bool x.write) := by
 have hh := h
 rcases h.2 with ⟨h1, h2⟩ | ⟨g, cap, cur, h1, h2, h3, h4, h5, h6, h7⟩
 · omega
 · injection h1 with h1 h8
   subst h1
   refine ⟨g, rfl, fun x hx => ?_⟩
   have hlt := (Array.getElem?_eq_some_iff.1 h3).1
   have key : ∀ (j : Nat) (u : Value), (flatP l)[j]? = some u → w'.cell? ⟨g, j, none⟩ = some u := fun j u hu => by
    have hj : j < n * 4 := by
     have := (List.getElem?_eq_some_iff.1 hu).1
     rw [hh.1] at this
     exact this
    rw [World.cell?_of_block (a := ⟨g, j, none⟩) (hb.block g hlt)]
    rw [← h7, List.getElem?_take, if_pos hj] at hu
    simp only [World.cell?, h3]
    simpa using hu
   have fl : ∀ (l : List Pt) (k : Nat) (x : Pt) (i : Nat) (u : Value), l[k]? = some x → x.cells[i]? = some u → i < 4 → (flatP l)[k * 4 + i]? = some u := by
    intro l
    induction l with
    | nil => intro k x i u h; simp at h
    | cons y l ih =>
     intro k x i u h1 h2 h3
     show (y.cells ++ flatP l)[k * 4 + i]? = some u
     cases k with
     | zero =>
      simp only [List.getElem?_cons_zero, Option.some.injEq] at h1
      subst h1
      rw [List.getElem?_append_left (by show _ < 4; omega)]
      simpa using h2
     | succ k =>
      rw [List.getElem?_append_right (by show 4 ≤ _; omega)]
      have : (k + 1) * 4 + i - y.cells.length = k * 4 + i := by show (k + 1) * 4 + i - 4 = _; omega
      rw [this]
      exact ih k x i u (by simpa using h1) h2 h3
   exact ⟨key _ _ (fl l k x 0 _ hx rfl (by omega)), key _ _ (fl l k x 1 _ hx rfl (by omega)), key _ _ (fl l k x 2 _ hx rfl (by omega)), key _ _ (fl l k x 3 _ hx rfl (by omega))⟩
theorem rec_cell {w w' : World} {B : Nat} {r : R} (h : w.heap[B]? = some (.cells (cellsR r) 50 (0, 0))) (hb : Below w.heap.size w w') (i : Nat) (v : Value) (hv : (cellsR r)[i]? = some v) : w'.cell? ⟨B, i, none⟩ = some v := by
 simp only [World.cell?, (hb.block B (lt_heap h)).trans h]; exact hv
theorem pt_cell {w w' : World} {B : Nat} {x : Pt} (h : w.heap[B]? = some (.cells #[.int .u8 x.kind, .int .u32 x.ino, .string x.name, .bool x.write] 125 (0, 0))) (hb : Below w.heap.size w w') (i : Nat) (v : Value) (hv : (#[.int .u8 x.kind, .int .u32 x.ino, .string x.name, .bool x.write] : Array Value)[i]? = some v) : w'.cell? ⟨B, i, none⟩ = some v := by
 simp only [World.cell?, (hb.block B (lt_heap h)).trans h]; exact hv
theorem any_take_succ {α : Type} (p : α → Bool) (l : List α) (k : Nat) (x : α) (hx : l[k]? = some x) (h : (l.take k).any p = false) (hp : p x = false) : (l.take (k + 1)).any p = false := by
 obtain ⟨h1, rfl⟩ := List.getElem?_eq_some_iff.1 hx
 rw [List.take_succ_eq_append_getElem h1, List.any_append, h]
 simp [hp]
theorem any_at {α : Type} (p : α → Bool) (l : List α) (k : Nat) (x : α) (hx : l[k]? = some x) (hp : p x = true) : l.any p = true :=
 List.any_eq_true.2 ⟨x, List.mem_of_getElem? hx, hp⟩
set_option maxRecDepth 100000 in
set_option maxHeartbeats 8000000 in
theorem t_meet (a b : R) (ha : a.Ok) (a1 : a.name.size ≤ maxLen) (a2 : a.name2.size ≤ maxLen) (hb : b.Ok) (b1 : b.name.size ≤ maxLen) (b2 : b.name2.size ≤ maxLen) (w : World) :
  Calls Tryz.prog 30 #[a.val, b.val] w fun e w' => e = .returned (.bool (meetB a b)) ∧ Below w.heap.size w w' := by
 have hpa := fun w => t_parts a ha a1 a2 w
 have hpb := fun w => t_parts b hb b1 b2 w
 unfold R.val at hpa hpb ⊢
 obtain ⟨res, hres⟩ : ∃ r, meetB a b = r := ⟨_, rfl⟩
 rw [hres]
 unfold meetB at hres
 obtain ⟨la, hla⟩ : ∃ l, partsL a = l := ⟨_, rfl⟩
 obtain ⟨lb, hlb⟩ : ∃ l, partsL b = l := ⟨_, rfl⟩
 rw [hla, hlb] at hres
 rw [hla] at hpa
 rw [hlb] at hpb
 obtain ⟨n, hn⟩ : ∃ n, la.length = n := ⟨_, rfl⟩
 obtain ⟨m, hm⟩ : ∃ n, lb.length = n := ⟨_, rfl⟩
 rw [hn] at hpa
 rw [hm] at hpb
 have hn9 : n ≤ 9 := by
  rw [← hn, ← hla]; unfold partsL
  repeat (split <;> try simp)
 have hm9 : m ≤ 9 := by
  rw [← hm, ← hlb]; unfold partsL
  repeat (split <;> try simp)
 have HRES := zz hres
 have HN := zz hn
 have HM := zz hm
 clear hres hla hlb hn hm
 go_enter Tryz.func30, Tryz.ntmps30
 go_wp2_with (go_at_call 55; (with_reducible refine (hpa _).mono ?_); rintro e w1 ⟨v, rfl, ho, hbl⟩; obtain ⟨A, c, rfl⟩ := row_slice ho; have HO := zz ho; have HBL := zz hbl; clear ho hbl)
 have hrb : w1.heap[w.heap.size + 1]? = some (.cells (cellsR b) 50 (0, 0)) := by
  rw [HBL.out.block _ (by rw [World.alloc_size', World.alloc_size']; omega)]
  exact new_at _ _ _ (by simp)
 have HRB := zz hrb
 have hw1 : Below w.heap.size w w1 := (((Below.refl _ _).alloc (Nat.le_refl _) _).alloc (by rw [World.alloc_size']; omega) _).trans (HBL.out.mono (by rw [World.alloc_size', World.alloc_size']; omega))
 have HW1 := zz hw1
 clear hrb hw1 HBL hpa
 go_loopw [12] (fun x wr => ∃ k : Nat, x = .int .i64 (k : Int) ∧ k ≤ n ∧ Hid (Below w1.heap.size w1 wr) ∧ Hid ((la.take k).any (fun x => lb.any fun y => meetPt x y) = false)) (fun x _ => n - (intOf x).toNat)
 case atStart => exact ⟨0, rfl, Nat.zero_le _, Below.refl _ _, rfl⟩
 case round =>
  obtain ⟨k, rfl, hk, HB, HA⟩ := hrel
  by_cases he : k = n
  · have hf : Hid (false = res) := by
     show _ = _
     rw [← HRES.out]
     have := HA.out
     rw [List.take_of_length_le (by rw [HN.out]; omega)] at this
     exact this.symm
    go_wp2
    go_ret
    exact ⟨pret_bool hf.out, ptrans HW1.out HB.out⟩
  · have hk2 : k < n := by omega
    obtain ⟨g, hg, hc⟩ := part_cells HO.out HN.out HB.out hk2
    obtain ⟨x, hx⟩ : ∃ x, la[k]? = some x := ⟨la[k]'(by rw [HN.out]; omega), List.getElem?_eq_getElem _⟩
    subst hg
    obtain ⟨c0, c1, c2, c3⟩ := hc x hx
    have cb0 := rec_cell HRB.out (HB.out.alloc HB.out.size (.cells #[.int .u8 x.kind, .int .u32 x.ino, .string x.name, .bool x.write] 125)) 0 _ rfl
    have cb1 := rec_cell HRB.out (HB.out.alloc HB.out.size (.cells #[.int .u8 x.kind, .int .u32 x.ino, .string x.name, .bool x.write] 125)) 1 _ rfl
    have cb2 := rec_cell HRB.out (HB.out.alloc HB.out.size (.cells #[.int .u8 x.kind, .int .u32 x.ino, .string x.name, .bool x.write] 125)) 2 _ rfl
    have cb3 := rec_cell HRB.out (HB.out.alloc HB.out.size (.cells #[.int .u8 x.kind, .int .u32 x.ino, .string x.name, .bool x.write] 125)) 3 _ rfl
    have cb4 := rec_cell HRB.out (HB.out.alloc HB.out.size (.cells #[.int .u8 x.kind, .int .u32 x.ino, .string x.name, .bool x.write] 125)) 4 _ rfl
    have cb5 := rec_cell HRB.out (HB.out.alloc HB.out.size (.cells #[.int .u8 x.kind, .int .u32 x.ino, .string x.name, .bool x.write] 125)) 5 _ rfl
    have cb6 := rec_cell HRB.out (HB.out.alloc HB.out.size (.cells #[.int .u8 x.kind, .int .u32 x.ino, .string x.name, .bool x.write] 125)) 6 _ rfl
    have cb7 := rec_cell HRB.out (HB.out.alloc HB.out.size (.cells #[.int .u8 x.kind, .int .u32 x.ino, .string x.name, .bool x.write] 125)) 7 _ rfl
    have cb8 := rec_cell HRB.out (HB.out.alloc HB.out.size (.cells #[.int .u8 x.kind, .int .u32 x.ino, .string x.name, .bool x.write] 125)) 8 _ rfl
    have cb9 := rec_cell HRB.out (HB.out.alloc HB.out.size (.cells #[.int .u8 x.kind, .int .u32 x.ino, .string x.name, .bool x.write] 125)) 9 _ rfl
    have cb10 := rec_cell HRB.out (HB.out.alloc HB.out.size (.cells #[.int .u8 x.kind, .int .u32 x.ino, .string x.name, .bool x.write] 125)) 10 _ rfl
    have cb11 := rec_cell HRB.out (HB.out.alloc HB.out.size (.cells #[.int .u8 x.kind, .int .u32 x.ino, .string x.name, .bool x.write] 125)) 11 _ rfl
    go_wp2_with (go_at_call 55; (with_reducible refine (hpb _).mono ?_); rintro e w2 ⟨v2, rfl, ho2, hbl2⟩; obtain ⟨A2, d2, rfl⟩ := row_slice ho2; have HO2 := zz ho2; have HBL2 := zz hbl2; clear ho2 hbl2)
    have hxb : (wr.alloc (.cells #[.int .u8 x.kind, .int .u32 x.ino, .string x.name, .bool x.write] 125)).heap[wr.heap.size]? = some (.cells #[.int .u8 x.kind, .int .u32 x.ino, .string x.name, .bool x.write] 125 (0, 0)) := heap_alloc_new _ _
    have hx2 : w2.heap[wr.heap.size]? = some (.cells #[.int .u8 x.kind, .int .u32 x.ino, .string x.name, .bool x.write] 125 (0, 0)) := (HBL2.out.block _ (lt_heap hxb)).trans hxb
    have HX2 := zz hx2
    have hB2 : Below w1.heap.size w1 w2 := (HB.out.alloc HB.out.size (.cells #[.int .u8 x.kind, .int .u32 x.ino, .string x.name, .bool x.write] 125)).trans (HBL2.out.mono (by rw [World.alloc_size']; have := HB.out.size; omega))
    have HB2 := zz hB2
    have HXX := zz hx
    clear hxb hx2 hB2 HBL2 c0 c1 c2 c3 cb0 cb1 cb2 cb3 cb4 cb5 cb6 cb7 cb8 cb9 cb10 cb11 hc hx
    go_loopw [19] (fun z wz => ∃ j : Nat, z = .int .i64 (j : Int) ∧ j ≤ m ∧ Hid (Below w2.heap.size w2 wz) ∧ Hid ((lb.take j).any (fun y => meetPt x y) = false)) (fun z _ => m - (intOf z).toNat)
    case atStart => exact ⟨0, rfl, Nat.zero_le _, Below.refl _ _, rfl⟩
    case round =>
     obtain ⟨j, rfl, hj, HBj, HJ⟩ := hrel
     by_cases hje : j = m
     · have hno : Hid (lb.any (fun y => meetPt x y) = false) := by
        have := HJ.out
        rw [List.take_of_length_le (by rw [HM.out]; omega)] at this
        exact this
       go_wp2
       go_roundw
       case rel => exact ⟨k + 1, rfl, hk2, HB2.out.trans (HBj.out.mono HB2.out.size), any_take_succ _ _ _ _ HXX.out HA.out hno.out⟩
       case measure => simp only [intOf]; omega
     · have hj2 : j < m := by omega
       obtain ⟨g2, hg2, hc2⟩ := part_cells HO2.out HM.out HBj.out hj2
       obtain ⟨y, hy⟩ : ∃ y, lb[j]? = some y := ⟨lb[j]'(by rw [HM.out]; omega), List.getElem?_eq_getElem _⟩
       subst hg2
       obtain ⟨e0, e1, e2, e3⟩ := hc2 y hy
       have x0 := pt_cell HX2.out (HBj.out.alloc HBj.out.size (.cells #[.int .u8 y.kind, .int .u32 y.ino, .string y.name, .bool y.write] 125)) 0 _ rfl
       have x1 := pt_cell HX2.out (HBj.out.alloc HBj.out.size (.cells #[.int .u8 y.kind, .int .u32 y.ino, .string y.name, .bool y.write] 125)) 1 _ rfl
       have x2 := pt_cell HX2.out (HBj.out.alloc HBj.out.size (.cells #[.int .u8 y.kind, .int .u32 y.ino, .string y.name, .bool y.write] 125)) 2 _ rfl
       have x3 := pt_cell HX2.out (HBj.out.alloc HBj.out.size (.cells #[.int .u8 y.kind, .int .u32 y.ino, .string y.name, .bool y.write] 125)) 3 _ rfl
       have HY := zz hy
       clear hc2 hy
       cases h1 : (x.kind == y.kind)
       · go_wp2
         go_roundw
         case rel => exact ⟨j + 1, rfl, hj2, HBj.out.alloc HBj.out.size _, any_take_succ _ _ _ _ HY.out HJ.out (by unfold meetPt; simp [h1])⟩
         case measure => simp only [intOf]; omega
       · cases h2 : (x.ino == y.ino)
         · go_wp2
           go_roundw
           case rel => exact ⟨j + 1, rfl, hj2, HBj.out.alloc HBj.out.size _, any_take_succ _ _ _ _ HY.out HJ.out (by unfold meetPt; simp [h1, h2])⟩
           case measure => simp only [intOf]; omega
         · by_cases h3 : x.name.toList = y.name.toList
           · cases h4 : x.write
             · cases h5 : y.write
               · rw [h5] at x0 x1 x2 x3
                 go_wp2
                 go_roundw
                 case rel => exact ⟨j + 1, rfl, hj2, HBj.out.alloc HBj.out.size _, any_take_succ _ _ _ _ HY.out HJ.out (by unfold meetPt; simp [h1, h2, h3, h4, h5])⟩
                 case measure => simp only [intOf]; omega
               · rw [h5] at x0 x1 x2 x3
                 go_wp2
                 go_ret
                 have ht : true = res := by
                  rw [← HRES.out]
                  exact (any_at _ _ _ _ HXX.out (any_at _ _ _ _ HY.out (by unfold meetPt; simp [h1, h2, h3, h4, h5]))).symm
                 exact ⟨pret_bool ht, ptrans HW1.out (HB2.out.trans ((HBj.out.alloc HBj.out.size _).mono HB2.out.size))⟩
             · go_wp2
               go_ret
               have ht : true = res := by
                rw [← HRES.out]
                exact (any_at _ _ _ _ HXX.out (any_at _ _ _ _ HY.out (by unfold meetPt; simp [h1, h2, h3, h4]))).symm
               exact ⟨pret_bool ht, ptrans HW1.out (HB2.out.trans ((HBj.out.alloc HBj.out.size _).mono HB2.out.size))⟩
           · go_wp2
             go_roundw
             case rel => exact ⟨j + 1, rfl, hj2, HBj.out.alloc HBj.out.size _, any_take_succ _ _ _ _ HY.out HJ.out (by unfold meetPt; simp [h1, h2, h3])⟩
             case measure => simp only [intOf]; omega
end
end Go.Proofs.YtogljgiefmfafaaGreat
