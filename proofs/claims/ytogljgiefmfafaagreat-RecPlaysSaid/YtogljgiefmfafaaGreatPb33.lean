/- Play of a record that makes a directory, walked. -/
import Derived.Test.YtogljgiefmfafaaGreatPb08
import Derived.Test.YtogljgiefmfafaaGreatPb31
namespace Go.Proofs.YtogljgiefmfafaaGreat
section
open Go.RowKit Go.Maps
set_option maxRecDepth 100000 in
set_option maxHeartbeats 4000000 in
theorem t_playNil (r : R) (w : World) : Calls Tryz.prog 27 #[.pointer none, r.val] w fun e w' => e = .returned (.int .i64 1) ∧ Below w.heap.size w w' := by
 unfold R.val
 go_enter Tryz.func27, Tryz.ntmps27
 go_wp2
 go_ret
 exact ⟨rfl, by simpa using below_a1' w _⟩
variable {F : Nat → Prop} {P N : Nat} {y : Lay} {t : PT}
theorem became_cell {w w1 : World} {c : Array Value} {T : TypeId} {t t' : PT} {M : Nat} (h : TreeM w F P N y t) (hb : Became (w.alloc (.cells c T)) w1 F P M t') (i : Nat) (v : Value) (hv : c[i]? = some v) : w1.cell? ⟨w.heap.size, i, none⟩ = some v := by
 obtain ⟨y', F', hT, hu⟩ := hb
 have e := hu.block w.heap.size (by simp) (fun hF => by have := h.lt _ hF; omega)
 rw [heap_alloc_new] at e
 simp only [World.cell?, e]
 exact hv
theorem Became.ahead {w w0 w1 : World} {M : Nat} {t' : PT} (h : Below w.heap.size w w0) (hb : Became w0 w1 F P M t') : Became w w1 F P M t' := by
 obtain ⟨y', F', hT, hu⟩ := hb
 exact ⟨y', F', hT, (Turn.of_below F h).trans hu⟩
set_option maxRecDepth 100000 in
set_option maxHeartbeats 8000000 in
theorem t_made (r : R) (hr : r.Ok) (h1 : r.name.size ≤ maxLen) (hk : r.kind = 2) (e0 : Int) (t' : PT) (he : makeAtP t r.dir r.name 2 r.ino = (e0, t')) (w : World) (h : TreeM w F P N y t) (hN : N < 900000) :
  Calls Tryz.prog 125 #[.agg #[.pointer (some ⟨P, 0, none⟩), .int .u64 r.stamp, .int .u8 r.act, .int .u32 r.dir, .string r.name, .int .u32 r.ino, .int .u8 r.kind, .int .u32 r.dir2, .string r.name2, .int .u32 r.old, .int .u32 r.size, .int .i64 r.page, .string r.data]] w fun e w' => e = .returned (.int .i64 e0) ∧ Became w w' F P (N + 2) t' := by
 go_enter Tryz.func125, Tryz.ntmps125
 go_wp2_with (go_at_call 169; (refine (t_makeAt r.dir r.name 2 r.ino e0 t' he _ (h.below (below_a1' w _)) hN hr.dir hr.ino h1).mono ?_); rintro e w1 ⟨rfl, hb⟩; have c6 := became_cell h hb 6 _ rfl; have HB := zz (Became.ahead (below_a1' w _) hb); clear hb)
 all_goals
  go_ret
  exact ⟨by first | rfl | simp_all, HB.out⟩
set_option maxRecDepth 100000 in
set_option maxHeartbeats 8000000 in
theorem t_playMake (r : R) (hr : r.Ok) (h1 : r.name.size ≤ maxLen) (h2 : r.name2.size ≤ maxLen) (hc : checkB r = true) (ha : r.act = 1) (hk : r.kind = 2) (e0 : Int) (t' : PT) (he : makeAtP t r.dir r.name 2 r.ino = (e0, t')) (w : World) (h : TreeM w F P N y t) (hN : N < 900000) :
  Calls Tryz.prog 27 #[.pointer (some ⟨P, 0, none⟩), r.val] w fun e w' => e = .returned (.int .i64 e0) ∧ Became w w' F P (N + 2) t' := by
 have hchk := fun w => t_chk r hr h1 h2 w
 rw [show checkE r = 0 by unfold checkE; rw [if_pos hc]] at hchk
 unfold R.val at hchk ⊢
 have HA := zz ha
 have HK := zz hk
 clear ha hk
 go_enter Tryz.func27, Tryz.ntmps27
 go_wp2_with (go_at_call 54; (with_reducible refine (hchk _).mono ?_); rintro e w0 ⟨rfl, hb⟩; have HB := zz hb; clear hb)
 have hrc : w0.heap[w.heap.size]? = some (.cells (cellsR r) 50 (0, 0)) := by
  rw [HB.out.block _ (by simp)]; exact heap_alloc_new _ _
 have hBw : Below w.heap.size w w0 := ((Below.refl _ _).alloc (Nat.le_refl _) _).trans (HB.out.mono (by simp))
 have HS : Hid (w0.heap[w.heap.size]? = some (.cells (cellsR r) 50 (0, 0)) ∧ Below w.heap.size w w0) := ⟨hrc, hBw⟩
 have hkw := show (kindsM (.int .u8 r.act)).getD kind0 = kind1 by rw [HA.out]; rfl
 have hra := hr.act
 clear hrc hBw HB hchk
 have hT0 : TreeM w0 F P N y t := h.below HS.out.2
 refine wp_region_st (fun n W => W.heap[w.heap.size]? = some (.cells (cellsR r) 50 (0, 0)) ∧ (n = 0 → TreeM W F P N y t ∧ Below w.heap.size w W) ∧ (n ≠ 0 → Became w W F P (N + 2) t')) (fun W W' => Below W.heap.size W W') (fun W W' => ∀ b, w.heap.size ≤ b → b < W.heap.size → W'.heap[b]? = W.heap[b]?) [8]
  (phi [fun v W => ∃ b, v = .map (some b) ∧ w.heap.size ≤ b ∧ MapAt W Tryz.prog 5 b 7 kindsM, isV (.pointer (some ⟨w.heap.size, 1, none⟩)), isV (.int .u8 r.act), isV kind1, isV (.func (.func 125) #[] #[]), isV (.pointer (some ⟨P, 0, none⟩)), isV r.val,
   isV (.agg #[.pointer (some ⟨P, 0, none⟩), .int .u64 r.stamp, .int .u8 r.act, .int .u32 r.dir, .string r.name, .int .u32 r.ino, .int .u8 r.kind, .int .u32 r.dir2, .string r.name2, .int .u32 r.old, .int .u32 r.size, .int .i64 r.page, .string r.data]), isV (.int .i64 e0), isV (.int .i64 e0)]) (by kernel_rfl) (by kernel_rfl) (by kernel_rfl) (by kernel_rfl) (by kernel_rfl)
  ⟨HS.out.1, fun _ => ⟨hT0.below (below_drew _), HS.out.2.trans ((below_drew w0).mono HS.out.2.size)⟩, fun hh => absurd rfl hh⟩ (fun n W W' hj hb => ⟨(hb.block _ (lt_heap hj.1)).trans hj.1, fun hn => ⟨(hj.2.1 hn).1.below hb, (hj.2.1 hn).2.trans (hb.mono (hj.2.1 hn).2.size)⟩, fun hn => by obtain ⟨y', F', g1, g2⟩ := hj.2.2 hn; exact ⟨y', F', g1.below hb, g2.trans (Turn.of_below F' hb)⟩⟩) (fun W W' hb b _ h2 => hb.block b h2) ?_ ?_ ?_
 · refine stays_phiR ?_
   simp only [List.forall_mem_cons]
   exact ⟨fun v W W' ⟨b, g1, g2, g3⟩ hr => by
    obtain ⟨es, c, hm⟩ := g3.isMap
    exact ⟨b, g1, g2, g3.same (hr b g2 (lt_heap hm))⟩, kv, kv, kv, kv, kv, kv, kv, kv, kv, fun _ h => absurd h (by simp)⟩
 · refine ⟨?_, ?_, ?_, ?_, ?_, ?_, ?_, ?_, ?_, ?_, trivial⟩
   · refine opS_mk rfl rfl fun a W2 n hJ hp hq K hK => ?_
     have hl := lt_heap hJ.1
     clear hp hq hJ
     go_simp
     refine (t_rkinds W2).mono ?_
     rintro e w' ⟨b, rfl, hm, hb, hbl⟩
     exact hK _ _ hb ⟨b, rfl, by omega, hm⟩
   · refine opS_mk rfl rfl fun a W2 n hJ hp hq K hK => ?_
     have e3 : a.tmps[3]?.getD undef = .pointer (some ⟨w.heap.size, 0, none⟩) := hp 3 (by kernel_rfl)
     clear hp hq hJ
     go_simp
     exact hK _ _ (Below.refl _ _) rfl
   · refine opS_mk rfl rfl fun a W2 n hJ hp hq K hK => ?_
     have e14 : a.tmps[14]?.getD undef = .pointer (some ⟨w.heap.size, 1, none⟩) := hq 1 _ (by kernel_rfl) rfl
     have cc : W2.cell? ⟨w.heap.size, 1, none⟩ = some (.int .u8 r.act) := by (simp only [World.cell?, hJ.1]; rfl)
     clear hp hq hJ
     go_simp
     exact hK _ _ (Below.refl _ _) rfl
   · refine opS_mk rfl rfl fun a W2 n hJ hp hq K hK => ?_
     obtain ⟨b, e13, _, hm⟩ : ∃ b, a.tmps[13]?.getD undef = .map (some b) ∧ w.heap.size ≤ b ∧ MapAt W2 Tryz.prog 5 b 7 kindsM := hq 0 _ (by kernel_rfl) rfl
     have e15 : a.tmps[15]?.getD undef = .int .u8 r.act := hq 2 _ (by kernel_rfl) rfl
     have hlk := hm.look law8 Tryz.underlying119 (zeroK W2) (pkey8 hra)
     rw [hkw] at hlk
     clear hp hq hJ
     go_simp
     exact hK _ _ (Below.refl _ _) rfl
   · refine opS_mk rfl rfl fun a W2 n hJ hp hq K hK => ?_
     have e16 : a.tmps[16]?.getD undef = kind1 := hq 3 _ (by kernel_rfl) rfl
     clear hp hq hJ
     go_simp
     exact hK _ _ (Below.refl _ _) rfl
   · refine opS_mk rfl rfl fun a W2 n hJ hp hq K hK => ?_
     have e0' : a.tmps[0]?.getD undef = .pointer (some ⟨P, 0, none⟩) := hp 0 (by kernel_rfl)
     clear hp hq hJ
     go_simp
     exact hK _ _ (Below.refl _ _) rfl
   · refine opS_mk rfl rfl fun a W2 n hJ hp hq K hK => ?_
     have e3 : a.tmps[3]?.getD undef = .pointer (some ⟨w.heap.size, 0, none⟩) := hp 3 (by kernel_rfl)
     have c0 := rec_cell0 hJ.1 0 _ rfl
     have c1 := rec_cell0 hJ.1 1 _ rfl
     have c2 := rec_cell0 hJ.1 2 _ rfl
     have c3 := rec_cell0 hJ.1 3 _ rfl
     have c4 := rec_cell0 hJ.1 4 _ rfl
     have c5 := rec_cell0 hJ.1 5 _ rfl
     have c6 := rec_cell0 hJ.1 6 _ rfl
     have c7 := rec_cell0 hJ.1 7 _ rfl
     have c8 := rec_cell0 hJ.1 8 _ rfl
     have c9 := rec_cell0 hJ.1 9 _ rfl
     have c10 := rec_cell0 hJ.1 10 _ rfl
     have c11 := rec_cell0 hJ.1 11 _ rfl
     clear hp hq hJ
     go_simp
     exact hK _ _ (Below.refl _ _) rfl
   · refine opS_mk rfl rfl fun a W2 n hJ hp hq K hK => ?_
     have e18 : a.tmps[18]?.getD undef = .pointer (some ⟨P, 0, none⟩) := hq 5 _ (by kernel_rfl) rfl
     have e19 : a.tmps[19]?.getD undef = r.val := hq 6 _ (by kernel_rfl) rfl
     unfold R.val at e19
     clear hp hq hJ
     go_simp
     exact hK _ _ (Below.refl _ _) rfl
   · refine opS_at (m := 0) rfl rfl fun a W2 hJ hp hq K hK => ?_
     have e17 : a.tmps[17]?.getD undef = .func (.func 125) #[] #[] := hq 4 _ (by kernel_rfl) rfl
     have e20 : a.tmps[20]?.getD undef = .agg #[.pointer (some ⟨P, 0, none⟩), .int .u64 r.stamp, .int .u8 r.act, .int .u32 r.dir, .string r.name, .int .u32 r.ino, .int .u8 r.kind, .int .u32 r.dir2, .string r.name2, .int .u32 r.old, .int .u32 r.size, .int .i64 r.page, .string r.data] := hq 7 _ (by kernel_rfl) rfl
     have HJ := zz hJ
     clear hp hq hJ
     go_simp
     refine (t_made r hr h1 HK.out e0 t' he W2 (HJ.out.2.1 rfl).1 hN).mono ?_
     rintro e w3 ⟨rfl, hb⟩
     obtain ⟨y', F', g1, g2⟩ := hb
     have hF : ∀ b, w.heap.size ≤ b → ¬ F b := fun b hb hFb => by have := h.lt b hFb; omega
     exact hK _ _ (fun b k1 k2 => g2.block b k2 (hF b k1)) ⟨(g2.block _ (lt_heap HJ.out.1) (hF _ (Nat.le_refl _))).trans HJ.out.1, fun hn => by omega, fun _ => Became.ahead (HJ.out.2.1 rfl).2 ⟨y', F', g1, g2⟩⟩ rfl
   · refine opS_mk rfl rfl fun a W2 n hJ hp hq K hK => ?_
     have e21 : a.tmps[21]?.getD undef = .int .i64 e0 := hq 8 _ (by kernel_rfl) rfl
     clear hp hq hJ
     go_simp
     exact hK _ _ (Below.refl _ _) rfl
 · intro vs W9 hJ9 hv9 _
   have HJ9 : Hid (Became w W9 F P (N + 2) t') := hJ9.2.2 (by simp)
   have v9 : vs 9 = .int .i64 e0 := hv9 9 _ rfl rfl
   clear hJ9 hv9
   simp only [putAll, Act.put, List.setIfInBounds_toArray, List.set_cons_succ, List.set_cons_zero, Nat.zero_add, Nat.reduceAdd, v9]
   go_wp2
   go_ret
   exact ⟨rfl, HJ9.out⟩
end
end Go.Proofs.YtogljgiefmfafaaGreat
