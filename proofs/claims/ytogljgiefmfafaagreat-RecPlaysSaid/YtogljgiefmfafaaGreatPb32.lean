/- Get of bytes, walked. -/
import Derived.Test.YtogljgiefmfafaaGreatPb31
namespace Go.Proofs.YtogljgiefmfafaaGreat
section
open Go.RowKit Go.Maps
abbrev mkR (n0 n1 n2 : Nat) (l3 : List UInt8) (n4 n5 n6 : Nat) (l7 : List UInt8) (n8 n9 nA : Nat) (lB : List UInt8) : R := ⟨n0, n1, n2, ⟨l3.toArray⟩, n4, n5, n6, ⟨l7.toArray⟩, n8, n9, nA, ⟨lB.toArray⟩⟩
def td (d0 d1 d2 : Rd) : Nat → Rd
 | 0 => d0
 | 1 => d1
 | _ + 2 => d2
def tr (r0 r1 r2 : R) : Nat → R
 | 0 => r0
 | 1 => r0
 | 2 => r0
 | 3 => r1
 | _ + 4 => r2
def td3 (d0 d1 d2 d3 : Rd) : Nat → Rd
 | 0 => d0
 | 1 => d1
 | 2 => d2
 | _ + 3 => d3
def tr3 (r0 r1 r2 r3 : R) : Nat → R
 | 0 => r0
 | 1 => r0
 | 2 => r0
 | 3 => r0
 | 4 => r1
 | 5 => r2
 | _ + 6 => r3
def isTr : Ph := fun _ _ => True
theorem kt {R : World → World → Prop} : ∀ v W W', isTr v W → R W W' → isTr v W' := fun _ _ _ g _ => g
theorem mk_list (s : ByteArray) : (⟨s.data.toList.toArray⟩ : ByteArray) = s := by cases s; simp
theorem StG.start (w : World) (s : ByteArray) (hs : s.size ≤ maxLen) : StG w w.heap.size (w.heap.size + 1) (w.heap.size + 1 + 1) (w.heap.size + 1 + 1 + 1) (w.heap.size + 1 + 1 + 1 + 1) ⟨false, s.data.toList⟩ (mkR 0 0 0 [] 0 0 0 [] 0 0 0 [])
  (((((w.alloc (.cells #[.string s] 9)).alloc (.cells #[.int .u64 0, .int .u8 0, .int .u32 0, .string ⟨#[]⟩, .int .u32 0, .int .u8 0, .int .u32 0, .string ⟨#[]⟩, .int .u32 0, .int .u32 0, .int .i64 0, .string ⟨#[]⟩] 50)).alloc (.cells #[.bool false] 4)).alloc (.cells #[fCutV w.heap.size (w.heap.size + 1 + 1)] 175)).alloc (.cells #[fNumV (w.heap.size + 1 + 1 + 1)] 178)) := by
 have hn : ∀ (W : World) (c : Array Value) (T : TypeId) (n : Nat), W.heap.size = n → (W.alloc (.cells c T)).heap[n]? = some (.cells c T (0, 0)) := fun W c T n h => by subst h; exact heap_alloc_new _ _
 have ho : ∀ (W : World) (o : Obj) (k : Nat) (x : Obj), W.heap[k]? = some x → (W.alloc o).heap[k]? = some x := fun W o k x h => (heap_alloc_old W o (lt_heap h)).trans h
 refine ⟨⟨?_, ?_⟩, ?_, ?_, ?_, ?_, Nat.le_refl _, by omega, by omega, ?_⟩
 · rw [mk_list]; exact ho _ _ _ _ (ho _ _ _ _ (ho _ _ _ _ (ho _ _ _ _ (hn _ _ _ _ rfl))))
 · exact ho _ _ _ _ (ho _ _ _ _ (hn _ _ _ _ (by simp)))
 · exact ho _ _ _ _ (ho _ _ _ _ (ho _ _ _ _ (hn _ _ _ _ (by simp))))
 · exact ho _ _ _ _ (hn _ _ _ _ (by simp))
 · exact hn _ _ _ _ (by simp)
 · exact (((((Below.refl _ _).alloc (Nat.le_refl _) _).alloc (by simp) _).alloc (by simp; omega) _).alloc (by simp; omega) _).alloc (by simp; omega) _
 · rw [← Lib.size_eq]; exact hs
set_option maxRecDepth 100000 in
set_option maxHeartbeats 16000000 in
theorem t_get (s : ByteArray) (hs : s.size ≤ maxLen) (w : World) : Calls Tryz.prog 53 #[.string s] w fun e w' => (e = if (getR s.data.toList).2.bad = false ∧ checkB (getR s.data.toList).1 = true then .returned (.tuple #[(getR s.data.toList).1.val, .string ⟨(getR s.data.toList).2.s.toArray⟩, .int .i64 0]) else .returned (.tuple #[R.val ⟨0, 0, 0, ⟨#[]⟩, 0, 0, 0, ⟨#[]⟩, 0, 0, 0, ⟨#[]⟩⟩, .string ⟨#[]⟩, .int .i64 7])) ∧ Below w.heap.size w w' := by
 have hst := StG.start w s hs
 obtain ⟨⟨n0, d1⟩, h0⟩ : ∃ x, numR 8 ⟨false, s.data.toList⟩ = x := ⟨_, rfl⟩
 obtain ⟨⟨n1, d2⟩, h1⟩ : ∃ x, numR 1 d1 = x := ⟨_, rfl⟩
 obtain ⟨⟨n2, d3⟩, h2⟩ : ∃ x, optN (kEntry (n1 : Int)) 4 d2 = x := ⟨_, rfl⟩
 obtain ⟨⟨l3, d4⟩, h3⟩ : ∃ x, optW (kEntry (n1 : Int)) d3 = x := ⟨_, rfl⟩
 obtain ⟨⟨n4, d5⟩, h4⟩ : ∃ x, numR 4 d4 = x := ⟨_, rfl⟩
 obtain ⟨⟨n5, d6⟩, h5⟩ : ∃ x, optN (kKind (n1 : Int)) 1 d5 = x := ⟨_, rfl⟩
 obtain ⟨⟨n6, d7⟩, h6⟩ : ∃ x, optN (kMove (n1 : Int)) 4 d6 = x := ⟨_, rfl⟩
 obtain ⟨⟨l7, d8⟩, h7⟩ : ∃ x, optW (kMove (n1 : Int)) d7 = x := ⟨_, rfl⟩
 obtain ⟨⟨n8, d9⟩, h8⟩ : ∃ x, optN (kMove (n1 : Int)) 4 d8 = x := ⟨_, rfl⟩
 obtain ⟨⟨n9, dA⟩, h9⟩ : ∃ x, optN (kSized (n1 : Int)) 4 d9 = x := ⟨_, rfl⟩
 obtain ⟨⟨nA, dB⟩, hA⟩ : ∃ x, optN (kData (n1 : Int)) 1 dA = x := ⟨_, rfl⟩
 obtain ⟨⟨lB, dC⟩, hB⟩ : ∃ x, optC (kData (n1 : Int)) 64 dB = x := ⟨_, rfl⟩
 have hG : getR s.data.toList = (mkR n0 n1 n2 l3 n4 n5 n6 l7 n8 n9 nA lB, dC) := by
  unfold getR
  simp only [h0, h1, h2, h3, h4, h5, h6, h7, h8, h9, hA, hB]
 rw [hG]
 obtain ⟨res, hres⟩ : ∃ res : Ending, (if dC.bad = false ∧ checkB (mkR n0 n1 n2 l3 n4 n5 n6 l7 n8 n9 nA lB) = true then Ending.returned (.tuple #[(mkR n0 n1 n2 l3 n4 n5 n6 l7 n8 n9 nA lB).val, .string ⟨dC.s.toArray⟩, .int .i64 0]) else .returned (.tuple #[R.val ⟨0, 0, 0, ⟨#[]⟩, 0, 0, 0, ⟨#[]⟩, 0, 0, 0, ⟨#[]⟩⟩, .string ⟨#[]⟩, .int .i64 7])) = res := ⟨_, rfl⟩
 simp only []
 rw [hres]
 have HRES := zz hres
 clear hres
 have b0 : n0 < 18446744073709551616 := by have := num_lt 8 ⟨false, s.data.toList⟩; rw [h0] at this; exact this
 have b1 : n1 < 256 := by have := num_lt 1 d1; rw [h1] at this; exact this
 have H0 := zz h0
 have H1 := zz h1
 have H2 := zz h2
 have H3 := zz h3
 have H4 := zz h4
 have H5 := zz h5
 have H6 := zz h6
 have H7 := zz h7
 have H8 := zz h8
 have H9 := zz h9
 have HA := zz hA
 have HB := zz hB
 clear h0 h1 h2 h3 h4 h5 h6 h7 h8 h9 hA hB hG
 go_enter Tryz.func53, Tryz.ntmps53
 go_wp2
 generalize ((((w.alloc (.cells #[.string s] 9)).alloc (.cells #[.int .u64 0, .int .u8 0, .int .u32 0, .string ⟨#[]⟩, .int .u32 0, .int .u8 0, .int .u32 0, .string ⟨#[]⟩, .int .u32 0, .int .u32 0, .int .i64 0, .string ⟨#[]⟩] 50)).alloc (.cells #[.bool false] 4)).alloc (.cells #[fCutV w.heap.size (w.heap.size + 1 + 1)] 175)).alloc (.cells #[fNumV (w.heap.size + 1 + 1 + 1)] 178) = W0 at hst ⊢
 obtain ⟨Bn, hBn⟩ : ∃ B, w.heap.size + 1 + 1 + 1 + 1 = B := ⟨_, rfl⟩
 rw [hBn] at hst ⊢
 obtain ⟨Bc, hBc⟩ : ∃ B, w.heap.size + 1 + 1 + 1 = B := ⟨_, rfl⟩
 rw [hBc] at hst ⊢
 obtain ⟨Bb, hBb⟩ : ∃ B, w.heap.size + 1 + 1 = B := ⟨_, rfl⟩
 rw [hBb] at hst ⊢
 obtain ⟨Br, hBr⟩ : ∃ B, w.heap.size + 1 = B := ⟨_, rfl⟩
 rw [hBr] at hst ⊢
 obtain ⟨Bs, hBs⟩ : ∃ B, B = w.heap.size := ⟨_, rfl⟩
 have HS0 : Hid (StG w Bs Br Bb Bc Bn ⟨false, s.data.toList⟩ (mkR 0 0 0 [] 0 0 0 [] 0 0 0 []) W0) := by rw [hBs]; exact hst
 have HBS := zz hBs
 clear hst hBn hBc hBb hBr hBs
 refine wp_region_st (fun n W => StG w Bs Br Bb Bc Bn (td ⟨false, s.data.toList⟩ d1 d2 n) (tr (mkR 0 0 0 [] 0 0 0 [] 0 0 0 []) (mkR n0 0 0 [] 0 0 0 [] 0 0 0 []) (mkR n0 n1 0 [] 0 0 0 [] 0 0 0 []) n) W) (fun W W' => Below W.heap.size W W') (fun _ _ => True) [1, 3, 6, 8] (phi [isV (fNumV Bc), isV (.int .u64 (n0 : Int)), isV (fNumV Bc), isV (.int .u64 (n1 : Int)), isV (.int .u8 (n1 : Int)), isV (.pointer (some ⟨Br, 0, none⟩)), isTr, isV (.pointer (some ⟨Br, 1, none⟩)), isTr]) (by kernel_rfl) (by kernel_rfl) (by kernel_rfl) (by kernel_rfl) (by kernel_rfl) (HS0.out.mono (below_drew _)) (fun _ _ _ h hr => h.mono hr) (fun _ _ _ => trivial) ?_ ?_ ?_
 · refine stays_phiR ?_
   simp only [List.forall_mem_cons]
   exact ⟨kv, kv, kv, kv, kv, kv, kt, kv, kt, fun _ h => absurd h (by simp)⟩
 · refine ⟨?_, ?_, ?_, ?_, ?_, ?_, ?_, ?_, ?_, trivial⟩
   · refine opS_mk rfl rfl fun a W2 n hJ hp hq K hK => ?_
     have e7 : a.tmps[7]?.getD undef = .pointer (some ⟨Bn, 0, none⟩) := hp 7 (by kernel_rfl)
     have cc := hJ.cn
     clear hp hq hJ
     go_simp
     exact hK _ _ (Below.refl _ _) rfl
   · refine opS_at (m := 0) rfl rfl fun a W2 hJ hp hq K hK => ?_
     have e13 : a.tmps[13]?.getD undef = fNumV Bc := hq 0 _ (by kernel_rfl) rfl
     have HJ := zz hJ
     clear hp hq hJ
     go_simp
     refine (g_num8 H0.out HJ.out).mono ?_
     rintro e w2 ⟨rfl, g1, g2, g3⟩
     exact hK _ _ trivial (HJ.out.rel g1 g2 g3) rfl
   · refine opS_mk rfl rfl fun a W2 n hJ hp hq K hK => ?_
     have e7 : a.tmps[7]?.getD undef = .pointer (some ⟨Bn, 0, none⟩) := hp 7 (by kernel_rfl)
     have cc := hJ.cn
     clear hp hq hJ
     go_simp
     exact hK _ _ (Below.refl _ _) rfl
   · refine opS_at (m := 1) rfl rfl fun a W2 hJ hp hq K hK => ?_
     have e15 : a.tmps[15]?.getD undef = fNumV Bc := hq 2 _ (by kernel_rfl) rfl
     have HJ := zz hJ
     clear hp hq hJ
     go_simp
     refine (g_num1 H1.out HJ.out).mono ?_
     rintro e w2 ⟨rfl, g1, g2, g3⟩
     exact hK _ _ trivial (HJ.out.rel g1 g2 g3) rfl
   · refine opS_mk rfl rfl fun a W2 n hJ hp hq K hK => ?_
     have e16 : a.tmps[16]?.getD undef = .int .u64 (n1 : Int) := hq 3 _ (by kernel_rfl) rfl
     clear hp hq hJ
     go_simp
     have hwr := wrap_u8_nat n1 b1
     first | (rw [hwr]; exact hK _ _ (Below.refl _ _) rfl) | exact hK _ _ (Below.refl _ _) (by show _ = _; rw [hwr])
   · refine opS_mk rfl rfl fun a W2 n hJ hp hq K hK => ?_
     have e2 : a.tmps[2]?.getD undef = .pointer (some ⟨Br, 0, none⟩) := hp 2 (by kernel_rfl)
     clear hp hq hJ
     go_simp
     exact hK _ _ (Below.refl _ _) rfl
   · refine opS_at (m := 2) rfl rfl fun a W2 hJ hp hq K hK => ?_
     have e18 : a.tmps[18]?.getD undef = .pointer (some ⟨Br, 0, none⟩) := hq 5 _ (by kernel_rfl) rfl
     have e14 : a.tmps[14]?.getD undef = .int .u64 (n0 : Int) := hq 1 _ (by kernel_rfl) rfl
     have c := hJ.cr 0 _ rfl
     have f := hJ.fr 0
     have hK2 : K (a.put none undef) (W2.setCell ⟨Br, 0, none⟩ (.int .u64 (n0 : Int))) := hK undef _ trivial (hJ.set 0 _ rfl) trivial
     clear hp hq hJ hK
     go_simp
     exact hK2
   · refine opS_mk rfl rfl fun a W2 n hJ hp hq K hK => ?_
     have e2 : a.tmps[2]?.getD undef = .pointer (some ⟨Br, 0, none⟩) := hp 2 (by kernel_rfl)
     clear hp hq hJ
     go_simp
     exact hK _ _ (Below.refl _ _) rfl
   · refine opS_at (m := 3) rfl rfl fun a W2 hJ hp hq K hK => ?_
     have e19 : a.tmps[19]?.getD undef = .pointer (some ⟨Br, 1, none⟩) := hq 7 _ (by kernel_rfl) rfl
     have e17 : a.tmps[17]?.getD undef = .int .u8 (n1 : Int) := hq 4 _ (by kernel_rfl) rfl
     have c := hJ.cr 1 _ rfl
     have f := hJ.fr 1
     have hK2 : K (a.put none undef) (W2.setCell ⟨Br, 1, none⟩ (.int .u8 (n1 : Int))) := hK undef _ trivial (hJ.set 1 _ rfl) trivial
     clear hp hq hJ hK
     go_simp
     exact hK2
 · intro vs0 W1 hJ1 hv1 _
   have HS1 : Hid (StG w Bs Br Bb Bc Bn d2 (mkR n0 n1 0 [] 0 0 0 [] 0 0 0 []) W1) := hJ1
   clear hJ1 hv1
   simp only [putAll, Act.put, List.setIfInBounds_toArray, List.set_cons_succ, List.set_cons_zero, Nat.zero_add, Nat.reduceAdd]
   go_wp2
   have hS1 := HS1.out
   obtain ⟨wd, f, hkw, hf1⟩ := kindW_form (n1 : Int)
   obtain ⟨kc, hkc⟩ : ∃ kc : Array Value, #[.string wd, .bool (kEntry (n1 : Int)), .bool (kKind (n1 : Int)), .bool (kMove (n1 : Int)), .bool (kSized (n1 : Int)), .bool (kData (n1 : Int)), f] = kc := ⟨_, rfl⟩
   have hks : kc.size = 7 := by rw [← hkc]; rfl
   have hk1 : kc.all (·.oneCell') = true := by rw [← hkc]; exact hf1
   rw [hkc] at hkw
   refine wp_region_rel (RelK W1.heap.size kc (.bool true)) (phi [isKinds, isV (.pointer (some ⟨Br, 1, none⟩)), isV (.int .u8 (n1 : Int)), isV (.agg kc), isBlk W1.heap.size k0C kc 118, isBlk W1.heap.size kc kc 118]) (by kernel_rfl) (by kernel_rfl) (by kernel_rfl) ((RelK.refl _).trans (RelK.of_below ⟨rfl, rfl, rfl, Nat.le_refl _, fun _ _ => rfl⟩ (Nat.le_refl _))) (fun _ _ _ a b => a.trans b) ?_ ?_ ?_
   · refine stays_phiR ?_
     simp only [List.forall_mem_cons]
     exact ⟨isKinds.stays, kv, kv, kv, isBlk.staysK, isBlk.staysK, fun _ h => absurd h (by simp)⟩
   · refine ⟨?_, ?_, ?_, ?_, ?_, ?_, trivial⟩
     · refine opR_mk rfl fun a W2 hB hp hq K hK => ?_
       have hs := hB.size
       clear hp hq hB
       go_simp
       refine (t_rkinds W2).mono ?_
       rintro e w' ⟨b, rfl, hm, hb, _⟩
       exact hK _ _ (RelK.of_below hb (by omega)) ⟨b, rfl, hm⟩
     · refine opR_mk rfl fun a W2 hB hp hq K hK => ?_
       have e2 : a.tmps[2]?.getD undef = .pointer (some ⟨Br, 0, none⟩) := hp 2 (by kernel_rfl)
       clear hp hq
       go_simp
       exact hK _ _ (RelK.refl _) rfl
     · refine opR_mk rfl fun a W2 hB hp hq K hK => ?_
       have e10 : a.tmps[21]?.getD undef = .pointer (some ⟨Br, 1, none⟩) := hq 1 _ (by kernel_rfl) rfl
       have cc : W2.cell? ⟨Br, 1, none⟩ = some (.int .u8 (n1 : Int)) := by
        have hb := (hB.old Br (lt_heap hS1.rc)).trans hS1.rc
        simp only [World.cell?, hb]; rfl
       clear hp hq
       go_simp
       exact hK _ _ (RelK.refl _) rfl
     · refine opR_mk rfl fun a W2 hB hp hq K hK => ?_
       obtain ⟨b, e9, hm⟩ : isKinds (a.tmps[20]?.getD undef) W2 := hq 0 _ (by kernel_rfl) rfl
       have e11 : a.tmps[22]?.getD undef = .int .u8 (n1 : Int) := hq 2 _ (by kernel_rfl) rfl
       have hlk := hm.look law8 Tryz.underlying119 (zeroK W2) (pkey8 (i := (n1 : Int)) (by omega))
       rw [show ((kindsM (.int .u8 (n1 : Int))).getD kind0) = .agg kc from hkw] at hlk
       clear hp hq
       go_simp
       exact hK _ _ (RelK.refl _) rfl
     · refine opR_mk rfl fun a W2 hB hp hq K hK => ?_
       have hs := hB.size
       clear hp hq
       go_simp
       exact hK _ _ (RelK.of_below ((Below.refl _ _).alloc (Nat.le_refl _) _) (by omega)) ⟨_, rfl, by omega, .inl (heap_alloc_new _ _)⟩
     · refine opR_mk rfl fun a W2 hB hp hq K hK => ?_
       obtain ⟨B, e3, hBG, hBc⟩ : isBlk W1.heap.size k0C kc 118 (a.tmps[9]?.getD undef) W2 := hq 4 _ (by kernel_rfl) rfl
       have e13 : a.tmps[23]?.getD undef = .agg kc := hq 3 _ (by kernel_rfl) rfl
       have hK3 : ∀ W', RelK W1.heap.size kc (.bool true) W2 W' → W'.heap[B]? = some (.cells kc 118 (0, 0)) → K (a.put none undef) W' := fun W' h1 h2 => hK undef W' h1 (by show isBlk _ _ _ _ (a.tmps[9]?.getD undef) W'; rw [e3]; exact ⟨B, rfl, hBG, .inl h2⟩)
       clear hp hq hK
       have key : ∀ cs : Array Value, cs.size = 7 → W2.heap[B]? = some (.cells cs 118 (0, 0)) → K (a.put none undef) (W2.setCells B 0 kc.toList) ∧ W2.there B 0 kc.size := fun cs h7 hc => by
        obtain ⟨g1, g2, g3⟩ := set_block (kc := kc) hc (h7.trans hks.symm)
        exact ⟨hK3 _ (RelK.setK hc hBG g2 g1) g1, g3⟩
       obtain ⟨k1, k2⟩ : K (a.put none undef) (W2.setCells B 0 kc.toList) ∧ W2.there B 0 kc.size := by
        rcases hBc with h | h
        · exact key _ rfl h
        · exact key _ hks h
       exact wp_store_mid 118 (.tmp 9) (.tmp 23) rfl B 0 kc ((eval_slot a 9).trans e3) ((eval_slot a 23).trans e13) k2 (by rw [hks]; exact infoK) hk1 k1
   intro us W2 hB2 hv hst
   obtain ⟨Bk, u4, hg3, _⟩ : isBlk W1.heap.size k0C kc 118 (us 4) W2 := hv 4 _ rfl rfl
   obtain ⟨B3', e3, _, hc3⟩ : isBlk W1.heap.size kc kc 118 (us 4) W2 := hst 5 _ 9 4 _ rfl rfl rfl rfl rfl
   have h3 : W2.heap[Bk]? = some (.cells kc 118 (0, 0)) := by
    rw [u4] at e3; injection e3 with e3; injection e3 with e3; injection e3 with e3; rw [e3]; exact hc3.elim id id
   have HS2 : Hid (StK w Bs Br Bb Bc Bn Bk kc d2 (mkR n0 n1 0 [] 0 0 0 [] 0 0 0 []) W2) := ⟨hS1.mono ⟨hB2.os, hB2.tape, hB2.output, hB2.size, fun b hb => hB2.old b hb⟩, h3⟩
   have HKC := zz hkc.symm
   clear hv hst e3 hc3 h3 hkc hks hk1 hkw hB2 hg3 hf1 hS1 HS1
   simp only [putAll, Act.put, List.setIfInBounds_toArray, List.set_cons_succ, List.set_cons_zero, Nat.zero_add, Nat.reduceAdd, u4]

   have kk : W2.cell? ⟨Bk, 1, none⟩ = some (.bool (kEntry (n1 : Int))) := by (simp only [World.cell?, HS2.out.kd, HKC.out]; rfl)
   go_upto_if 25 with fail
   clear kk
   go_cut [] (fun wx => Hid (StK w Bs Br Bb Bc Bn Bk kc d4 (mkR n0 n1 n2 l3 0 0 0 [] 0 0 0 []) wx))
   case first =>
    cases hkx : kEntry (n1 : Int)
    · skip
      have q2 := H2.out
      unfold optN at q2
      rw [if_neg (by rw [hkx]; simp)] at q2
      injection q2 with q2a q2b
      have q3 := H3.out
      unfold optW at q3
      rw [if_neg (by rw [hkx]; simp)] at q3
      injection q3 with q3a q3b
      have hfin : Hid (StK w Bs Br Bb Bc Bn Bk kc d4 (mkR n0 n1 n2 l3 0 0 0 [] 0 0 0 []) W2) := by
       have hh := HS2.out
       rw [← q2a, ← q3a, ← q3b, ← q2b]
       exact hh
      clear q2a q2b q3a q3b
      go_wp2
      go_meet
      exact hfin
    · skip
      have e2 : numR 4 d2 = (n2, d3) := by have hh := H2.out; unfold optN at hh; rw [if_pos (show kEntry (n1 : Int) = true from hkx)] at hh; exact hh
      have e3 : wordR d3 = (l3, d4) := by have hh := H3.out; unfold optW at hh; rw [if_pos (show kEntry (n1 : Int) = true from hkx)] at hh; exact hh
      have b2 : n2 < 4294967296 := by have := num_lt 4 d2; rw [e2] at this; exact this
      have hw2 := wrap_u32_nat n2 b2
      have E2 := zz e2
      have E3 := zz e3
      clear e2 e3
      have cn0 := HS2.out.g.cn
      have cc0 := HS2.out.g.cc
      go_wp2_with (first
       | (go_at_call 105; (with_reducible refine (g_word E3.out X2.out.g).mono ?_); rintro e V3 ⟨rfl, g1, g2, g3⟩; have X3 := zz (X2.out.rel g1 g2 g3); have cn3 := X3.out.g.cn; have cc3 := X3.out.g.cc; clear g1 g2 g3; have s2 := X3.out.g.cr 2 _ rfl; have t2 := X3.out.g.fr 2; have Y2 : Hid (StK w Bs Br Bb Bc Bn Bk kc d4 (mkR n0 n1 n2 [] 0 0 0 [] 0 0 0 []) _) := X3.out.set 2 (.int .u32 (n2 : Int)) rfl; have s3 := Y2.out.g.cr 3 _ rfl; have t3 := Y2.out.g.fr 3; have Y3 : Hid (StK w Bs Br Bb Bc Bn Bk kc d4 (mkR n0 n1 n2 l3 0 0 0 [] 0 0 0 []) _) := Y2.out.set 3 (.string ⟨l3.toArray⟩) rfl)
       | (go_at_call 103; (with_reducible refine (g_num4 E2.out HS2.out.g).mono ?_); rintro e V2 ⟨rfl, g1, g2, g3⟩; have X2 := zz (HS2.out.rel g1 g2 g3); have cn2 := X2.out.g.cn; have cc2 := X2.out.g.cc; clear g1 g2 g3))
      go_meet
      exact Y3
   case rest =>
   have HS4 := hcut
   clear hcut HS2
   go_upto_region 9 with fail
   go_cut [] (fun wx => Hid (StK w Bs Br Bb Bc Bn Bk kc d5 (mkR n0 n1 n2 l3 n4 0 0 [] 0 0 0 []) wx))
   case first =>
    have e4 := H4.out
    have b4 : n4 < 4294967296 := by have := num_lt 4 d4; rw [e4] at this; exact this
    have hw4 := wrap_u32_nat n4 b4
    have E4 := zz e4
    clear e4
    have cn0 := HS4.out.g.cn
    have cc0 := HS4.out.g.cc
    go_wp2_with (first
     | (go_at_call 103; (with_reducible refine (g_num4 E4.out HS4.out.g).mono ?_); rintro e V4 ⟨rfl, g1, g2, g3⟩; have X4 := zz (HS4.out.rel g1 g2 g3); have cn4 := X4.out.g.cn; have cc4 := X4.out.g.cc; clear g1 g2 g3; have s4 := X4.out.g.cr 4 _ rfl; have t4 := X4.out.g.fr 4; have Y4 : Hid (StK w Bs Br Bb Bc Bn Bk kc d5 (mkR n0 n1 n2 l3 n4 0 0 [] 0 0 0 []) _) := X4.out.set 4 (.int .u32 (n4 : Int)) rfl))
    go_meet
    exact Y4
   case rest =>
   have HS5 := hcut
   clear hcut HS4
   have kk : wc.cell? ⟨Bk, 2, none⟩ = some (.bool (kKind (n1 : Int))) := by (simp only [World.cell?, HS5.out.kd, HKC.out]; rfl)
   go_upto_if 38 with fail
   clear kk
   go_cut [] (fun wx => Hid (StK w Bs Br Bb Bc Bn Bk kc d6 (mkR n0 n1 n2 l3 n4 n5 0 [] 0 0 0 []) wx))
   case first =>
    cases hkx : kKind (n1 : Int)
    · skip
      have q5 := H5.out
      unfold optN at q5
      rw [if_neg (by rw [hkx]; simp)] at q5
      injection q5 with q5a q5b
      have hfin : Hid (StK w Bs Br Bb Bc Bn Bk kc d6 (mkR n0 n1 n2 l3 n4 n5 0 [] 0 0 0 []) wc) := by
       have hh := HS5.out
       rw [← q5a, ← q5b]
       exact hh
      clear q5a q5b
      go_wp2
      go_meet
      exact hfin
    · skip
      have e5 : numR 1 d5 = (n5, d6) := by have hh := H5.out; unfold optN at hh; rw [if_pos (show kKind (n1 : Int) = true from hkx)] at hh; exact hh
      have b5 : n5 < 256 := by have := num_lt 1 d5; rw [e5] at this; exact this
      have hw5 := wrap_u8_nat n5 b5
      have E5 := zz e5
      clear e5
      have cn0 := HS5.out.g.cn
      have cc0 := HS5.out.g.cc
      go_wp2_with (first
       | (go_at_call 103; (with_reducible refine (g_num1 E5.out HS5.out.g).mono ?_); rintro e V5 ⟨rfl, g1, g2, g3⟩; have X5 := zz (HS5.out.rel g1 g2 g3); have cn5 := X5.out.g.cn; have cc5 := X5.out.g.cc; clear g1 g2 g3; have s5 := X5.out.g.cr 5 _ rfl; have t5 := X5.out.g.fr 5; have Y5 : Hid (StK w Bs Br Bb Bc Bn Bk kc d6 (mkR n0 n1 n2 l3 n4 n5 0 [] 0 0 0 []) _) := X5.out.set 5 (.int .u8 (n5 : Int)) rfl))
      go_meet
      exact Y5
   case rest =>
   have HS6 := hcut
   clear hcut HS5
   have kk : wc.cell? ⟨Bk, 3, none⟩ = some (.bool (kMove (n1 : Int))) := by (simp only [World.cell?, HS6.out.kd, HKC.out]; rfl)
   go_upto_if 44 with fail
   clear kk
   go_cut [] (fun wx => Hid (StK w Bs Br Bb Bc Bn Bk kc d9 (mkR n0 n1 n2 l3 n4 n5 n6 l7 n8 0 0 []) wx))
   case first =>
    cases hkx : kMove (n1 : Int)
    · skip
      have q6 := H6.out
      unfold optN at q6
      rw [if_neg (by rw [hkx]; simp)] at q6
      injection q6 with q6a q6b
      have q7 := H7.out
      unfold optW at q7
      rw [if_neg (by rw [hkx]; simp)] at q7
      injection q7 with q7a q7b
      have q8 := H8.out
      unfold optN at q8
      rw [if_neg (by rw [hkx]; simp)] at q8
      injection q8 with q8a q8b
      have hfin : Hid (StK w Bs Br Bb Bc Bn Bk kc d9 (mkR n0 n1 n2 l3 n4 n5 n6 l7 n8 0 0 []) wc) := by
       have hh := HS6.out
       rw [← q6a, ← q7a, ← q8a, ← q8b, ← q7b, ← q6b]
       exact hh
      clear q6a q6b q7a q7b q8a q8b
      go_wp2
      go_meet
      exact hfin
    · skip
      have e6 : numR 4 d6 = (n6, d7) := by have hh := H6.out; unfold optN at hh; rw [if_pos (show kMove (n1 : Int) = true from hkx)] at hh; exact hh
      have b6 : n6 < 4294967296 := by have := num_lt 4 d6; rw [e6] at this; exact this
      have hw6 := wrap_u32_nat n6 b6
      have e7 : wordR d7 = (l7, d8) := by have hh := H7.out; unfold optW at hh; rw [if_pos (show kMove (n1 : Int) = true from hkx)] at hh; exact hh
      have e8 : numR 4 d8 = (n8, d9) := by have hh := H8.out; unfold optN at hh; rw [if_pos (show kMove (n1 : Int) = true from hkx)] at hh; exact hh
      have b8 : n8 < 4294967296 := by have := num_lt 4 d8; rw [e8] at this; exact this
      have hw8 := wrap_u32_nat n8 b8
      have E6 := zz e6
      have E7 := zz e7
      have E8 := zz e8
      clear e6 e7 e8
      go_wp2
      refine wp_region_st (fun n W => StK w Bs Br Bb Bc Bn Bk kc (td3 d6 d7 d8 d9 n) (tr3 (mkR n0 n1 n2 l3 n4 n5 0 [] 0 0 0 []) (mkR n0 n1 n2 l3 n4 n5 n6 [] 0 0 0 []) (mkR n0 n1 n2 l3 n4 n5 n6 l7 0 0 0 []) (mkR n0 n1 n2 l3 n4 n5 n6 l7 n8 0 0 []) n) W) (fun W W' => Below W.heap.size W W') (fun _ _ => True) [1, 4, 6, 9, 11, 13] (phi [isV (fNumV Bc), isV (.int .u64 (n6 : Int)), isV (.int .u32 (n6 : Int)), isV (.func (.func 105) #[] #[.pointer (some ⟨Bc, 0, none⟩), .pointer (some ⟨Bn, 0, none⟩)]), isV (.string ⟨l7.toArray⟩), isV (fNumV Bc), isV (.int .u64 (n8 : Int)), isV (.int .u32 (n8 : Int)), isV (.pointer (some ⟨Br, 6, none⟩)), isTr, isV (.pointer (some ⟨Br, 7, none⟩)), isTr, isV (.pointer (some ⟨Br, 8, none⟩)), isTr]) (by kernel_rfl) (by kernel_rfl) (by kernel_rfl) (by kernel_rfl) (by kernel_rfl) (HS6.out.mono (below_drew _)) (fun _ _ _ h hr => h.mono hr) (fun _ _ _ => trivial) ?_ ?_ ?_
      · refine stays_phiR ?_
        simp only [List.forall_mem_cons]
        exact ⟨kv, kv, kv, kv, kv, kv, kv, kv, kv, kt, kv, kt, kv, kt, fun _ h => absurd h (by simp)⟩
      · refine ⟨?_, ?_, ?_, ?_, ?_, ?_, ?_, ?_, ?_, ?_, ?_, ?_, ?_, ?_, trivial⟩
        · refine opS_mk rfl rfl fun a W2 n hJ hp hq K hK => ?_
          have e7 : a.tmps[7]?.getD undef = .pointer (some ⟨Bn, 0, none⟩) := hp 7 (by kernel_rfl)
          have cc := hJ.g.cn
          clear hp hq hJ
          go_simp
          exact hK _ _ (Below.refl _ _) rfl
        · refine opS_at (m := 0) rfl rfl fun a W2 hJ hp hq K hK => ?_
          have e45 : a.tmps[45]?.getD undef = fNumV Bc := hq 0 _ (by kernel_rfl) rfl
          have HJ := zz hJ
          clear hp hq hJ
          go_simp
          refine (g_num4 E6.out HJ.out.g).mono ?_
          rintro e w2 ⟨rfl, g1, g2, g3⟩
          exact hK _ _ trivial (HJ.out.rel g1 g2 g3) rfl
        · refine opS_mk rfl rfl fun a W2 n hJ hp hq K hK => ?_
          have e46 : a.tmps[46]?.getD undef = .int .u64 (n6 : Int) := hq 1 _ (by kernel_rfl) rfl
          clear hp hq hJ
          go_simp
          first | exact hK _ _ (Below.refl _ _) rfl | (rw [hw6]; exact hK _ _ (Below.refl _ _) rfl) | exact hK _ _ (Below.refl _ _) (by show _ = _; rw [hw6])
        · refine opS_mk rfl rfl fun a W2 n hJ hp hq K hK => ?_
          have e8 : a.tmps[8]?.getD undef = .func (.func 105) #[] #[.pointer (some ⟨Bc, 0, none⟩), .pointer (some ⟨Bn, 0, none⟩)] := hp 8 (by kernel_rfl)
          clear hp hq hJ
          go_simp
          exact hK _ _ (Below.refl _ _) rfl
        · refine opS_at (m := 1) rfl rfl fun a W2 hJ hp hq K hK => ?_
          have e48 : a.tmps[48]?.getD undef = .func (.func 105) #[] #[.pointer (some ⟨Bc, 0, none⟩), .pointer (some ⟨Bn, 0, none⟩)] := hq 3 _ (by kernel_rfl) rfl
          have HJ := zz hJ
          clear hp hq hJ
          go_simp
          refine (g_word E7.out HJ.out.g).mono ?_
          rintro e w2 ⟨rfl, g1, g2, g3⟩
          exact hK _ _ trivial (HJ.out.rel g1 g2 g3) rfl
        · refine opS_mk rfl rfl fun a W2 n hJ hp hq K hK => ?_
          have e7 : a.tmps[7]?.getD undef = .pointer (some ⟨Bn, 0, none⟩) := hp 7 (by kernel_rfl)
          have cc := hJ.g.cn
          clear hp hq hJ
          go_simp
          exact hK _ _ (Below.refl _ _) rfl
        · refine opS_at (m := 2) rfl rfl fun a W2 hJ hp hq K hK => ?_
          have e50 : a.tmps[50]?.getD undef = fNumV Bc := hq 5 _ (by kernel_rfl) rfl
          have HJ := zz hJ
          clear hp hq hJ
          go_simp
          refine (g_num4 E8.out HJ.out.g).mono ?_
          rintro e w2 ⟨rfl, g1, g2, g3⟩
          exact hK _ _ trivial (HJ.out.rel g1 g2 g3) rfl
        · refine opS_mk rfl rfl fun a W2 n hJ hp hq K hK => ?_
          have e51 : a.tmps[51]?.getD undef = .int .u64 (n8 : Int) := hq 6 _ (by kernel_rfl) rfl
          clear hp hq hJ
          go_simp
          first | exact hK _ _ (Below.refl _ _) rfl | (rw [hw8]; exact hK _ _ (Below.refl _ _) rfl) | exact hK _ _ (Below.refl _ _) (by show _ = _; rw [hw8])
        · refine opS_mk rfl rfl fun a W2 n hJ hp hq K hK => ?_
          have e2 : a.tmps[2]?.getD undef = .pointer (some ⟨Br, 0, none⟩) := hp 2 (by kernel_rfl)
          clear hp hq hJ
          go_simp
          exact hK _ _ (Below.refl _ _) rfl
        · refine opS_at (m := 3) rfl rfl fun a W2 hJ hp hq K hK => ?_
          have e53 : a.tmps[53]?.getD undef = .pointer (some ⟨Br, 6, none⟩) := hq 8 _ (by kernel_rfl) rfl
          have e47 : a.tmps[47]?.getD undef = .int .u32 (n6 : Int) := hq 2 _ (by kernel_rfl) rfl
          have c := hJ.g.cr 6 _ rfl
          have f := hJ.g.fr 6
          have hK2 : K (a.put none undef) (W2.setCell ⟨Br, 6, none⟩ (.int .u32 (n6 : Int))) := hK undef _ trivial (hJ.set 6 _ rfl) trivial
          clear hp hq hJ hK
          go_simp
          exact hK2
        · refine opS_mk rfl rfl fun a W2 n hJ hp hq K hK => ?_
          have e2 : a.tmps[2]?.getD undef = .pointer (some ⟨Br, 0, none⟩) := hp 2 (by kernel_rfl)
          clear hp hq hJ
          go_simp
          exact hK _ _ (Below.refl _ _) rfl
        · refine opS_at (m := 4) rfl rfl fun a W2 hJ hp hq K hK => ?_
          have e54 : a.tmps[54]?.getD undef = .pointer (some ⟨Br, 7, none⟩) := hq 10 _ (by kernel_rfl) rfl
          have e49 : a.tmps[49]?.getD undef = .string ⟨l7.toArray⟩ := hq 4 _ (by kernel_rfl) rfl
          have c := hJ.g.cr 7 _ rfl
          have f := hJ.g.fr 7
          have hK2 : K (a.put none undef) (W2.setCell ⟨Br, 7, none⟩ (.string ⟨l7.toArray⟩)) := hK undef _ trivial (hJ.set 7 _ rfl) trivial
          clear hp hq hJ hK
          go_simp
          exact hK2
        · refine opS_mk rfl rfl fun a W2 n hJ hp hq K hK => ?_
          have e2 : a.tmps[2]?.getD undef = .pointer (some ⟨Br, 0, none⟩) := hp 2 (by kernel_rfl)
          clear hp hq hJ
          go_simp
          exact hK _ _ (Below.refl _ _) rfl
        · refine opS_at (m := 5) rfl rfl fun a W2 hJ hp hq K hK => ?_
          have e55 : a.tmps[55]?.getD undef = .pointer (some ⟨Br, 8, none⟩) := hq 12 _ (by kernel_rfl) rfl
          have e52 : a.tmps[52]?.getD undef = .int .u32 (n8 : Int) := hq 7 _ (by kernel_rfl) rfl
          have c := hJ.g.cr 8 _ rfl
          have f := hJ.g.fr 8
          have hK2 : K (a.put none undef) (W2.setCell ⟨Br, 8, none⟩ (.int .u32 (n8 : Int))) := hK undef _ trivial (hJ.set 8 _ rfl) trivial
          clear hp hq hJ hK
          go_simp
          exact hK2
      · intro vs W9 hJ9 hv9 _
        have HJ9 : Hid (StK w Bs Br Bb Bc Bn Bk kc d9 (mkR n0 n1 n2 l3 n4 n5 n6 l7 n8 0 0 []) W9) := hJ9
        clear hJ9 hv9
        simp only [putAll, Act.put, List.setIfInBounds_toArray, List.set_cons_succ, List.set_cons_zero, Nat.zero_add, Nat.reduceAdd]
        go_wp2
        go_meet
        exact HJ9
   case rest =>
   have HS9 := hcut
   clear hcut HS6
   have kk : wc.cell? ⟨Bk, 4, none⟩ = some (.bool (kSized (n1 : Int))) := by (simp only [World.cell?, HS9.out.kd, HKC.out]; rfl)
   go_upto_if 57 with fail
   clear kk
   go_cut [] (fun wx => Hid (StK w Bs Br Bb Bc Bn Bk kc dA (mkR n0 n1 n2 l3 n4 n5 n6 l7 n8 n9 0 []) wx))
   case first =>
    cases hkx : kSized (n1 : Int)
    · skip
      have q9 := H9.out
      unfold optN at q9
      rw [if_neg (by rw [hkx]; simp)] at q9
      injection q9 with q9a q9b
      have hfin : Hid (StK w Bs Br Bb Bc Bn Bk kc dA (mkR n0 n1 n2 l3 n4 n5 n6 l7 n8 n9 0 []) wc) := by
       have hh := HS9.out
       rw [← q9a, ← q9b]
       exact hh
      clear q9a q9b
      go_wp2
      go_meet
      exact hfin
    · skip
      have e9 : numR 4 d9 = (n9, dA) := by have hh := H9.out; unfold optN at hh; rw [if_pos (show kSized (n1 : Int) = true from hkx)] at hh; exact hh
      have b9 : n9 < 4294967296 := by have := num_lt 4 d9; rw [e9] at this; exact this
      have hw9 := wrap_u32_nat n9 b9
      have E9 := zz e9
      clear e9
      have cn0 := HS9.out.g.cn
      have cc0 := HS9.out.g.cc
      go_wp2_with (first
       | (go_at_call 103; (with_reducible refine (g_num4 E9.out HS9.out.g).mono ?_); rintro e V9 ⟨rfl, g1, g2, g3⟩; have X9 := zz (HS9.out.rel g1 g2 g3); have cn9 := X9.out.g.cn; have cc9 := X9.out.g.cc; clear g1 g2 g3; have s9 := X9.out.g.cr 9 _ rfl; have t9 := X9.out.g.fr 9; have Y9 : Hid (StK w Bs Br Bb Bc Bn Bk kc dA (mkR n0 n1 n2 l3 n4 n5 n6 l7 n8 n9 0 []) _) := X9.out.set 9 (.int .u32 (n9 : Int)) rfl))
      go_meet
      exact Y9
   case rest =>
   have HS10 := hcut
   clear hcut HS9
   have kk : wc.cell? ⟨Bk, 5, none⟩ = some (.bool (kData (n1 : Int))) := by (simp only [World.cell?, HS10.out.kd, HKC.out]; rfl)
   go_upto_if 63 with fail
   clear kk
   go_cut [] (fun wx => Hid (StK w Bs Br Bb Bc Bn Bk kc dC (mkR n0 n1 n2 l3 n4 n5 n6 l7 n8 n9 nA lB) wx))
   case first =>
    cases hkx : kData (n1 : Int)
    · skip
      have q10 := HA.out
      unfold optN at q10
      rw [if_neg (by rw [hkx]; simp)] at q10
      injection q10 with q10a q10b
      have q11 := HB.out
      unfold optC at q11
      rw [if_neg (by rw [hkx]; simp)] at q11
      injection q11 with q11a q11b
      have hfin : Hid (StK w Bs Br Bb Bc Bn Bk kc dC (mkR n0 n1 n2 l3 n4 n5 n6 l7 n8 n9 nA lB) wc) := by
       have hh := HS10.out
       rw [← q10a, ← q11a, ← q11b, ← q10b]
       exact hh
      clear q10a q10b q11a q11b
      go_wp2
      go_meet
      exact hfin
    · skip
      have e10 : numR 1 dA = (nA, dB) := by have hh := HA.out; unfold optN at hh; rw [if_pos (show kData (n1 : Int) = true from hkx)] at hh; exact hh
      have b10 : nA < 256 := by have := num_lt 1 dA; rw [e10] at this; exact this
      have hw10 := wrap_i64_nat nA b10
      have e11 : cutR 64 dB = (lB, dC) := by have hh := HB.out; unfold optC at hh; rw [if_pos (show kData (n1 : Int) = true from hkx)] at hh; exact hh
      have E10 := zz e10
      have E11 := zz e11
      clear e10 e11
      go_wp2
      refine wp_region_st (fun n W => StK w Bs Br Bb Bc Bn Bk kc (td dA dB dC n) (tr (mkR n0 n1 n2 l3 n4 n5 n6 l7 n8 n9 0 []) (mkR n0 n1 n2 l3 n4 n5 n6 l7 n8 n9 nA []) (mkR n0 n1 n2 l3 n4 n5 n6 l7 n8 n9 nA lB) n) W) (fun W W' => Below W.heap.size W W') (fun _ _ => True) [1, 4, 6, 8] (phi [isV (fNumV Bc), isV (.int .u64 (nA : Int)), isV (.int .i64 (nA : Int)), isV (fCutV Bs Bb), isV (.string ⟨lB.toArray⟩), isV (.pointer (some ⟨Br, 10, none⟩)), isTr, isV (.pointer (some ⟨Br, 11, none⟩)), isTr]) (by kernel_rfl) (by kernel_rfl) (by kernel_rfl) (by kernel_rfl) (by kernel_rfl) (HS10.out.mono (below_drew _)) (fun _ _ _ h hr => h.mono hr) (fun _ _ _ => trivial) ?_ ?_ ?_
      · refine stays_phiR ?_
        simp only [List.forall_mem_cons]
        exact ⟨kv, kv, kv, kv, kv, kv, kt, kv, kt, fun _ h => absurd h (by simp)⟩
      · refine ⟨?_, ?_, ?_, ?_, ?_, ?_, ?_, ?_, ?_, trivial⟩
        · refine opS_mk rfl rfl fun a W2 n hJ hp hq K hK => ?_
          have e7 : a.tmps[7]?.getD undef = .pointer (some ⟨Bn, 0, none⟩) := hp 7 (by kernel_rfl)
          have cc := hJ.g.cn
          clear hp hq hJ
          go_simp
          exact hK _ _ (Below.refl _ _) rfl
        · refine opS_at (m := 0) rfl rfl fun a W2 hJ hp hq K hK => ?_
          have e64 : a.tmps[64]?.getD undef = fNumV Bc := hq 0 _ (by kernel_rfl) rfl
          have HJ := zz hJ
          clear hp hq hJ
          go_simp
          refine (g_num1 E10.out HJ.out.g).mono ?_
          rintro e w2 ⟨rfl, g1, g2, g3⟩
          exact hK _ _ trivial (HJ.out.rel g1 g2 g3) rfl
        · refine opS_mk rfl rfl fun a W2 n hJ hp hq K hK => ?_
          have e65 : a.tmps[65]?.getD undef = .int .u64 (nA : Int) := hq 1 _ (by kernel_rfl) rfl
          clear hp hq hJ
          go_simp
          first | exact hK _ _ (Below.refl _ _) rfl | (rw [hw10]; exact hK _ _ (Below.refl _ _) rfl) | exact hK _ _ (Below.refl _ _) (by show _ = _; rw [hw10])
        · refine opS_mk rfl rfl fun a W2 n hJ hp hq K hK => ?_
          have e6 : a.tmps[6]?.getD undef = .pointer (some ⟨Bc, 0, none⟩) := hp 6 (by kernel_rfl)
          have cc := hJ.g.cc
          clear hp hq hJ
          go_simp
          exact hK _ _ (Below.refl _ _) rfl
        · refine opS_at (m := 1) rfl rfl fun a W2 hJ hp hq K hK => ?_
          have e67 : a.tmps[67]?.getD undef = fCutV Bs Bb := hq 3 _ (by kernel_rfl) rfl
          have HJ := zz hJ
          clear hp hq hJ
          go_simp
          refine (g_cut64 E11.out HJ.out.g).mono ?_
          rintro e w2 ⟨rfl, g1, g2, g3⟩
          exact hK _ _ trivial (HJ.out.rel g1 g2 g3) rfl
        · refine opS_mk rfl rfl fun a W2 n hJ hp hq K hK => ?_
          have e2 : a.tmps[2]?.getD undef = .pointer (some ⟨Br, 0, none⟩) := hp 2 (by kernel_rfl)
          clear hp hq hJ
          go_simp
          exact hK _ _ (Below.refl _ _) rfl
        · refine opS_at (m := 2) rfl rfl fun a W2 hJ hp hq K hK => ?_
          have e69 : a.tmps[69]?.getD undef = .pointer (some ⟨Br, 10, none⟩) := hq 5 _ (by kernel_rfl) rfl
          have e66 : a.tmps[66]?.getD undef = .int .i64 (nA : Int) := hq 2 _ (by kernel_rfl) rfl
          have c := hJ.g.cr 10 _ rfl
          have f := hJ.g.fr 10
          have hK2 : K (a.put none undef) (W2.setCell ⟨Br, 10, none⟩ (.int .i64 (nA : Int))) := hK undef _ trivial (hJ.set 10 _ rfl) trivial
          clear hp hq hJ hK
          go_simp
          exact hK2
        · refine opS_mk rfl rfl fun a W2 n hJ hp hq K hK => ?_
          have e2 : a.tmps[2]?.getD undef = .pointer (some ⟨Br, 0, none⟩) := hp 2 (by kernel_rfl)
          clear hp hq hJ
          go_simp
          exact hK _ _ (Below.refl _ _) rfl
        · refine opS_at (m := 3) rfl rfl fun a W2 hJ hp hq K hK => ?_
          have e70 : a.tmps[70]?.getD undef = .pointer (some ⟨Br, 11, none⟩) := hq 7 _ (by kernel_rfl) rfl
          have e68 : a.tmps[68]?.getD undef = .string ⟨lB.toArray⟩ := hq 4 _ (by kernel_rfl) rfl
          have c := hJ.g.cr 11 _ rfl
          have f := hJ.g.fr 11
          have hK2 : K (a.put none undef) (W2.setCell ⟨Br, 11, none⟩ (.string ⟨lB.toArray⟩)) := hK undef _ trivial (hJ.set 11 _ rfl) trivial
          clear hp hq hJ hK
          go_simp
          exact hK2
      · intro vs W9 hJ9 hv9 _
        have HJ9 : Hid (StK w Bs Br Bb Bc Bn Bk kc dC (mkR n0 n1 n2 l3 n4 n5 n6 l7 n8 n9 nA lB) W9) := hJ9
        clear hJ9 hv9
        simp only [putAll, Act.put, List.setIfInBounds_toArray, List.set_cons_succ, List.set_cons_zero, Nat.zero_add, Nat.reduceAdd]
        go_wp2
        go_meet
        exact HJ9
   case rest =>
   have HS12 := hcut
   clear hcut HS10
   have rok : R.Ok (mkR n0 n1 n2 l3 n4 n5 n6 l7 n8 n9 nA lB) := by
    have a2 := optN_lt (kEntry (n1 : Int)) 4 d2
    have a4 := num_lt 4 d4
    have a5 := optN_lt (kKind (n1 : Int)) 1 d5
    have a6 := optN_lt (kMove (n1 : Int)) 4 d6
    have a8 := optN_lt (kMove (n1 : Int)) 4 d8
    have a9 := optN_lt (kSized (n1 : Int)) 4 d9
    rw [H2.out] at a2
    rw [H4.out] at a4
    rw [H5.out] at a5
    rw [H6.out] at a6
    rw [H8.out] at a8
    rw [H9.out] at a9
    simp only at a2 a4 a5 a6 a8 a9
    exact ⟨(by show 0 ≤ (n0 : Int) ∧ (n0 : Int) ≤ 18446744073709551615; omega), (by show 0 ≤ (n1 : Int) ∧ (n1 : Int) ≤ 255; omega), (by show 0 ≤ (n2 : Int) ∧ (n2 : Int) ≤ 4294967295; omega), (by show 0 ≤ (n4 : Int) ∧ (n4 : Int) ≤ 4294967295; omega), (by show 0 ≤ (n5 : Int) ∧ (n5 : Int) ≤ 255; omega), (by show 0 ≤ (n6 : Int) ∧ (n6 : Int) ≤ 4294967295; omega), (by show 0 ≤ (n8 : Int) ∧ (n8 : Int) ≤ 4294967295; omega), (by show 0 ≤ (n9 : Int) ∧ (n9 : Int) ≤ 4294967295; omega)⟩
   have rn3 : (mkR n0 n1 n2 l3 n4 n5 n6 l7 n8 n9 nA lB).name.size ≤ maxLen := by
    have a3 := optW_lt (kEntry (n1 : Int)) d3
    rw [H3.out] at a3
    show (⟨l3.toArray⟩ : ByteArray).size ≤ _
    rw [size_mk]
    exact Nat.le_trans (Nat.le_of_lt a3) (by decide)
   have rn7 : (mkR n0 n1 n2 l3 n4 n5 n6 l7 n8 n9 nA lB).name2.size ≤ maxLen := by
    have a7 := optW_lt (kMove (n1 : Int)) d7
    rw [H7.out] at a7
    show (⟨l7.toArray⟩ : ByteArray).size ≤ _
    rw [size_mk]
    exact Nat.le_trans (Nat.le_of_lt a7) (by decide)
   have hchk := fun W => t_chk _ rok rn3 rn7 W
   obtain ⟨ck, hck⟩ : ∃ b, checkB (mkR n0 n1 n2 l3 n4 n5 n6 l7 n8 n9 nA lB) = b := ⟨_, rfl⟩
   have HCK := zz hck
   have hce : checkE (mkR n0 n1 n2 l3 n4 n5 n6 l7 n8 n9 nA lB) = if ck = true then 0 else 2 := by unfold checkE; rw [hck]
   rw [hce] at hchk
   unfold R.val at hchk
   clear hck hce rok rn3 rn7
   have cb := HS12.out.g.rd.cb
   obtain ⟨bd, hbd⟩ : ∃ b, dC.bad = b := ⟨_, rfl⟩
   rw [hbd] at cb
   have HBD := zz hbd
   clear hbd
   cases bd
   · skip
     have c0 := HS12.out.g.cr 0 _ rfl
     have f0 := HS12.out.g.fr 0
     have c1 := HS12.out.g.cr 1 _ rfl
     have f1 := HS12.out.g.fr 1
     have c2 := HS12.out.g.cr 2 _ rfl
     have f2 := HS12.out.g.fr 2
     have c3 := HS12.out.g.cr 3 _ rfl
     have f3 := HS12.out.g.fr 3
     have c4 := HS12.out.g.cr 4 _ rfl
     have f4 := HS12.out.g.fr 4
     have c5 := HS12.out.g.cr 5 _ rfl
     have f5 := HS12.out.g.fr 5
     have c6 := HS12.out.g.cr 6 _ rfl
     have f6 := HS12.out.g.fr 6
     have c7 := HS12.out.g.cr 7 _ rfl
     have f7 := HS12.out.g.fr 7
     have c8 := HS12.out.g.cr 8 _ rfl
     have f8 := HS12.out.g.fr 8
     have c9 := HS12.out.g.cr 9 _ rfl
     have f9 := HS12.out.g.fr 9
     have c10 := HS12.out.g.cr 10 _ rfl
     have f10 := HS12.out.g.fr 10
     have c11 := HS12.out.g.cr 11 _ rfl
     have f11 := HS12.out.g.fr 11
     cases ck
     · go_wp2_with (go_at_call 54; (with_reducible refine (hchk _).mono ?_); rw [if_neg (by simp)]; rintro e w3 ⟨rfl, hb⟩; have HS13 := zz (HS12.out.g.mono hb); clear hb c0 c1 c2 c3 c4 c5 c6 c7 c8 c9 c10 c11 f0 f1 f2 f3 f4 f5 f6 f7 f8 f9 f10 f11; have c0 := HS13.out.cr 0 _ rfl; have f0 := HS13.out.fr 0; have c1 := HS13.out.cr 1 _ rfl; have f1 := HS13.out.fr 1; have c2 := HS13.out.cr 2 _ rfl; have f2 := HS13.out.fr 2; have c3 := HS13.out.cr 3 _ rfl; have f3 := HS13.out.fr 3; have c4 := HS13.out.cr 4 _ rfl; have f4 := HS13.out.fr 4; have c5 := HS13.out.cr 5 _ rfl; have f5 := HS13.out.fr 5; have c6 := HS13.out.cr 6 _ rfl; have f6 := HS13.out.fr 6; have c7 := HS13.out.cr 7 _ rfl; have f7 := HS13.out.fr 7; have c8 := HS13.out.cr 8 _ rfl; have f8 := HS13.out.fr 8; have c9 := HS13.out.cr 9 _ rfl; have f9 := HS13.out.fr 9; have c10 := HS13.out.cr 10 _ rfl; have f10 := HS13.out.fr 10; have c11 := HS13.out.cr 11 _ rfl; have f11 := HS13.out.fr 11)
       have HZ := HS13.out.zero
       refine bodyPost_ret (results_rec3 rfl _ _ Br 50 _ (0, 0) rfl HZ.rc infoR) rfl ?_
       refine ⟨?_, HZ.below⟩
       rw [← HRES.out, if_neg (by rw [HCK.out]; simp)]
       rfl
     · go_wp2_with (go_at_call 54; (with_reducible refine (hchk _).mono ?_); rw [if_pos rfl]; rintro e w3 ⟨rfl, hb⟩; have HS13 := zz (HS12.out.g.mono hb); clear hb)
       clear c0 c1 c2 c3 c4 c5 c6 c7 c8 c9 c10 c11 f0 f1 f2 f3 f4 f5 f6 f7 f8 f9 f10 f11
       refine wp_region_st (fun _ W => StG w Bs Br Bb Bc Bn dC (mkR n0 n1 n2 l3 n4 n5 n6 l7 n8 n9 nA lB) W) (fun W W' => Below W.heap.size W W') (fun _ _ => True) [] (phi [isV (R.val (mkR n0 n1 n2 l3 n4 n5 n6 l7 n8 n9 nA lB)), isV (.string ⟨dC.s.toArray⟩), isTr, isV (.string ⟨dC.s.toArray⟩), isV (.int .i64 0)]) (by kernel_rfl) (by kernel_rfl) (by kernel_rfl) (by kernel_rfl) (by kernel_rfl) (HS13.out.mono (below_drew _)) (fun _ _ _ h hr => h.mono hr) (fun _ _ _ => trivial) ?_ ?_ ?_
       · refine stays_phiR ?_
         simp only [List.forall_mem_cons]
         exact ⟨kv, kv, kt, kv, kv, fun _ h => absurd h (by simp)⟩
       · refine ⟨?_, ?_, ?_, ?_, ?_, trivial⟩
         · refine opS_mk rfl rfl fun a W2 n hJ hp hq K hK => ?_
           have e2 : a.tmps[2]?.getD undef = .pointer (some ⟨Br, 0, none⟩) := hp 2 (by kernel_rfl)
           have c0 := hJ.cr 0 _ rfl; have c1 := hJ.cr 1 _ rfl; have c2 := hJ.cr 2 _ rfl; have c3 := hJ.cr 3 _ rfl; have c4 := hJ.cr 4 _ rfl; have c5 := hJ.cr 5 _ rfl; have c6 := hJ.cr 6 _ rfl; have c7 := hJ.cr 7 _ rfl; have c8 := hJ.cr 8 _ rfl; have c9 := hJ.cr 9 _ rfl; have c10 := hJ.cr 10 _ rfl; have c11 := hJ.cr 11 _ rfl
           clear hp hq hJ
           go_simp
           exact hK _ _ (Below.refl _ _) rfl
         · refine opS_mk rfl rfl fun a W2 n hJ hp hq K hK => ?_
           have e1 : a.tmps[1]?.getD undef = .pointer (some ⟨w.heap.size, 0, none⟩) := hp 1 (by kernel_rfl)
           have cc := hJ.rd.cs
           rw [HBS.out] at cc
           clear hp hq hJ
           go_simp
           exact hK _ _ (Below.refl _ _) rfl
         · refine opS_mk rfl rfl fun a W2 n hJ hp hq K hK => ?_
           have e2 : a.tmps[2]?.getD undef = .pointer (some ⟨Br, 0, none⟩) := hp 2 (by kernel_rfl)
           have e78 : a.tmps[78]?.getD undef = R.val (mkR n0 n1 n2 l3 n4 n5 n6 l7 n8 n9 nA lB) := hq 0 _ (by kernel_rfl) rfl
           obtain ⟨g1, g2, g3⟩ := set_block (kc := cellsR (mkR n0 n1 n2 l3 n4 n5 n6 l7 n8 n9 nA lB)) hJ.rc rfl
           have k1 := hK undef _ (below_same g2 (g1.trans hJ.rc.symm)) trivial
           clear hp hq hK
           exact wp_store_mid 50 (.tmp 2) (.tmp 78) rfl Br 0 (cellsR (mkR n0 n1 n2 l3 n4 n5 n6 l7 n8 n9 nA lB)) ((eval_slot a 2).trans e2) ((eval_slot a 78).trans e78) g3 infoR (cellsR_one _) k1
         · refine opS_mk rfl rfl fun a W2 n hJ hp hq K hK => ?_
           have e79 : a.tmps[79]?.getD undef = .string ⟨dC.s.toArray⟩ := hq 1 _ (by kernel_rfl) rfl
           clear hp hq hJ
           go_simp
           exact hK _ _ (Below.refl _ _) rfl
         · refine opS_mk rfl rfl fun a W2 n hJ hp hq K hK => ?_
           clear hp hq hJ
           go_simp
           exact hK _ _ (Below.refl _ _) rfl
       · intro vs W9 hJ9 hv9 _
         have HJ9 : Hid (StG w Bs Br Bb Bc Bn dC (mkR n0 n1 n2 l3 n4 n5 n6 l7 n8 n9 nA lB) W9) := hJ9
         have v3 : vs 3 = .string ⟨dC.s.toArray⟩ := hv9 3 _ rfl rfl
         have v4 : vs 4 = .int .i64 0 := hv9 4 _ rfl rfl
         clear hJ9 hv9
         simp only [putAll, Act.put, List.setIfInBounds_toArray, List.set_cons_succ, List.set_cons_zero, Nat.zero_add, Nat.reduceAdd, v3, v4]
         go_wp2
         refine bodyPost_ret (results_rec3 rfl _ _ Br 50 _ (0, 0) rfl HJ9.out.rc infoR) rfl ?_
         refine ⟨?_, HJ9.out.below⟩
         rw [← HRES.out, if_pos ⟨HBD.out, HCK.out⟩]
         rfl
   · skip
     have c0 := HS12.out.g.cr 0 _ rfl
     have f0 := HS12.out.g.fr 0
     have c1 := HS12.out.g.cr 1 _ rfl
     have f1 := HS12.out.g.fr 1
     have c2 := HS12.out.g.cr 2 _ rfl
     have f2 := HS12.out.g.fr 2
     have c3 := HS12.out.g.cr 3 _ rfl
     have f3 := HS12.out.g.fr 3
     have c4 := HS12.out.g.cr 4 _ rfl
     have f4 := HS12.out.g.fr 4
     have c5 := HS12.out.g.cr 5 _ rfl
     have f5 := HS12.out.g.fr 5
     have c6 := HS12.out.g.cr 6 _ rfl
     have f6 := HS12.out.g.fr 6
     have c7 := HS12.out.g.cr 7 _ rfl
     have f7 := HS12.out.g.fr 7
     have c8 := HS12.out.g.cr 8 _ rfl
     have f8 := HS12.out.g.fr 8
     have c9 := HS12.out.g.cr 9 _ rfl
     have f9 := HS12.out.g.fr 9
     have c10 := HS12.out.g.cr 10 _ rfl
     have f10 := HS12.out.g.fr 10
     have c11 := HS12.out.g.cr 11 _ rfl
     have f11 := HS12.out.g.fr 11
     go_wp2
     have HZ := HS12.out.g.zero
     refine bodyPost_ret (results_rec3 rfl _ _ Br 50 _ (0, 0) rfl HZ.rc infoR) rfl ?_
     refine ⟨?_, HZ.below⟩
     rw [← HRES.out, if_neg (by rw [HBD.out]; simp)]
     rfl
end
end Go.Proofs.YtogljgiefmfafaaGreat
