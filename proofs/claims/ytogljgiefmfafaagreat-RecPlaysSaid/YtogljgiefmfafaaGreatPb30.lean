/- Put of a record, walked. -/
import Derived.Test.YtogljgiefmfafaaGreatPb29
namespace Go.Proofs.YtogljgiefmfafaaGreat
section
open Go.RowKit Go.Maps
set_option maxRecDepth 100000 in
set_option maxHeartbeats 4000000 in
theorem t_put (r : R) (hr : r.Ok) (h1 : r.name.size ≤ maxLen) (h2 : r.name2.size ≤ maxLen) (w : World) : Calls Tryz.prog 52 #[r.val] w fun e w' => (e = if checkB r = true then .returned (.tuple #[.string ⟨r.bytes.toArray⟩, .int .i64 0]) else .returned (.tuple #[.string ⟨#[]⟩, .int .i64 2])) ∧ Below w.heap.size w w' := by
 have hchk := fun w => t_chk r hr h1 h2 w
 unfold R.val at hchk ⊢
 obtain ⟨ck, hck⟩ : ∃ b, checkB r = b := ⟨_, rfl⟩
 have HCK := zz hck
 rw [hck]
 have hce : checkE r = if ck = true then 0 else 2 := by unfold checkE; rw [hck]
 cases ck
 · have HCE : Hid (checkE r = 2) := hce
   clear hce hck
   go_enter Tryz.func52, Tryz.ntmps52
   go_wp2_with (go_at_call 54; (with_reducible refine (hchk _).mono ?_); rw [HCE.out]; rintro e w' ⟨rfl, hb⟩; have HB := zz hb; clear hb)
   go_ret2
   refine ⟨rfl, ?_⟩
   exact ((Below.refl _ _).alloc (Nat.le_refl _) _).trans (HB.out.mono (by simp))
 · have HCE : Hid (checkE r = 0) := hce
   clear hce
   obtain ⟨wd, f, hkw, hf1⟩ := kindW_form r.act
   have hra := hr.act
   go_enter Tryz.func52, Tryz.ntmps52
   go_wp2_with (go_at_call 54; (with_reducible refine (hchk _).mono ?_); rw [HCE.out]; rintro e w0 ⟨rfl, hb⟩; have HB := zz hb; clear hb)
   have hbox : w0.heap[w.heap.size]? = some (.cells #[.int .u64 r.stamp, .int .u8 r.act, .int .u32 r.dir, .string r.name, .int .u32 r.ino, .int .u8 r.kind, .int .u32 r.dir2, .string r.name2, .int .u32 r.old, .int .u32 r.size, .int .i64 r.page, .string r.data] 50 (0, 0)) := by
    rw [HB.out.block _ (by simp)]; exact heap_alloc_new _ _
   have hBw : Below w.heap.size w w0 := ((Below.refl _ _).alloc (Nat.le_refl _) _).trans (HB.out.mono (by simp))
   have hsz : w.heap.size < w0.heap.size := (Array.getElem?_eq_some_iff.1 hbox).1
   clear HB hchk
   obtain ⟨kc, hkc⟩ : ∃ kc : Array Value, #[.string wd, .bool (kEntry r.act), .bool (kKind r.act), .bool (kMove r.act), .bool (kSized r.act), .bool (kData r.act), f] = kc := ⟨_, rfl⟩
   have hks : kc.size = 7 := by rw [← hkc]; rfl
   have hk1 : kc.all (·.oneCell') = true := by rw [← hkc]; exact hf1
   rw [hkc] at hkw
   refine wp_region_rel (RelK w0.heap.size kc (.bool true)) (phi [isKinds, isV (.pointer (some ⟨w.heap.size, 1, none⟩)), isV (.int .u8 r.act), isV (.agg kc), isBlk w0.heap.size k0C kc 118, isBlk w0.heap.size kc kc 118]) (by kernel_rfl) (by kernel_rfl) (by kernel_rfl) ((RelK.refl _).trans (RelK.of_below ⟨rfl, rfl, rfl, Nat.le_refl _, fun _ _ => rfl⟩ (Nat.le_refl _))) (fun _ _ _ a b => a.trans b) ?_ ?_ ?_
   · refine stays_phiR ?_
     simp only [List.forall_mem_cons]
     exact ⟨isKinds.stays, kv, kv, kv, isBlk.staysK, isBlk.staysK, fun _ h => absurd h (by simp)⟩
   · refine ⟨?_, ?_, ?_, ?_, ?_, ?_, trivial⟩
     · refine opR_mk rfl fun a W2 hB hp hq K hK => ?_
       have hs := hB.size
       clear hp hq hB
       go_simp
       refine (t_rkinds W2).mono ?_
       rintro e w' ⟨b, rfl, hm, hb, _⟩
       exact hK _ _ (RelK.of_below hb (by omega)) ⟨b, rfl, hm⟩
     · refine opR_mk rfl fun a W2 hB hp hq K hK => ?_
       have e1 : a.tmps[1]?.getD undef = .pointer (some ⟨w.heap.size, 0, none⟩) := hp 1 (by kernel_rfl)
       clear hp hq
       go_simp
       exact hK _ _ (RelK.refl _) rfl
     · refine opR_mk rfl fun a W2 hB hp hq K hK => ?_
       have e10 : a.tmps[14]?.getD undef = .pointer (some ⟨w.heap.size, 1, none⟩) := hq 1 _ (by kernel_rfl) rfl
       have cc : W2.cell? ⟨w.heap.size, 1, none⟩ = some (.int .u8 r.act) := by
        have hb := (hB.old w.heap.size hsz).trans hbox
        simp only [World.cell?, hb]; rfl
       clear hp hq
       go_simp
       exact hK _ _ (RelK.refl _) rfl
     · refine opR_mk rfl fun a W2 hB hp hq K hK => ?_
       obtain ⟨b, e9, hm⟩ : isKinds (a.tmps[13]?.getD undef) W2 := hq 0 _ (by kernel_rfl) rfl
       have e11 : a.tmps[15]?.getD undef = .int .u8 r.act := hq 2 _ (by kernel_rfl) rfl
       have hlk := hm.look law8 Tryz.underlying119 (zeroK W2) (pkey8 hra)
       rw [show ((kindsM (.int .u8 r.act)).getD kind0) = .agg kc from hkw] at hlk
       clear hp hq
       go_simp
       exact hK _ _ (RelK.refl _) rfl
     · refine opR_mk rfl fun a W2 hB hp hq K hK => ?_
       have hs := hB.size
       clear hp hq
       go_simp
       exact hK _ _ (RelK.of_below ((Below.refl _ _).alloc (Nat.le_refl _) _) (by omega)) ⟨_, rfl, by omega, .inl (heap_alloc_new _ _)⟩
     · refine opR_mk rfl fun a W2 hB hp hq K hK => ?_
       obtain ⟨B, e3, hBG, hBc⟩ : isBlk w0.heap.size k0C kc 118 (a.tmps[5]?.getD undef) W2 := hq 4 _ (by kernel_rfl) rfl
       have e13 : a.tmps[16]?.getD undef = .agg kc := hq 3 _ (by kernel_rfl) rfl
       have hK3 : ∀ W', RelK w0.heap.size kc (.bool true) W2 W' → W'.heap[B]? = some (.cells kc 118 (0, 0)) → K (a.put none undef) W' := fun W' h1 h2 => hK undef W' h1 (by show isBlk _ _ _ _ (a.tmps[5]?.getD undef) W'; rw [e3]; exact ⟨B, rfl, hBG, .inl h2⟩)
       clear hp hq hK
       have key : ∀ cs : Array Value, cs.size = 7 → W2.heap[B]? = some (.cells cs 118 (0, 0)) → K (a.put none undef) (W2.setCells B 0 kc.toList) ∧ W2.there B 0 kc.size := fun cs h7 hc => by
        obtain ⟨g1, g2, g3⟩ := set_block (kc := kc) hc (h7.trans hks.symm)
        exact ⟨hK3 _ (RelK.setK hc hBG g2 g1) g1, g3⟩
       obtain ⟨k1, k2⟩ : K (a.put none undef) (W2.setCells B 0 kc.toList) ∧ W2.there B 0 kc.size := by
        rcases hBc with h | h
        · exact key _ rfl h
        · exact key _ hks h
       exact wp_store_mid 118 (.tmp 5) (.tmp 16) rfl B 0 kc ((eval_slot a 5).trans e3) ((eval_slot a 16).trans e13) k2 (by rw [hks]; exact infoK) hk1 k1
   · intro us W2 hB2 hv hst
     obtain ⟨B3, u7, hg3, _⟩ : isBlk w0.heap.size k0C kc 118 (us 4) W2 := hv 4 _ rfl rfl
     obtain ⟨B3', e3, _, hc3⟩ : isBlk w0.heap.size kc kc 118 (us 4) W2 := hst 5 _ 5 4 _ rfl rfl rfl rfl rfl
     have h3 : W2.heap[B3]? = some (.cells kc 118 (0, 0)) := by
      rw [u7] at e3; injection e3 with e3; injection e3 with e3; injection e3 with e3; rw [e3]; exact hc3.elim id id
     have hb2 := (hB2.old w.heap.size hsz).trans hbox
     have hBw2 : Below w.heap.size w W2 := ⟨hB2.os.trans hBw.os, hB2.tape.trans hBw.tape, hB2.output.trans hBw.output, Nat.le_trans hBw.size hB2.size, fun b hb => (hB2.old b (by omega)).trans (hBw.block b hb)⟩
     have hl3 : w.heap.size < B3 := by omega
     rw [← hkc] at h3
     have H3 := zz h3
     have HBX := zz hb2
     have HB2 := zz hBw2
     clear hv hst e3 hc3 h3 hb2 hBw2 hkc hks hk1 hkw hB2 hbox hBw hg3 hf1 hra
     simp only [putAll, Act.put, List.setIfInBounds_toArray, List.set_cons_succ, List.set_cons_zero, Nat.zero_add, Nat.reduceAdd, u7]
     go_wp2
     have hp0 : StP r w B3 W2.heap.size wd f [] (W2.alloc (Obj.cells #[Value.pointer none, Value.slice none 0 0] 162)) := by
      have lt : ∀ (B : Nat) (o : Obj), W2.heap[B]? = some o → B < W2.heap.size := fun B _ h => (Array.getElem?_eq_some_iff.1 h).1
      exact ⟨(heap_alloc_old W2 _ (lt _ _ HBX.out)).trans HBX.out, (heap_alloc_old W2 _ (lt _ _ H3.out)).trans H3.out, IsB.new _ _ HB2.out.size, HB2.out.alloc HB2.out.size _, Nat.ne_of_lt (lt _ _ HBX.out), Nat.ne_of_lt (lt _ _ H3.out)⟩
     generalize W2.alloc (Obj.cells #[Value.pointer none, Value.slice none 0 0] 162) = W0 at hp0 ⊢
     obtain ⟨b0, hb0⟩ : ∃ b0, W2.heap.size = b0 := ⟨_, rfl⟩
     rw [hb0] at hp0 ⊢
     have HP0 := zz hp0
     have hbare := bare_of_check hr HCK.out
     have hsz : ∀ s : ByteArray, s.data.toList.length = s.size := fun s => (Lib.size_eq s).symm
     have HRstamp := zz hr.stamp
     have HRact := zz hr.act
     have HRdir := zz hr.dir
     have HRino := zz hr.ino
     have HRkind := zz hr.kind
     have HRdir2 := zz hr.dir2
     have HRold := zz hr.old
     have HRsize := zz hr.size
     have HRpage : Hid (0 ≤ r.page ∧ r.page ≤ 255) := by show _ ∧ _; have := hbare.page_; omega
     have HRname : Hid (r.name.size ≤ 255) := by show _ ≤ _; have := hbare.name_; rw [hsz] at this; omega
     have HRname2 : Hid (r.name2.size ≤ 255) := by show _ ≤ _; have := hbare.name2_; rw [hsz] at this; omega
     have HRdata : Hid (r.data.size ≤ 255) := by
      show _ ≤ _
      have h3 := hbare.data
      have h4 := hbare.data_
      rw [← hsz]
      cases hkd : kData r.act
      · rw [h3 hkd]; simp
      · rw [h4 hkd]; omega
     clear hp0 hbare hsz hb0 HBX H3 HB2
     obtain ⟨L1, hl1⟩ : ∃ L : List UInt8, [] ++ onB true (flatB [nB r.stamp.toNat 8, nB r.act.toNat 1]) = L := ⟨_, rfl⟩
     have HL1 := zz hl1
     have HLB1 : Hid (([] : List UInt8).length + (flatB [nB r.stamp.toNat 8, nB r.act.toNat 1]).length ≤ 140737488355328) := by
      show _ ≤ _
      simp only [flatB, List.flatMap_cons, List.flatMap_nil, List.append_nil, List.length_append, nB_list, leB_len]
      have hh := (trivial : True)
      simp only [List.length_nil]
      omega
     have HLN1 : Hid (L1.length ≤ 600) := by
      show _ ≤ _
      rw [← hl1, List.length_append]
      have h1 := onB_len (true) (flatB [nB r.stamp.toNat 8, nB r.act.toNat 1])
      have hh := (trivial : True)
      simp only [List.length_nil]
      have h2 : (flatB [nB r.stamp.toNat 8, nB r.act.toNat 1]).length ≤ 590 := by
       simp only [flatB, List.flatMap_cons, List.flatMap_nil, List.append_nil, List.length_append, nB_list, leB_len]
       omega
      omega
     clear hl1
     refine wp_region_st (fun n W => StP r w B3 b0 wd f (stL [] L1 n) W) (fun W W' => Below W.heap.size W W') (KeptW b0) [9] (phi [isV (.func (.func 95) #[] #[.pointer (some ⟨b0, 0, none⟩)]), isV (.pointer (some ⟨w.heap.size, 0, none⟩)), isV (.int .u64 r.stamp), isV (.string (nB r.stamp.toNat 8)), isV (.pointer (some ⟨w.heap.size, 1, none⟩)), isV (.int .u8 r.act), isV (.int .u64 r.act), isV (.string (nB r.act.toNat 1)), isTexts b0 2 [nB r.stamp.toNat 8, nB r.act.toNat 1], isV (.tuple #[])]) (by kernel_rfl) (by kernel_rfl) (by kernel_rfl) (by kernel_rfl) (by kernel_rfl) (HP0.out.mono (below_drew _)) (fun _ _ _ h hr => h.mono hr) (fun _ _ h => KeptW.of_below h) ?_ ?_ ?_
     · refine stays_phiR ?_
       simp only [List.forall_mem_cons]
       exact ⟨kv, kv, kv, kv, kv, kv, kv, kv, isTexts.stays, kv, fun _ h => absurd h (by simp)⟩
     · refine ⟨?_, ?_, ?_, ?_, ?_, ?_, ?_, ?_, ?_, ?_, trivial⟩
       · refine opS_mk rfl rfl fun a W2 n hJ hp hq K hK => ?_
         have e7 : a.tmps[7]?.getD undef = .func (.func 95) #[] #[.pointer (some ⟨b0, 0, none⟩)] := hp 7 (by kernel_rfl)
         clear hp hq hJ
         go_simp
         exact hK _ _ (Below.refl _ _) rfl
       · refine opS_mk rfl rfl fun a W2 n hJ hp hq K hK => ?_
         have e1 : a.tmps[1]?.getD undef = .pointer (some ⟨w.heap.size, 0, none⟩) := hp 1 (by kernel_rfl)
         clear hp hq hJ
         go_simp
         exact hK _ _ (Below.refl _ _) rfl
       · refine opS_mk rfl rfl fun a W2 n hJ hp hq K hK => ?_
         have e19 : a.tmps[19]?.getD undef = .pointer (some ⟨w.heap.size, 0, none⟩) := hq 1 _ (by kernel_rfl) rfl
         have cc : W2.cell? ⟨w.heap.size, 0, none⟩ = some (.int .u64 r.stamp) := by (simp only [World.cell?, hJ.rc]; rfl)
         clear hp hq hJ
         go_simp
         exact hK _ _ (Below.refl _ _) rfl
       · refine opS_mk rfl rfl fun a W2 n hJ hp hq K hK => ?_
         have e20 : a.tmps[20]?.getD undef = .int .u64 r.stamp := hq 2 _ (by kernel_rfl) rfl
         clear hp hq hJ
         go_simp
         refine (t_num8 _ HRstamp.out _).mono ?_
         rintro e w2 ⟨rfl, hb2⟩
         exact hK _ _ hb2 rfl
       · refine opS_mk rfl rfl fun a W2 n hJ hp hq K hK => ?_
         have e1 : a.tmps[1]?.getD undef = .pointer (some ⟨w.heap.size, 0, none⟩) := hp 1 (by kernel_rfl)
         clear hp hq hJ
         go_simp
         exact hK _ _ (Below.refl _ _) rfl
       · refine opS_mk rfl rfl fun a W2 n hJ hp hq K hK => ?_
         have e22 : a.tmps[22]?.getD undef = .pointer (some ⟨w.heap.size, 1, none⟩) := hq 4 _ (by kernel_rfl) rfl
         have cc : W2.cell? ⟨w.heap.size, 1, none⟩ = some (.int .u8 r.act) := by (simp only [World.cell?, hJ.rc]; rfl)
         clear hp hq hJ
         go_simp
         exact hK _ _ (Below.refl _ _) rfl
       · refine opS_mk rfl rfl fun a W2 n hJ hp hq K hK => ?_
         have e23 : a.tmps[23]?.getD undef = .int .u8 r.act := hq 5 _ (by kernel_rfl) rfl
         clear hp hq hJ
         go_simp
         have hwr : IntKind.u64.wrap r.act = r.act := by rw [IntKind.wrap_u64]; have := HRact.out; omega
         first | exact hK _ _ (Below.refl _ _) rfl | (have hh := hK (.int .u64 (IntKind.u64.wrap r.act)) _ (Below.refl _ _) (by show _ = _; rw [hwr]); simpa using hh) | (rw [hwr]; exact hK _ _ (Below.refl _ _) rfl)
       · refine opS_mk rfl rfl fun a W2 n hJ hp hq K hK => ?_
         have e24 : a.tmps[24]?.getD undef = .int .u64 r.act := hq 6 _ (by kernel_rfl) rfl
         clear hp hq hJ
         go_simp
         refine (t_num1 _ HRact.out _).mono ?_
         rintro e w2 ⟨rfl, hb2⟩
         exact hK _ _ hb2 rfl
       · refine opS_mk rfl rfl fun a W2 n hJ hp hq K hK => ?_
         have e21 : a.tmps[21]?.getD undef = .string (nB r.stamp.toNat 8) := hq 3 _ (by kernel_rfl) rfl
         have e25 : a.tmps[25]?.getD undef = .string (nB r.act.toNat 1) := hq 7 _ (by kernel_rfl) rfl
         have hlt := hJ.sb.lt
         clear hp hq hJ
         go_simp
         exact hK _ _ ((Below.refl _ _).alloc (Nat.le_refl _) _) ⟨_, rfl, by omega, heap_alloc_new _ _⟩
       · refine opS_at (m := 0) rfl rfl fun a W2 hJ hp hq K hK => ?_
         have e18 : a.tmps[18]?.getD undef = .func (.func 95) #[] #[.pointer (some ⟨b0, 0, none⟩)] := hq 0 _ (by kernel_rfl) rfl
         obtain ⟨g, e26, hg, ht⟩ : isTexts b0 2 [nB r.stamp.toNat 8, nB r.act.toNat 1] (a.tmps[26]?.getD undef) W2 := hq 8 _ (by kernel_rfl) rfl
         have HJ := zz hJ
         clear hp hq hJ
         go_simp
         refine (t_put1 _ [nB r.stamp.toNat 8, nB r.act.toNat 1] 2 g w.heap.size b0 [] W2 rfl (by decide) ht hg HJ.out.sb HJ.out.below.size HLB1.out).mono ?_
         rintro e w2 ⟨rfl, g1, g2, g3⟩
         exact hK _ _ g3 (HJ.out.put (by rw [HL1.out] at g1; exact g1) g2 g3) rfl
     intro vs1 W1 hB1 hv1 _
     have HP1 : Hid (StP r w B3 b0 wd f L1 W1) := hB1
     clear hB1 hv1
     simp only [putAll, Act.put, List.setIfInBounds_toArray, List.set_cons_succ, List.set_cons_zero, Nat.zero_add, Nat.reduceAdd]
     go_wp2
     obtain ⟨L2, hl2⟩ : ∃ L : List UInt8, L1 ++ onB (kEntry r.act) (flatB [nB r.dir.toNat 4, tB r.name]) = L := ⟨_, rfl⟩
     have HL2 := zz hl2
     have HLB2 : Hid (L1.length + (flatB [nB r.dir.toNat 4, tB r.name]).length ≤ 140737488355328) := by
      show _ ≤ _
      simp only [flatB, List.flatMap_cons, List.flatMap_nil, List.append_nil, List.length_append, nB_list, tB_list, leB_len]
      have hh := HLN1.out
      have hs1 := HRname.out
      have hz1 := (Lib.size_eq r.name).symm
      omega
     have HLN2 : Hid (L2.length ≤ 1200) := by
      show _ ≤ _
      rw [← hl2, List.length_append]
      have h1 := onB_len (kEntry r.act) (flatB [nB r.dir.toNat 4, tB r.name])
      have hh := HLN1.out
      have hs1 := HRname.out
      have hz1 := (Lib.size_eq r.name).symm
      have h2 : (flatB [nB r.dir.toNat 4, tB r.name]).length ≤ 590 := by
       simp only [flatB, List.flatMap_cons, List.flatMap_nil, List.append_nil, List.length_append, nB_list, tB_list, leB_len]
       omega
      omega
     clear hl2
     refine wp_region_st (fun n W => StP r w B3 b0 wd f (stL L1 L2 n) W) (fun W W' => Below W.heap.size W W') (KeptW b0) [11] (phi [isV (.func (.func 95) #[] #[.pointer (some ⟨b0, 0, none⟩)]), isV (.pointer (some ⟨B3, 1, none⟩)), isV (.bool (kEntry r.act)), isV (.pointer (some ⟨w.heap.size, 2, none⟩)), isV (.int .u32 r.dir), isV (.int .u64 r.dir), isV (.string (nB r.dir.toNat 4)), isV (.pointer (some ⟨w.heap.size, 3, none⟩)), isV (.string r.name), isV (.string (tB r.name)), isTexts b0 2 [nB r.dir.toNat 4, tB r.name], isV (.tuple #[])]) (by kernel_rfl) (by kernel_rfl) (by kernel_rfl) (by kernel_rfl) (by kernel_rfl) (HP1.out.mono (below_drew _)) (fun _ _ _ h hr => h.mono hr) (fun _ _ h => KeptW.of_below h) ?_ ?_ ?_
     · refine stays_phiR ?_
       simp only [List.forall_mem_cons]
       exact ⟨kv, kv, kv, kv, kv, kv, kv, kv, kv, kv, isTexts.stays, kv, fun _ h => absurd h (by simp)⟩
     · refine ⟨?_, ?_, ?_, ?_, ?_, ?_, ?_, ?_, ?_, ?_, ?_, ?_, trivial⟩
       · refine opS_mk rfl rfl fun a W2 n hJ hp hq K hK => ?_
         have e7 : a.tmps[7]?.getD undef = .func (.func 95) #[] #[.pointer (some ⟨b0, 0, none⟩)] := hp 7 (by kernel_rfl)
         clear hp hq hJ
         go_simp
         exact hK _ _ (Below.refl _ _) rfl
       · refine opS_mk rfl rfl fun a W2 n hJ hp hq K hK => ?_
         have e5 : a.tmps[5]?.getD undef = .pointer (some ⟨B3, 0, none⟩) := hp 5 (by kernel_rfl)
         clear hp hq hJ
         go_simp
         exact hK _ _ (Below.refl _ _) rfl
       · refine opS_mk rfl rfl fun a W2 n hJ hp hq K hK => ?_
         have e29 : a.tmps[29]?.getD undef = .pointer (some ⟨B3, 1, none⟩) := hq 1 _ (by kernel_rfl) rfl
         have cc : W2.cell? ⟨B3, 1, none⟩ = some (.bool (kEntry r.act)) := by (simp only [World.cell?, hJ.kd]; rfl)
         clear hp hq hJ
         go_simp
         exact hK _ _ (Below.refl _ _) rfl
       · refine opS_mk rfl rfl fun a W2 n hJ hp hq K hK => ?_
         have e1 : a.tmps[1]?.getD undef = .pointer (some ⟨w.heap.size, 0, none⟩) := hp 1 (by kernel_rfl)
         clear hp hq hJ
         go_simp
         exact hK _ _ (Below.refl _ _) rfl
       · refine opS_mk rfl rfl fun a W2 n hJ hp hq K hK => ?_
         have e31 : a.tmps[31]?.getD undef = .pointer (some ⟨w.heap.size, 2, none⟩) := hq 3 _ (by kernel_rfl) rfl
         have cc : W2.cell? ⟨w.heap.size, 2, none⟩ = some (.int .u32 r.dir) := by (simp only [World.cell?, hJ.rc]; rfl)
         clear hp hq hJ
         go_simp
         exact hK _ _ (Below.refl _ _) rfl
       · refine opS_mk rfl rfl fun a W2 n hJ hp hq K hK => ?_
         have e32 : a.tmps[32]?.getD undef = .int .u32 r.dir := hq 4 _ (by kernel_rfl) rfl
         clear hp hq hJ
         go_simp
         have hwr : IntKind.u64.wrap r.dir = r.dir := by rw [IntKind.wrap_u64]; have := HRdir.out; omega
         first | exact hK _ _ (Below.refl _ _) rfl | (have hh := hK (.int .u64 (IntKind.u64.wrap r.dir)) _ (Below.refl _ _) (by show _ = _; rw [hwr]); simpa using hh) | (rw [hwr]; exact hK _ _ (Below.refl _ _) rfl)
       · refine opS_mk rfl rfl fun a W2 n hJ hp hq K hK => ?_
         have e33 : a.tmps[33]?.getD undef = .int .u64 r.dir := hq 5 _ (by kernel_rfl) rfl
         clear hp hq hJ
         go_simp
         refine (t_num4 _ HRdir.out _).mono ?_
         rintro e w2 ⟨rfl, hb2⟩
         exact hK _ _ hb2 rfl
       · refine opS_mk rfl rfl fun a W2 n hJ hp hq K hK => ?_
         have e1 : a.tmps[1]?.getD undef = .pointer (some ⟨w.heap.size, 0, none⟩) := hp 1 (by kernel_rfl)
         clear hp hq hJ
         go_simp
         exact hK _ _ (Below.refl _ _) rfl
       · refine opS_mk rfl rfl fun a W2 n hJ hp hq K hK => ?_
         have e35 : a.tmps[35]?.getD undef = .pointer (some ⟨w.heap.size, 3, none⟩) := hq 7 _ (by kernel_rfl) rfl
         have cc : W2.cell? ⟨w.heap.size, 3, none⟩ = some (.string r.name) := by (simp only [World.cell?, hJ.rc]; rfl)
         clear hp hq hJ
         go_simp
         exact hK _ _ (Below.refl _ _) rfl
       · refine opS_mk rfl rfl fun a W2 n hJ hp hq K hK => ?_
         have e36 : a.tmps[36]?.getD undef = .string r.name := hq 8 _ (by kernel_rfl) rfl
         clear hp hq hJ
         go_simp
         refine (t_textB _ HRname.out _).mono ?_
         rintro e w2 ⟨rfl, hb2⟩
         exact hK _ _ hb2 rfl
       · refine opS_mk rfl rfl fun a W2 n hJ hp hq K hK => ?_
         have e34 : a.tmps[34]?.getD undef = .string (nB r.dir.toNat 4) := hq 6 _ (by kernel_rfl) rfl
         have e37 : a.tmps[37]?.getD undef = .string (tB r.name) := hq 9 _ (by kernel_rfl) rfl
         have hlt := hJ.sb.lt
         clear hp hq hJ
         go_simp
         exact hK _ _ ((Below.refl _ _).alloc (Nat.le_refl _) _) ⟨_, rfl, by omega, heap_alloc_new _ _⟩
       · refine opS_at (m := 0) rfl rfl fun a W2 hJ hp hq K hK => ?_
         have e28 : a.tmps[28]?.getD undef = .func (.func 95) #[] #[.pointer (some ⟨b0, 0, none⟩)] := hq 0 _ (by kernel_rfl) rfl
         have e30 : a.tmps[30]?.getD undef = .bool (kEntry r.act) := hq 2 _ (by kernel_rfl) rfl
         obtain ⟨g, e38, hg, ht⟩ : isTexts b0 2 [nB r.dir.toNat 4, tB r.name] (a.tmps[38]?.getD undef) W2 := hq 10 _ (by kernel_rfl) rfl
         have HJ := zz hJ
         clear hp hq hJ
         go_simp
         refine (t_put1 _ [nB r.dir.toNat 4, tB r.name] 2 g w.heap.size b0 L1 W2 rfl (by decide) ht hg HJ.out.sb HJ.out.below.size HLB2.out).mono ?_
         rintro e w2 ⟨rfl, g1, g2, g3⟩
         exact hK _ _ g3 (HJ.out.put (by rw [HL2.out] at g1; exact g1) g2 g3) rfl
     intro vs2 W2 hB2 hv2 _
     have HP2 : Hid (StP r w B3 b0 wd f L2 W2) := hB2
     clear hB2 hv2
     simp only [putAll, Act.put, List.setIfInBounds_toArray, List.set_cons_succ, List.set_cons_zero, Nat.zero_add, Nat.reduceAdd]
     obtain ⟨L3, hl3⟩ : ∃ L : List UInt8, L2 ++ onB true (flatB [nB r.ino.toNat 4]) = L := ⟨_, rfl⟩
     have HL3 := zz hl3
     have HLB3 : Hid (L2.length + (flatB [nB r.ino.toNat 4]).length ≤ 140737488355328) := by
      show _ ≤ _
      simp only [flatB, List.flatMap_cons, List.flatMap_nil, List.append_nil, nB_list, leB_len]
      have hh := HLN2.out
      omega
     have HLN3 : Hid (L3.length ≤ 1800) := by
      show _ ≤ _
      rw [← hl3, List.length_append]
      have h1 := onB_len (true) (flatB [nB r.ino.toNat 4])
      have hh := HLN2.out
      have h2 : (flatB [nB r.ino.toNat 4]).length ≤ 590 := by
       simp only [flatB, List.flatMap_cons, List.flatMap_nil, List.append_nil, nB_list, leB_len]
       omega
      omega
     clear hl3
     have c4 : W2.cell? ⟨w.heap.size, 4, none⟩ = some (.int .u32 r.ino) := by (simp only [World.cell?, HP2.out.rc]; rfl)
     have hwr : IntKind.u64.wrap r.ino = r.ino := by rw [IntKind.wrap_u64]; have := HRino.out; omega
     go_wp2_with (first
      | (go_at_call 97; refine (t_num4 _ HRino.out _).mono ?_; rintro e V1 ⟨rfl, hb2⟩; have HV1 := zz (HP2.out.mono hb2); clear hb2)
      | (go_at_call 95; refine (t_put1 true [nB r.ino.toNat 4] 1 _ w.heap.size b0 L2 _ rfl (by decide) (heap_alloc_new _ _) (Ne.symm (Nat.ne_of_lt HV1.out.sb.lt)) (HV1.out.mono (below_a1' _ _)).sb (HV1.out.mono (below_a1' _ _)).below.size HLB3.out).mono ?_; rintro e W3 ⟨rfl, g1, g2, g3⟩; have HP3 : Hid (StP r w B3 b0 wd f L3 W3) := (HV1.out.mono (below_a1' _ _)).put (by rw [HL3.out] at g1; exact g1) g2 g3; clear g1 g2 g3))
     obtain ⟨L4, hl4⟩ : ∃ L : List UInt8, L3 ++ onB (kKind r.act) (flatB [nB r.kind.toNat 1]) = L := ⟨_, rfl⟩
     have HL4 := zz hl4
     have HLB4 : Hid (L3.length + (flatB [nB r.kind.toNat 1]).length ≤ 140737488355328) := by
      show _ ≤ _
      simp only [flatB, List.flatMap_cons, List.flatMap_nil, List.append_nil, nB_list, leB_len]
      have hh := HLN3.out
      omega
     have HLN4 : Hid (L4.length ≤ 2400) := by
      show _ ≤ _
      rw [← hl4, List.length_append]
      have h1 := onB_len (kKind r.act) (flatB [nB r.kind.toNat 1])
      have hh := HLN3.out
      have h2 : (flatB [nB r.kind.toNat 1]).length ≤ 590 := by
       simp only [flatB, List.flatMap_cons, List.flatMap_nil, List.append_nil, nB_list, leB_len]
       omega
      omega
     clear hl4
     refine wp_region_st (fun n W => StP r w B3 b0 wd f (stL L3 L4 n) W) (fun W W' => Below W.heap.size W W') (KeptW b0) [8] (phi [isV (.func (.func 95) #[] #[.pointer (some ⟨b0, 0, none⟩)]), isV (.pointer (some ⟨B3, 2, none⟩)), isV (.bool (kKind r.act)), isV (.pointer (some ⟨w.heap.size, 5, none⟩)), isV (.int .u8 r.kind), isV (.int .u64 r.kind), isV (.string (nB r.kind.toNat 1)), isTexts b0 1 [nB r.kind.toNat 1], isV (.tuple #[])]) (by kernel_rfl) (by kernel_rfl) (by kernel_rfl) (by kernel_rfl) (by kernel_rfl) (HP3.out.mono (below_drew _)) (fun _ _ _ h hr => h.mono hr) (fun _ _ h => KeptW.of_below h) ?_ ?_ ?_
     · refine stays_phiR ?_
       simp only [List.forall_mem_cons]
       exact ⟨kv, kv, kv, kv, kv, kv, kv, isTexts.stays, kv, fun _ h => absurd h (by simp)⟩
     · refine ⟨?_, ?_, ?_, ?_, ?_, ?_, ?_, ?_, ?_, trivial⟩
       · refine opS_mk rfl rfl fun a W2 n hJ hp hq K hK => ?_
         have e7 : a.tmps[7]?.getD undef = .func (.func 95) #[] #[.pointer (some ⟨b0, 0, none⟩)] := hp 7 (by kernel_rfl)
         clear hp hq hJ
         go_simp
         exact hK _ _ (Below.refl _ _) rfl
       · refine opS_mk rfl rfl fun a W2 n hJ hp hq K hK => ?_
         have e5 : a.tmps[5]?.getD undef = .pointer (some ⟨B3, 0, none⟩) := hp 5 (by kernel_rfl)
         clear hp hq hJ
         go_simp
         exact hK _ _ (Below.refl _ _) rfl
       · refine opS_mk rfl rfl fun a W2 n hJ hp hq K hK => ?_
         have e48 : a.tmps[48]?.getD undef = .pointer (some ⟨B3, 2, none⟩) := hq 1 _ (by kernel_rfl) rfl
         have cc : W2.cell? ⟨B3, 2, none⟩ = some (.bool (kKind r.act)) := by (simp only [World.cell?, hJ.kd]; rfl)
         clear hp hq hJ
         go_simp
         exact hK _ _ (Below.refl _ _) rfl
       · refine opS_mk rfl rfl fun a W2 n hJ hp hq K hK => ?_
         have e1 : a.tmps[1]?.getD undef = .pointer (some ⟨w.heap.size, 0, none⟩) := hp 1 (by kernel_rfl)
         clear hp hq hJ
         go_simp
         exact hK _ _ (Below.refl _ _) rfl
       · refine opS_mk rfl rfl fun a W2 n hJ hp hq K hK => ?_
         have e50 : a.tmps[50]?.getD undef = .pointer (some ⟨w.heap.size, 5, none⟩) := hq 3 _ (by kernel_rfl) rfl
         have cc : W2.cell? ⟨w.heap.size, 5, none⟩ = some (.int .u8 r.kind) := by (simp only [World.cell?, hJ.rc]; rfl)
         clear hp hq hJ
         go_simp
         exact hK _ _ (Below.refl _ _) rfl
       · refine opS_mk rfl rfl fun a W2 n hJ hp hq K hK => ?_
         have e51 : a.tmps[51]?.getD undef = .int .u8 r.kind := hq 4 _ (by kernel_rfl) rfl
         clear hp hq hJ
         go_simp
         have hwr : IntKind.u64.wrap r.kind = r.kind := by rw [IntKind.wrap_u64]; have := HRkind.out; omega
         first | exact hK _ _ (Below.refl _ _) rfl | (have hh := hK (.int .u64 (IntKind.u64.wrap r.kind)) _ (Below.refl _ _) (by show _ = _; rw [hwr]); simpa using hh) | (rw [hwr]; exact hK _ _ (Below.refl _ _) rfl)
       · refine opS_mk rfl rfl fun a W2 n hJ hp hq K hK => ?_
         have e52 : a.tmps[52]?.getD undef = .int .u64 r.kind := hq 5 _ (by kernel_rfl) rfl
         clear hp hq hJ
         go_simp
         refine (t_num1 _ HRkind.out _).mono ?_
         rintro e w2 ⟨rfl, hb2⟩
         exact hK _ _ hb2 rfl
       · refine opS_mk rfl rfl fun a W2 n hJ hp hq K hK => ?_
         have e53 : a.tmps[53]?.getD undef = .string (nB r.kind.toNat 1) := hq 6 _ (by kernel_rfl) rfl
         have hlt := hJ.sb.lt
         clear hp hq hJ
         go_simp
         exact hK _ _ ((Below.refl _ _).alloc (Nat.le_refl _) _) ⟨_, rfl, by omega, heap_alloc_new _ _⟩
       · refine opS_at (m := 0) rfl rfl fun a W2 hJ hp hq K hK => ?_
         have e47 : a.tmps[47]?.getD undef = .func (.func 95) #[] #[.pointer (some ⟨b0, 0, none⟩)] := hq 0 _ (by kernel_rfl) rfl
         have e49 : a.tmps[49]?.getD undef = .bool (kKind r.act) := hq 2 _ (by kernel_rfl) rfl
         obtain ⟨g, e54, hg, ht⟩ : isTexts b0 1 [nB r.kind.toNat 1] (a.tmps[54]?.getD undef) W2 := hq 7 _ (by kernel_rfl) rfl
         have HJ := zz hJ
         clear hp hq hJ
         go_simp
         refine (t_put1 _ [nB r.kind.toNat 1] 1 g w.heap.size b0 L3 W2 rfl (by decide) ht hg HJ.out.sb HJ.out.below.size HLB4.out).mono ?_
         rintro e w2 ⟨rfl, g1, g2, g3⟩
         exact hK _ _ g3 (HJ.out.put (by rw [HL4.out] at g1; exact g1) g2 g3) rfl
     intro vs4 W4 hB4 hv4 _
     have HP4 : Hid (StP r w B3 b0 wd f L4 W4) := hB4
     clear hB4 hv4
     simp only [putAll, Act.put, List.setIfInBounds_toArray, List.set_cons_succ, List.set_cons_zero, Nat.zero_add, Nat.reduceAdd]
     go_wp2
     obtain ⟨L5, hl5⟩ : ∃ L : List UInt8, L4 ++ onB (kMove r.act) (flatB [nB r.dir2.toNat 4, tB r.name2, nB r.old.toNat 4]) = L := ⟨_, rfl⟩
     have HL5 := zz hl5
     have HLB5 : Hid (L4.length + (flatB [nB r.dir2.toNat 4, tB r.name2, nB r.old.toNat 4]).length ≤ 140737488355328) := by
      show _ ≤ _
      simp only [flatB, List.flatMap_cons, List.flatMap_nil, List.append_nil, List.length_append, nB_list, tB_list, leB_len]
      have hh := HLN4.out
      have hs1 := HRname2.out
      have hz1 := (Lib.size_eq r.name2).symm
      omega
     have HLN5 : Hid (L5.length ≤ 3000) := by
      show _ ≤ _
      rw [← hl5, List.length_append]
      have h1 := onB_len (kMove r.act) (flatB [nB r.dir2.toNat 4, tB r.name2, nB r.old.toNat 4])
      have hh := HLN4.out
      have hs1 := HRname2.out
      have hz1 := (Lib.size_eq r.name2).symm
      have h2 : (flatB [nB r.dir2.toNat 4, tB r.name2, nB r.old.toNat 4]).length ≤ 590 := by
       simp only [flatB, List.flatMap_cons, List.flatMap_nil, List.append_nil, List.length_append, nB_list, tB_list, leB_len]
       omega
      omega
     clear hl5
     refine wp_region_st (fun n W => StP r w B3 b0 wd f (stL L4 L5 n) W) (fun W W' => Below W.heap.size W W') (KeptW b0) [15] (phi [isV (.func (.func 95) #[] #[.pointer (some ⟨b0, 0, none⟩)]), isV (.pointer (some ⟨B3, 3, none⟩)), isV (.bool (kMove r.act)), isV (.pointer (some ⟨w.heap.size, 6, none⟩)), isV (.int .u32 r.dir2), isV (.int .u64 r.dir2), isV (.string (nB r.dir2.toNat 4)), isV (.pointer (some ⟨w.heap.size, 7, none⟩)), isV (.string r.name2), isV (.string (tB r.name2)), isV (.pointer (some ⟨w.heap.size, 8, none⟩)), isV (.int .u32 r.old), isV (.int .u64 r.old), isV (.string (nB r.old.toNat 4)), isTexts b0 3 [nB r.dir2.toNat 4, tB r.name2, nB r.old.toNat 4], isV (.tuple #[])]) (by kernel_rfl) (by kernel_rfl) (by kernel_rfl) (by kernel_rfl) (by kernel_rfl) (HP4.out.mono (below_drew _)) (fun _ _ _ h hr => h.mono hr) (fun _ _ h => KeptW.of_below h) ?_ ?_ ?_
     · refine stays_phiR ?_
       simp only [List.forall_mem_cons]
       exact ⟨kv, kv, kv, kv, kv, kv, kv, kv, kv, kv, kv, kv, kv, kv, isTexts.stays, kv, fun _ h => absurd h (by simp)⟩
     · refine ⟨?_, ?_, ?_, ?_, ?_, ?_, ?_, ?_, ?_, ?_, ?_, ?_, ?_, ?_, ?_, ?_, trivial⟩
       · refine opS_mk rfl rfl fun a W2 n hJ hp hq K hK => ?_
         have e7 : a.tmps[7]?.getD undef = .func (.func 95) #[] #[.pointer (some ⟨b0, 0, none⟩)] := hp 7 (by kernel_rfl)
         clear hp hq hJ
         go_simp
         exact hK _ _ (Below.refl _ _) rfl
       · refine opS_mk rfl rfl fun a W2 n hJ hp hq K hK => ?_
         have e5 : a.tmps[5]?.getD undef = .pointer (some ⟨B3, 0, none⟩) := hp 5 (by kernel_rfl)
         clear hp hq hJ
         go_simp
         exact hK _ _ (Below.refl _ _) rfl
       · refine opS_mk rfl rfl fun a W2 n hJ hp hq K hK => ?_
         have e57 : a.tmps[57]?.getD undef = .pointer (some ⟨B3, 3, none⟩) := hq 1 _ (by kernel_rfl) rfl
         have cc : W2.cell? ⟨B3, 3, none⟩ = some (.bool (kMove r.act)) := by (simp only [World.cell?, hJ.kd]; rfl)
         clear hp hq hJ
         go_simp
         exact hK _ _ (Below.refl _ _) rfl
       · refine opS_mk rfl rfl fun a W2 n hJ hp hq K hK => ?_
         have e1 : a.tmps[1]?.getD undef = .pointer (some ⟨w.heap.size, 0, none⟩) := hp 1 (by kernel_rfl)
         clear hp hq hJ
         go_simp
         exact hK _ _ (Below.refl _ _) rfl
       · refine opS_mk rfl rfl fun a W2 n hJ hp hq K hK => ?_
         have e59 : a.tmps[59]?.getD undef = .pointer (some ⟨w.heap.size, 6, none⟩) := hq 3 _ (by kernel_rfl) rfl
         have cc : W2.cell? ⟨w.heap.size, 6, none⟩ = some (.int .u32 r.dir2) := by (simp only [World.cell?, hJ.rc]; rfl)
         clear hp hq hJ
         go_simp
         exact hK _ _ (Below.refl _ _) rfl
       · refine opS_mk rfl rfl fun a W2 n hJ hp hq K hK => ?_
         have e60 : a.tmps[60]?.getD undef = .int .u32 r.dir2 := hq 4 _ (by kernel_rfl) rfl
         clear hp hq hJ
         go_simp
         have hwr : IntKind.u64.wrap r.dir2 = r.dir2 := by rw [IntKind.wrap_u64]; have := HRdir2.out; omega
         first | exact hK _ _ (Below.refl _ _) rfl | (have hh := hK (.int .u64 (IntKind.u64.wrap r.dir2)) _ (Below.refl _ _) (by show _ = _; rw [hwr]); simpa using hh) | (rw [hwr]; exact hK _ _ (Below.refl _ _) rfl)
       · refine opS_mk rfl rfl fun a W2 n hJ hp hq K hK => ?_
         have e61 : a.tmps[61]?.getD undef = .int .u64 r.dir2 := hq 5 _ (by kernel_rfl) rfl
         clear hp hq hJ
         go_simp
         refine (t_num4 _ HRdir2.out _).mono ?_
         rintro e w2 ⟨rfl, hb2⟩
         exact hK _ _ hb2 rfl
       · refine opS_mk rfl rfl fun a W2 n hJ hp hq K hK => ?_
         have e1 : a.tmps[1]?.getD undef = .pointer (some ⟨w.heap.size, 0, none⟩) := hp 1 (by kernel_rfl)
         clear hp hq hJ
         go_simp
         exact hK _ _ (Below.refl _ _) rfl
       · refine opS_mk rfl rfl fun a W2 n hJ hp hq K hK => ?_
         have e63 : a.tmps[63]?.getD undef = .pointer (some ⟨w.heap.size, 7, none⟩) := hq 7 _ (by kernel_rfl) rfl
         have cc : W2.cell? ⟨w.heap.size, 7, none⟩ = some (.string r.name2) := by (simp only [World.cell?, hJ.rc]; rfl)
         clear hp hq hJ
         go_simp
         exact hK _ _ (Below.refl _ _) rfl
       · refine opS_mk rfl rfl fun a W2 n hJ hp hq K hK => ?_
         have e64 : a.tmps[64]?.getD undef = .string r.name2 := hq 8 _ (by kernel_rfl) rfl
         clear hp hq hJ
         go_simp
         refine (t_textB _ HRname2.out _).mono ?_
         rintro e w2 ⟨rfl, hb2⟩
         exact hK _ _ hb2 rfl
       · refine opS_mk rfl rfl fun a W2 n hJ hp hq K hK => ?_
         have e1 : a.tmps[1]?.getD undef = .pointer (some ⟨w.heap.size, 0, none⟩) := hp 1 (by kernel_rfl)
         clear hp hq hJ
         go_simp
         exact hK _ _ (Below.refl _ _) rfl
       · refine opS_mk rfl rfl fun a W2 n hJ hp hq K hK => ?_
         have e66 : a.tmps[66]?.getD undef = .pointer (some ⟨w.heap.size, 8, none⟩) := hq 10 _ (by kernel_rfl) rfl
         have cc : W2.cell? ⟨w.heap.size, 8, none⟩ = some (.int .u32 r.old) := by (simp only [World.cell?, hJ.rc]; rfl)
         clear hp hq hJ
         go_simp
         exact hK _ _ (Below.refl _ _) rfl
       · refine opS_mk rfl rfl fun a W2 n hJ hp hq K hK => ?_
         have e67 : a.tmps[67]?.getD undef = .int .u32 r.old := hq 11 _ (by kernel_rfl) rfl
         clear hp hq hJ
         go_simp
         have hwr : IntKind.u64.wrap r.old = r.old := by rw [IntKind.wrap_u64]; have := HRold.out; omega
         first | exact hK _ _ (Below.refl _ _) rfl | (have hh := hK (.int .u64 (IntKind.u64.wrap r.old)) _ (Below.refl _ _) (by show _ = _; rw [hwr]); simpa using hh) | (rw [hwr]; exact hK _ _ (Below.refl _ _) rfl)
       · refine opS_mk rfl rfl fun a W2 n hJ hp hq K hK => ?_
         have e68 : a.tmps[68]?.getD undef = .int .u64 r.old := hq 12 _ (by kernel_rfl) rfl
         clear hp hq hJ
         go_simp
         refine (t_num4 _ HRold.out _).mono ?_
         rintro e w2 ⟨rfl, hb2⟩
         exact hK _ _ hb2 rfl
       · refine opS_mk rfl rfl fun a W2 n hJ hp hq K hK => ?_
         have e62 : a.tmps[62]?.getD undef = .string (nB r.dir2.toNat 4) := hq 6 _ (by kernel_rfl) rfl
         have e65 : a.tmps[65]?.getD undef = .string (tB r.name2) := hq 9 _ (by kernel_rfl) rfl
         have e69 : a.tmps[69]?.getD undef = .string (nB r.old.toNat 4) := hq 13 _ (by kernel_rfl) rfl
         have hlt := hJ.sb.lt
         clear hp hq hJ
         go_simp
         exact hK _ _ ((Below.refl _ _).alloc (Nat.le_refl _) _) ⟨_, rfl, by omega, heap_alloc_new _ _⟩
       · refine opS_at (m := 0) rfl rfl fun a W2 hJ hp hq K hK => ?_
         have e56 : a.tmps[56]?.getD undef = .func (.func 95) #[] #[.pointer (some ⟨b0, 0, none⟩)] := hq 0 _ (by kernel_rfl) rfl
         have e58 : a.tmps[58]?.getD undef = .bool (kMove r.act) := hq 2 _ (by kernel_rfl) rfl
         obtain ⟨g, e70, hg, ht⟩ : isTexts b0 3 [nB r.dir2.toNat 4, tB r.name2, nB r.old.toNat 4] (a.tmps[70]?.getD undef) W2 := hq 14 _ (by kernel_rfl) rfl
         have HJ := zz hJ
         clear hp hq hJ
         go_simp
         refine (t_put1 _ [nB r.dir2.toNat 4, tB r.name2, nB r.old.toNat 4] 3 g w.heap.size b0 L4 W2 rfl (by decide) ht hg HJ.out.sb HJ.out.below.size HLB5.out).mono ?_
         rintro e w2 ⟨rfl, g1, g2, g3⟩
         exact hK _ _ g3 (HJ.out.put (by rw [HL5.out] at g1; exact g1) g2 g3) rfl
     intro vs5 W5 hB5 hv5 _
     have HP5 : Hid (StP r w B3 b0 wd f L5 W5) := hB5
     clear hB5 hv5
     simp only [putAll, Act.put, List.setIfInBounds_toArray, List.set_cons_succ, List.set_cons_zero, Nat.zero_add, Nat.reduceAdd]
     go_wp2
     obtain ⟨L6, hl6⟩ : ∃ L : List UInt8, L5 ++ onB (kSized r.act) (flatB [nB r.size.toNat 4]) = L := ⟨_, rfl⟩
     have HL6 := zz hl6
     have HLB6 : Hid (L5.length + (flatB [nB r.size.toNat 4]).length ≤ 140737488355328) := by
      show _ ≤ _
      simp only [flatB, List.flatMap_cons, List.flatMap_nil, List.append_nil, nB_list, leB_len]
      have hh := HLN5.out
      omega
     have HLN6 : Hid (L6.length ≤ 3600) := by
      show _ ≤ _
      rw [← hl6, List.length_append]
      have h1 := onB_len (kSized r.act) (flatB [nB r.size.toNat 4])
      have hh := HLN5.out
      have h2 : (flatB [nB r.size.toNat 4]).length ≤ 590 := by
       simp only [flatB, List.flatMap_cons, List.flatMap_nil, List.append_nil, nB_list, leB_len]
       omega
      omega
     clear hl6
     refine wp_region_st (fun n W => StP r w B3 b0 wd f (stL L5 L6 n) W) (fun W W' => Below W.heap.size W W') (KeptW b0) [8] (phi [isV (.func (.func 95) #[] #[.pointer (some ⟨b0, 0, none⟩)]), isV (.pointer (some ⟨B3, 4, none⟩)), isV (.bool (kSized r.act)), isV (.pointer (some ⟨w.heap.size, 9, none⟩)), isV (.int .u32 r.size), isV (.int .u64 r.size), isV (.string (nB r.size.toNat 4)), isTexts b0 1 [nB r.size.toNat 4], isV (.tuple #[])]) (by kernel_rfl) (by kernel_rfl) (by kernel_rfl) (by kernel_rfl) (by kernel_rfl) (HP5.out.mono (below_drew _)) (fun _ _ _ h hr => h.mono hr) (fun _ _ h => KeptW.of_below h) ?_ ?_ ?_
     · refine stays_phiR ?_
       simp only [List.forall_mem_cons]
       exact ⟨kv, kv, kv, kv, kv, kv, kv, isTexts.stays, kv, fun _ h => absurd h (by simp)⟩
     · refine ⟨?_, ?_, ?_, ?_, ?_, ?_, ?_, ?_, ?_, trivial⟩
       · refine opS_mk rfl rfl fun a W2 n hJ hp hq K hK => ?_
         have e7 : a.tmps[7]?.getD undef = .func (.func 95) #[] #[.pointer (some ⟨b0, 0, none⟩)] := hp 7 (by kernel_rfl)
         clear hp hq hJ
         go_simp
         exact hK _ _ (Below.refl _ _) rfl
       · refine opS_mk rfl rfl fun a W2 n hJ hp hq K hK => ?_
         have e5 : a.tmps[5]?.getD undef = .pointer (some ⟨B3, 0, none⟩) := hp 5 (by kernel_rfl)
         clear hp hq hJ
         go_simp
         exact hK _ _ (Below.refl _ _) rfl
       · refine opS_mk rfl rfl fun a W2 n hJ hp hq K hK => ?_
         have e73 : a.tmps[73]?.getD undef = .pointer (some ⟨B3, 4, none⟩) := hq 1 _ (by kernel_rfl) rfl
         have cc : W2.cell? ⟨B3, 4, none⟩ = some (.bool (kSized r.act)) := by (simp only [World.cell?, hJ.kd]; rfl)
         clear hp hq hJ
         go_simp
         exact hK _ _ (Below.refl _ _) rfl
       · refine opS_mk rfl rfl fun a W2 n hJ hp hq K hK => ?_
         have e1 : a.tmps[1]?.getD undef = .pointer (some ⟨w.heap.size, 0, none⟩) := hp 1 (by kernel_rfl)
         clear hp hq hJ
         go_simp
         exact hK _ _ (Below.refl _ _) rfl
       · refine opS_mk rfl rfl fun a W2 n hJ hp hq K hK => ?_
         have e75 : a.tmps[75]?.getD undef = .pointer (some ⟨w.heap.size, 9, none⟩) := hq 3 _ (by kernel_rfl) rfl
         have cc : W2.cell? ⟨w.heap.size, 9, none⟩ = some (.int .u32 r.size) := by (simp only [World.cell?, hJ.rc]; rfl)
         clear hp hq hJ
         go_simp
         exact hK _ _ (Below.refl _ _) rfl
       · refine opS_mk rfl rfl fun a W2 n hJ hp hq K hK => ?_
         have e76 : a.tmps[76]?.getD undef = .int .u32 r.size := hq 4 _ (by kernel_rfl) rfl
         clear hp hq hJ
         go_simp
         have hwr : IntKind.u64.wrap r.size = r.size := by rw [IntKind.wrap_u64]; have := HRsize.out; omega
         first | exact hK _ _ (Below.refl _ _) rfl | (have hh := hK (.int .u64 (IntKind.u64.wrap r.size)) _ (Below.refl _ _) (by show _ = _; rw [hwr]); simpa using hh) | (rw [hwr]; exact hK _ _ (Below.refl _ _) rfl)
       · refine opS_mk rfl rfl fun a W2 n hJ hp hq K hK => ?_
         have e77 : a.tmps[77]?.getD undef = .int .u64 r.size := hq 5 _ (by kernel_rfl) rfl
         clear hp hq hJ
         go_simp
         refine (t_num4 _ HRsize.out _).mono ?_
         rintro e w2 ⟨rfl, hb2⟩
         exact hK _ _ hb2 rfl
       · refine opS_mk rfl rfl fun a W2 n hJ hp hq K hK => ?_
         have e78 : a.tmps[78]?.getD undef = .string (nB r.size.toNat 4) := hq 6 _ (by kernel_rfl) rfl
         have hlt := hJ.sb.lt
         clear hp hq hJ
         go_simp
         exact hK _ _ ((Below.refl _ _).alloc (Nat.le_refl _) _) ⟨_, rfl, by omega, heap_alloc_new _ _⟩
       · refine opS_at (m := 0) rfl rfl fun a W2 hJ hp hq K hK => ?_
         have e72 : a.tmps[72]?.getD undef = .func (.func 95) #[] #[.pointer (some ⟨b0, 0, none⟩)] := hq 0 _ (by kernel_rfl) rfl
         have e74 : a.tmps[74]?.getD undef = .bool (kSized r.act) := hq 2 _ (by kernel_rfl) rfl
         obtain ⟨g, e79, hg, ht⟩ : isTexts b0 1 [nB r.size.toNat 4] (a.tmps[79]?.getD undef) W2 := hq 7 _ (by kernel_rfl) rfl
         have HJ := zz hJ
         clear hp hq hJ
         go_simp
         refine (t_put1 _ [nB r.size.toNat 4] 1 g w.heap.size b0 L5 W2 rfl (by decide) ht hg HJ.out.sb HJ.out.below.size HLB6.out).mono ?_
         rintro e w2 ⟨rfl, g1, g2, g3⟩
         exact hK _ _ g3 (HJ.out.put (by rw [HL6.out] at g1; exact g1) g2 g3) rfl
     intro vs6 W6 hB6 hv6 _
     have HP6 : Hid (StP r w B3 b0 wd f L6 W6) := hB6
     clear hB6 hv6
     simp only [putAll, Act.put, List.setIfInBounds_toArray, List.set_cons_succ, List.set_cons_zero, Nat.zero_add, Nat.reduceAdd]
     go_wp2
     obtain ⟨L7, hl7⟩ : ∃ L : List UInt8, L6 ++ onB (kData r.act) (flatB [nB r.page.toNat 1, r.data]) = L := ⟨_, rfl⟩
     have HL7 := zz hl7
     have HLB7 : Hid (L6.length + (flatB [nB r.page.toNat 1, r.data]).length ≤ 140737488355328) := by
      show _ ≤ _
      simp only [flatB, List.flatMap_cons, List.flatMap_nil, List.append_nil, List.length_append, nB_list, leB_len]
      have hh := HLN6.out
      have hs1 := HRdata.out
      have hz1 := (Lib.size_eq r.data).symm
      omega
     have HLN7 : Hid (L7.length ≤ 4200) := by
      show _ ≤ _
      rw [← hl7, List.length_append]
      have h1 := onB_len (kData r.act) (flatB [nB r.page.toNat 1, r.data])
      have hh := HLN6.out
      have hs1 := HRdata.out
      have hz1 := (Lib.size_eq r.data).symm
      have h2 : (flatB [nB r.page.toNat 1, r.data]).length ≤ 590 := by
       simp only [flatB, List.flatMap_cons, List.flatMap_nil, List.append_nil, List.length_append, nB_list, leB_len]
       omega
      omega
     clear hl7
     refine wp_region_st (fun n W => StP r w B3 b0 wd f (stL L6 L7 n) W) (fun W W' => Below W.heap.size W W') (KeptW b0) [10] (phi [isV (.func (.func 95) #[] #[.pointer (some ⟨b0, 0, none⟩)]), isV (.pointer (some ⟨B3, 5, none⟩)), isV (.bool (kData r.act)), isV (.pointer (some ⟨w.heap.size, 10, none⟩)), isV (.int .i64 r.page), isV (.int .u64 r.page), isV (.string (nB r.page.toNat 1)), isV (.pointer (some ⟨w.heap.size, 11, none⟩)), isV (.string r.data), isTexts b0 2 [nB r.page.toNat 1, r.data], isV (.tuple #[])]) (by kernel_rfl) (by kernel_rfl) (by kernel_rfl) (by kernel_rfl) (by kernel_rfl) (HP6.out.mono (below_drew _)) (fun _ _ _ h hr => h.mono hr) (fun _ _ h => KeptW.of_below h) ?_ ?_ ?_
     · refine stays_phiR ?_
       simp only [List.forall_mem_cons]
       exact ⟨kv, kv, kv, kv, kv, kv, kv, kv, kv, isTexts.stays, kv, fun _ h => absurd h (by simp)⟩
     · refine ⟨?_, ?_, ?_, ?_, ?_, ?_, ?_, ?_, ?_, ?_, ?_, trivial⟩
       · refine opS_mk rfl rfl fun a W2 n hJ hp hq K hK => ?_
         have e7 : a.tmps[7]?.getD undef = .func (.func 95) #[] #[.pointer (some ⟨b0, 0, none⟩)] := hp 7 (by kernel_rfl)
         clear hp hq hJ
         go_simp
         exact hK _ _ (Below.refl _ _) rfl
       · refine opS_mk rfl rfl fun a W2 n hJ hp hq K hK => ?_
         have e5 : a.tmps[5]?.getD undef = .pointer (some ⟨B3, 0, none⟩) := hp 5 (by kernel_rfl)
         clear hp hq hJ
         go_simp
         exact hK _ _ (Below.refl _ _) rfl
       · refine opS_mk rfl rfl fun a W2 n hJ hp hq K hK => ?_
         have e82 : a.tmps[82]?.getD undef = .pointer (some ⟨B3, 5, none⟩) := hq 1 _ (by kernel_rfl) rfl
         have cc : W2.cell? ⟨B3, 5, none⟩ = some (.bool (kData r.act)) := by (simp only [World.cell?, hJ.kd]; rfl)
         clear hp hq hJ
         go_simp
         exact hK _ _ (Below.refl _ _) rfl
       · refine opS_mk rfl rfl fun a W2 n hJ hp hq K hK => ?_
         have e1 : a.tmps[1]?.getD undef = .pointer (some ⟨w.heap.size, 0, none⟩) := hp 1 (by kernel_rfl)
         clear hp hq hJ
         go_simp
         exact hK _ _ (Below.refl _ _) rfl
       · refine opS_mk rfl rfl fun a W2 n hJ hp hq K hK => ?_
         have e84 : a.tmps[84]?.getD undef = .pointer (some ⟨w.heap.size, 10, none⟩) := hq 3 _ (by kernel_rfl) rfl
         have cc : W2.cell? ⟨w.heap.size, 10, none⟩ = some (.int .i64 r.page) := by (simp only [World.cell?, hJ.rc]; rfl)
         clear hp hq hJ
         go_simp
         exact hK _ _ (Below.refl _ _) rfl
       · refine opS_mk rfl rfl fun a W2 n hJ hp hq K hK => ?_
         have e85 : a.tmps[85]?.getD undef = .int .i64 r.page := hq 4 _ (by kernel_rfl) rfl
         clear hp hq hJ
         go_simp
         have hwr : IntKind.u64.wrap r.page = r.page := by rw [IntKind.wrap_u64]; have := HRpage.out; omega
         first | exact hK _ _ (Below.refl _ _) rfl | (have hh := hK (.int .u64 (IntKind.u64.wrap r.page)) _ (Below.refl _ _) (by show _ = _; rw [hwr]); simpa using hh) | (rw [hwr]; exact hK _ _ (Below.refl _ _) rfl)
       · refine opS_mk rfl rfl fun a W2 n hJ hp hq K hK => ?_
         have e86 : a.tmps[86]?.getD undef = .int .u64 r.page := hq 5 _ (by kernel_rfl) rfl
         clear hp hq hJ
         go_simp
         refine (t_num1 _ HRpage.out _).mono ?_
         rintro e w2 ⟨rfl, hb2⟩
         exact hK _ _ hb2 rfl
       · refine opS_mk rfl rfl fun a W2 n hJ hp hq K hK => ?_
         have e1 : a.tmps[1]?.getD undef = .pointer (some ⟨w.heap.size, 0, none⟩) := hp 1 (by kernel_rfl)
         clear hp hq hJ
         go_simp
         exact hK _ _ (Below.refl _ _) rfl
       · refine opS_mk rfl rfl fun a W2 n hJ hp hq K hK => ?_
         have e88 : a.tmps[88]?.getD undef = .pointer (some ⟨w.heap.size, 11, none⟩) := hq 7 _ (by kernel_rfl) rfl
         have cc : W2.cell? ⟨w.heap.size, 11, none⟩ = some (.string r.data) := by (simp only [World.cell?, hJ.rc]; rfl)
         clear hp hq hJ
         go_simp
         exact hK _ _ (Below.refl _ _) rfl
       · refine opS_mk rfl rfl fun a W2 n hJ hp hq K hK => ?_
         have e87 : a.tmps[87]?.getD undef = .string (nB r.page.toNat 1) := hq 6 _ (by kernel_rfl) rfl
         have e89 : a.tmps[89]?.getD undef = .string r.data := hq 8 _ (by kernel_rfl) rfl
         have hlt := hJ.sb.lt
         clear hp hq hJ
         go_simp
         exact hK _ _ ((Below.refl _ _).alloc (Nat.le_refl _) _) ⟨_, rfl, by omega, heap_alloc_new _ _⟩
       · refine opS_at (m := 0) rfl rfl fun a W2 hJ hp hq K hK => ?_
         have e81 : a.tmps[81]?.getD undef = .func (.func 95) #[] #[.pointer (some ⟨b0, 0, none⟩)] := hq 0 _ (by kernel_rfl) rfl
         have e83 : a.tmps[83]?.getD undef = .bool (kData r.act) := hq 2 _ (by kernel_rfl) rfl
         obtain ⟨g, e90, hg, ht⟩ : isTexts b0 2 [nB r.page.toNat 1, r.data] (a.tmps[90]?.getD undef) W2 := hq 9 _ (by kernel_rfl) rfl
         have HJ := zz hJ
         clear hp hq hJ
         go_simp
         refine (t_put1 _ [nB r.page.toNat 1, r.data] 2 g w.heap.size b0 L6 W2 rfl (by decide) ht hg HJ.out.sb HJ.out.below.size HLB7.out).mono ?_
         rintro e w2 ⟨rfl, g1, g2, g3⟩
         exact hK _ _ g3 (HJ.out.put (by rw [HL7.out] at g1; exact g1) g2 g3) rfl
     intro vs7 W7 hB7 hv7 _
     have HP7 : Hid (StP r w B3 b0 wd f L7 W7) := hB7
     clear hB7 hv7
     simp only [putAll, Act.put, List.setIfInBounds_toArray, List.set_cons_succ, List.set_cons_zero, Nat.zero_add, Nat.reduceAdd]
     go_wp2_with (go_at_call 99; (with_reducible refine (b_string _ _ _ _ HP7.out.sb HP7.out.below.size).mono ?_); rintro e w8 ⟨rfl, hb8⟩; have HB8 := zz hb8; clear hb8)
     go_ret2
     refine ⟨?_, HP7.out.below.trans HB8.out⟩
     rw [← put_bytes r L1 L2 L3 L4 L5 L6 L7 HL1.out HL2.out HL3.out HL4.out HL5.out HL6.out HL7.out]
     simp
end
end Go.Proofs.YtogljgiefmfafaaGreat
