/- RecPlays is proved: for every room and every row of records, the statement's Go function returns true, and its arguments read as they did. No condition. -/
import Derived.Test.YtogljgiefmfafaaGreatPb26
import Derived.Test.YtogljgiefmfafaaGreatPb28
import Derived.Test.YtogljgiefmfafaaGreatPb34
import Derived.Test.YtogljgiefmfafaaGreatPb35
namespace Go.Proofs.YtogljgiefmfafaaGreat
section
open Go.RowKit Go.Maps
section
variable {k : Nat} {t : PT} {r : D.Tr} {w W : World} {P N P2 G2 : Nat}
theorem Sim.all (h : Sim t r) (hw : WellP t) : (D.allD r r.length).Pairwise (· < ·) ∧ (∀ i, i ∈ D.allD r r.length ↔ (t.n i).isSome = true) := by
 unfold D.allD
 constructor
 · rw [List.pairwise_map]
   refine (List.pairwise_lt_range.filter _).imp fun {a b} hab => ?_
   have : (a : Int) < (b : Int) := by exact_mod_cast hab
   omega
 · intro i
   rw [← h.there hw, List.mem_map]
   constructor
   · rintro ⟨k, hk, rfl⟩
     obtain ⟨h1, h2⟩ := List.mem_filter.1 hk
     have h1' := List.mem_range.1 h1
     unfold D.thereB
     rw [decide_eq_true_iff]
     refine ⟨by omega, by omega, ?_⟩
     rw [ndAt_of_lt h1']
     simpa using h2
   · intro hi
     obtain ⟨h1, h2, h3⟩ := D.thereB_bounds hi
     refine ⟨i.toNat - 1, List.mem_filter.2 ⟨List.mem_range.2 (by omega), ?_⟩, by omega⟩
     unfold D.ndAt at h3
     simpa using h3
theorem t_allX (W : World) (h : Mem w W P N P2 G2 t r) (hp : Pl k t r) (hN : N ≤ 60000) {n : Nat} (hn : (D.allD r r.length).length = n) :
  Calls Tryz.prog 36 #[.pointer (some ⟨P, 0, none⟩)] W fun e w' => ∃ B c, e = .returned (.slice (some ⟨B, 0, none⟩) n c) ∧ RowAt w' B (D.allD r r.length) ∧ Below W.heap.size W w' := by
 obtain ⟨y, F, hT⟩ := h.tree
 obtain ⟨x, hx, _⟩ := hp.well.root
 refine (t_allP W hT hN ⟨1, by rw [hx]; rfl⟩).mono ?_
 rintro e w' ⟨B, c, l, rfl, h1, h2, h3, _, hb⟩
 obtain ⟨g1, g2⟩ := hp.sim.all hp.well
 obtain rfl := ints_unique h1 g1 (fun x => (h2 x).trans (g2 x).symm)
 exact ⟨B, c, by rw [hn], h3, hb⟩
theorem t_allZ (W : World) (h : Mem w W P N P2 G2 t r) (hp : Pl k t r) {n : Nat} (hn : (D.allD r r.length).length = n) :
  Calls Tryz.prog 69 #[.pointer (some ⟨P2, 0, none⟩)] W fun e w' => ∃ B c, e = .returned (.slice (some ⟨B, 0, none⟩) n c) ∧ RowAt w' B (D.allD r r.length) ∧ Below W.heap.size W w' := by
 refine (D.t_All P2 G2 r W h.doc).mono ?_
 rintro e w' ⟨v, rfl, ho, hb⟩
 rw [hn] at ho
 have hpos : 0 < n := by
  obtain ⟨x, hx, _⟩ := hp.well.root
  have h1 := ((hp.sim.all hp.well).2 1).2 (by rw [hx]; rfl)
  rw [← hn]
  exact List.length_pos_of_mem h1
 rcases ho.2 with ⟨_, h0⟩ | ⟨g, cap, cur, rfl, _, hg, _⟩
 · omega
 · refine ⟨g, _, rfl, ⟨fun j x hj => ?_, (Array.getElem?_eq_some_iff.1 hg).1⟩, hb⟩
   have hjn := (List.getElem?_eq_some_iff.1 hj).1
   rw [ho.cellAt j (by omega), List.getElem?_map, hj]
   rfl
set_option maxRecDepth 100000 in
set_option maxHeartbeats 16000000 in
theorem t_sameT (W : World) (h : Mem w W P N P2 G2 t r) (hp : Pl k t r) (hk : k ≤ 1000) (hN : N ≤ 60000) :
  Calls Tryz.prog 28 #[.pointer (some ⟨P, 0, none⟩), .pointer (some ⟨P2, 0, none⟩)] W fun e w' => e = .returned (.bool true) ∧ Below W.heap.size W w' := by
 obtain ⟨n, hn⟩ : ∃ n, (D.allD r r.length).length = n := ⟨_, rfl⟩
 have hn2 : n ≤ 256 := by
  obtain ⟨g1, g2⟩ := hp.sim.all hp.well
  rw [← hn]
  exact all_len hp.well g1 g2
 have C1 : Hid (∀ W2, Mem w W2 P N P2 G2 t r → Calls Tryz.prog 36 #[.pointer (some ⟨P, 0, none⟩)] W2 fun e w' => ∃ B c, e = .returned (.slice (some ⟨B, 0, none⟩) n c) ∧ RowAt w' B (D.allD r r.length) ∧ Below W2.heap.size W2 w') := fun W2 hM => t_allX W2 hM hp hN hn
 have C2 : Hid (∀ W2, Mem w W2 P N P2 G2 t r → Calls Tryz.prog 69 #[.pointer (some ⟨P2, 0, none⟩)] W2 fun e w' => ∃ B c, e = .returned (.slice (some ⟨B, 0, none⟩) n c) ∧ RowAt w' B (D.allD r r.length) ∧ Below W2.heap.size W2 w') := fun W2 hM => t_allZ W2 hM hp hn
 have C3 : Hid (∀ (i : Int) (name : ByteArray) (W2 : World), U32 i → name.size ≤ maxLen → Mem w W2 P N P2 G2 t r → Calls Tryz.prog 70 #[.pointer (some ⟨P, 0, none⟩), .pointer (some ⟨P2, 0, none⟩), .int .u32 i, .int .i64 0, .string name] W2 fun e w' => e = .returned (.bool true) ∧ Below W2.heap.size W2 w') := fun i name W2 hi hs hM => t_one i 0 name W2 hM hp hk hN hi hs
 have C5 : Hid (∀ (i page : Int) (W2 : World), U32 i → Mem w W2 P N P2 G2 t r → Calls Tryz.prog 20 #[.pointer (some ⟨P, 0, none⟩), .int .u32 i, .int .i64 page] W2 fun e w' => e = .returned (.tuple #[.string (readR t i page).1, .int .i64 (readR t i page).2]) ∧ Below W2.heap.size W2 w') := fun i page W2 hi hM => by
  obtain ⟨y, F, hT⟩ := hM.tree
  exact t_readP i page W2 hT hi (fun x hx => hp.well.pages i x hx)
 have C6 : Hid (∀ (i page : Int) (W2 : World), U32 i → Mem w W2 P N P2 G2 t r → Calls Tryz.prog 71 #[.pointer (some ⟨P2, 0, none⟩), .int .u32 i, .int .i64 page] W2 fun e w' => e = .returned (.tuple #[.string (readR t i page).1, .int .i64 (readR t i page).2]) ∧ Below W2.heap.size W2 w') := fun i page W2 hi hM =>
  D.t_Read P2 G2 r i page W2 hM.doc hi.1 (hp.wr.at_data i) _ _ (hp.sim.read hp.well i page)
 have HIN : Hid (∀ j i, (D.allD r r.length)[j]? = some i → 1 ≤ i ∧ i ≤ (r.length : Int) ∧ U32 i ∧ (D.ndAt r i).data.size ≤ 2304) := fun j i hj => by
  have hl := hp.sim.len
  obtain ⟨x, hx⟩ := Option.isSome_iff_exists.1 (((hp.sim.all hp.well).2 i).1 (List.mem_of_getElem? hj))
  have hr := hp.well.range i x hx
  have hm := hp.well.room
  have hs := (hp.sim.node i x hx).size
  have hg := (hp.well.pages i x hx).size
  exact ⟨hr.1, by omega, ⟨by omega, by omega⟩, by omega⟩
 have HLN := zz hn
 have HM := zz h
 have hsm := h.doc.small
 clear hn h hp hk hN
 go_enter Tryz.func28, Tryz.ntmps28
 go_wp2_with (first
  | (go_at_call 36; (with_reducible refine (C1.out _ HM.out).mono ?_); rintro e w1 ⟨B1, c1, rfl, hr1, hb⟩; have HR1 := zz hr1; have HB := zz hb; replace HM := zz (HM.out.below hb); clear hr1 hb)
  | (go_at_call 69; (with_reducible refine (C2.out _ HM.out).mono ?_); rintro e w2 ⟨B2, c2, rfl, hr2, hb⟩; have HR2 := zz hr2; replace HR1 := zz (HR1.out.below hb); replace HB := zz (HB.out.trans (hb.mono HB.out.size)); replace HM := zz (HM.out.below hb); clear hr2 hb))
 have hd : ∀ (Wx : World) (j : Nat) (i : Int), Below w2.heap.size w2 Wx → (D.allD r r.length)[j]? = some i → Wx.cell? ⟨B1, j, none⟩ = some (.int .u32 i) ∧ Wx.cell? ⟨B2, j, none⟩ = some (.int .u32 i) := fun Wx j i hb hj =>
  ⟨(hb.cell (p := ⟨B1, _, none⟩) HR1.out.lt).trans (HR1.out.cell j i hj), (hb.cell (p := ⟨B2, _, none⟩) HR2.out.lt).trans (HR2.out.cell j i hj)⟩
 have HD := zz hd
 clear hd HR1 HR2
 go_loopw [7] (fun v wr => ∃ j : Nat, v = .int .i64 (j : Int) ∧ j ≤ n ∧ Hid (Below w2.heap.size w2 wr)) (fun v _ => n - (intOf v).toNat)
 case atStart => exact ⟨0, rfl, Nat.zero_le _, Below.refl _ _⟩
 case round =>
  obtain ⟨j, rfl, hj, HJ⟩ := hrel
  by_cases he : j = n
  · subst he
    go_wp2
    go_ret
    exact ⟨rfl, HB.out.trans (HJ.out.mono HB.out.size)⟩
  · have hj2 : j < n := by omega
    obtain ⟨i, hi⟩ : ∃ i, (D.allD r r.length)[j]? = some i := ⟨(D.allD r r.length)[j]'(by rw [HLN.out]; exact hj2), List.getElem?_eq_getElem _⟩
    have HI := zz hi
    obtain ⟨i1, i2, iu, i3⟩ := HIN.out j i hi
    have HU := zz iu
    obtain ⟨d1, d2⟩ := HD.out wr j i HJ.out hi
    have HMr := zz (HM.out.below HJ.out)
    obtain ⟨b, hbd⟩ : ∃ b, b = (D.ndAt r i).data := ⟨_, rfl⟩
    rw [← hbd] at i3
    have HBD := zz hbd
    clear he hi iu hbd
    go_wp2
    refine wp_region_rel RelB (phi [isV (.slice (some ⟨B1, 0, none⟩) n c1), isV (.int .i64 (j : Int)), isV (.pointer (some ⟨B1, j, none⟩)), isV (.int .u32 i), isV (.slice (some ⟨B2, 0, none⟩) n c2), isV (.int .i64 (j : Int)), isV (.pointer (some ⟨B2, j, none⟩)), isV (.int .u32 i), isV (.bool false), isV (.bool false), isV (.pointer (some ⟨P, 0, none⟩)), isV (.pointer (some ⟨P2, 0, none⟩)), isV (.slice (some ⟨B2, 0, none⟩) n c2), isV (.int .i64 (j : Int)), isV (.pointer (some ⟨B2, j, none⟩)), isV (.int .u32 i), isV (.bool true), isV (.bool false), isV (.bool false)]) (by kernel_rfl) (by kernel_rfl) (by kernel_rfl) (RelB.of (below_drew _)) (fun _ _ _ a b => a.trans b) ?_ ?_ ?_
    · refine stays_phiR ?_
      simp only [List.forall_mem_cons]
      exact ⟨kv, kv, kv, kv, kv, kv, kv, kv, kv, kv, kv, kv, kv, kv, kv, kv, kv, kv, kv, fun _ h => absurd h (by simp)⟩
    · refine ⟨?_, ?_, ?_, ?_, ?_, ?_, ?_, ?_, ?_, ?_, ?_, ?_, ?_, ?_, ?_, ?_, ?_, ?_, ?_, trivial⟩
      · refine opR_mk rfl fun aa W2 hB hp hq K hK => ?_
        have e5 : aa.tmps[5]?.getD undef = .slice (some ⟨B1, 0, none⟩) n c1 := hp 5 (by kernel_rfl)
        clear hp hq
        go_simp
        exact hK _ _ (RelB.refl _) rfl
      · refine opR_mk rfl fun aa W2 hB hp hq K hK => ?_
        have e7 : aa.tmps[7]?.getD undef = .int .i64 (j : Int) := hp 7 (by kernel_rfl)
        clear hp hq
        go_simp
        exact hK _ _ (RelB.refl _) rfl
      · refine opR_mk rfl fun aa W2 hB hp hq K hK => ?_
        have e30 : aa.tmps[30]?.getD undef = .slice (some ⟨B1, 0, none⟩) n c1 := hq 0 _ (by kernel_rfl) rfl
        have e31 : aa.tmps[31]?.getD undef = .int .i64 (j : Int) := hq 1 _ (by kernel_rfl) rfl
        clear hp hq
        go_simp
        exact hK _ _ (RelB.refl _) rfl
      · refine opR_mk rfl fun aa W2 hB hp hq K hK => ?_
        have e32 : aa.tmps[32]?.getD undef = .pointer (some ⟨B1, j, none⟩) := hq 2 _ (by kernel_rfl) rfl
        obtain ⟨d1, d2⟩ := HD.out W2 j i (HJ.out.trans (Below.mono hB HJ.out.size)) HI.out
        clear hp hq
        go_simp
        exact hK _ _ (RelB.refl _) rfl
      · refine opR_mk rfl fun aa W2 hB hp hq K hK => ?_
        have e6 : aa.tmps[6]?.getD undef = .slice (some ⟨B2, 0, none⟩) n c2 := hp 6 (by kernel_rfl)
        clear hp hq
        go_simp
        exact hK _ _ (RelB.refl _) rfl
      · refine opR_mk rfl fun aa W2 hB hp hq K hK => ?_
        have e7 : aa.tmps[7]?.getD undef = .int .i64 (j : Int) := hp 7 (by kernel_rfl)
        clear hp hq
        go_simp
        exact hK _ _ (RelB.refl _) rfl
      · refine opR_mk rfl fun aa W2 hB hp hq K hK => ?_
        have e34 : aa.tmps[34]?.getD undef = .slice (some ⟨B2, 0, none⟩) n c2 := hq 4 _ (by kernel_rfl) rfl
        have e35 : aa.tmps[35]?.getD undef = .int .i64 (j : Int) := hq 5 _ (by kernel_rfl) rfl
        clear hp hq
        go_simp
        exact hK _ _ (RelB.refl _) rfl
      · refine opR_mk rfl fun aa W2 hB hp hq K hK => ?_
        have e36 : aa.tmps[36]?.getD undef = .pointer (some ⟨B2, j, none⟩) := hq 6 _ (by kernel_rfl) rfl
        obtain ⟨d1, d2⟩ := HD.out W2 j i (HJ.out.trans (Below.mono hB HJ.out.size)) HI.out
        clear hp hq
        go_simp
        exact hK _ _ (RelB.refl _) rfl
      · refine opR_mk rfl fun aa W2 hB hp hq K hK => ?_
        have e33 : aa.tmps[33]?.getD undef = .int .u32 i := hq 3 _ (by kernel_rfl) rfl
        have e37 : aa.tmps[37]?.getD undef = .int .u32 i := hq 7 _ (by kernel_rfl) rfl
        clear hp hq
        go_simp
        exact hK _ _ (RelB.refl _) (by first | rfl | simp)
      · refine opR_mk rfl fun aa W2 hB hp hq K hK => ?_
        have e38 : aa.tmps[38]?.getD undef = .bool false := hq 8 _ (by kernel_rfl) rfl
        clear hp hq
        go_simp
        exact hK _ _ (RelB.refl _) rfl
      · refine opR_guard (j := 9) (d := 39) (c := false) rfl rfl (by kernel_rfl) rfl rfl (fun v W h => h) (fun _ => RelB.refl _) (fun hne => absurd rfl hne) fun hc aa W2 hB hp hq K hK => ?_
        have e0 : aa.tmps[0]?.getD undef = .pointer (some ⟨P, 0, none⟩) := hp 0 (by kernel_rfl)
        clear hp hq
        go_simp
        exact hK _ _ (RelB.refl _) rfl
      · refine opR_guard (j := 9) (d := 39) (c := false) rfl rfl (by kernel_rfl) rfl rfl (fun v W h => h) (fun _ => RelB.refl _) (fun hne => absurd rfl hne) fun hc aa W2 hB hp hq K hK => ?_
        have e1 : aa.tmps[1]?.getD undef = .pointer (some ⟨P2, 0, none⟩) := hp 1 (by kernel_rfl)
        clear hp hq
        go_simp
        exact hK _ _ (RelB.refl _) rfl
      · refine opR_guard (j := 9) (d := 39) (c := false) rfl rfl (by kernel_rfl) rfl rfl (fun v W h => h) (fun _ => RelB.refl _) (fun hne => absurd rfl hne) fun hc aa W2 hB hp hq K hK => ?_
        have e6 : aa.tmps[6]?.getD undef = .slice (some ⟨B2, 0, none⟩) n c2 := hp 6 (by kernel_rfl)
        clear hp hq
        go_simp
        exact hK _ _ (RelB.refl _) rfl
      · refine opR_guard (j := 9) (d := 39) (c := false) rfl rfl (by kernel_rfl) rfl rfl (fun v W h => h) (fun _ => RelB.refl _) (fun hne => absurd rfl hne) fun hc aa W2 hB hp hq K hK => ?_
        have e7 : aa.tmps[7]?.getD undef = .int .i64 (j : Int) := hp 7 (by kernel_rfl)
        clear hp hq
        go_simp
        exact hK _ _ (RelB.refl _) rfl
      · refine opR_guard (j := 9) (d := 39) (c := false) rfl rfl (by kernel_rfl) rfl rfl (fun v W h => h) (fun _ => RelB.refl _) (fun hne => absurd rfl hne) fun hc aa W2 hB hp hq K hK => ?_
        have e42 : aa.tmps[42]?.getD undef = .slice (some ⟨B2, 0, none⟩) n c2 := hq 12 _ (by kernel_rfl) rfl
        have e43 : aa.tmps[43]?.getD undef = .int .i64 (j : Int) := hq 13 _ (by kernel_rfl) rfl
        clear hp hq
        go_simp
        exact hK _ _ (RelB.refl _) rfl
      · refine opR_guard (j := 9) (d := 39) (c := false) rfl rfl (by kernel_rfl) rfl rfl (fun v W h => h) (fun _ => RelB.refl _) (fun hne => absurd rfl hne) fun hc aa W2 hB hp hq K hK => ?_
        have e44 : aa.tmps[44]?.getD undef = .pointer (some ⟨B2, j, none⟩) := hq 14 _ (by kernel_rfl) rfl
        obtain ⟨d1, d2⟩ := HD.out W2 j i (HJ.out.trans (Below.mono hB HJ.out.size)) HI.out
        clear hp hq
        go_simp
        exact hK _ _ (RelB.refl _) rfl
      · refine opR_guard (j := 9) (d := 39) (c := false) rfl rfl (by kernel_rfl) rfl rfl (fun v W h => h) (fun _ => RelB.refl _) (fun hne => absurd rfl hne) fun hc aa W2 hB hp hq K hK => ?_
        have e40 : aa.tmps[40]?.getD undef = .pointer (some ⟨P, 0, none⟩) := hq 10 _ (by kernel_rfl) rfl
        have e41 : aa.tmps[41]?.getD undef = .pointer (some ⟨P2, 0, none⟩) := hq 11 _ (by kernel_rfl) rfl
        have e45 : aa.tmps[45]?.getD undef = .int .u32 i := hq 15 _ (by kernel_rfl) rfl
        clear hp hq
        go_simp
        refine (C3.out i _ W2 HU.out (by decide) (HMr.out.below hB)).mono ?_
        rintro e w3 ⟨rfl, hb⟩
        exact hK _ _ (RelB.of hb) rfl
      · refine opR_guard (j := 9) (d := 39) (c := false) rfl rfl (by kernel_rfl) rfl rfl (fun v W h => h) (fun _ => RelB.refl _) (fun hne => absurd rfl hne) fun hc aa W2 hB hp hq K hK => ?_
        have e46 : aa.tmps[46]?.getD undef = .bool true := hq 16 _ (by kernel_rfl) rfl
        clear hp hq
        go_simp
        exact hK _ _ (RelB.refl _) rfl
      · refine opR_mk rfl fun aa W2 hB hp hq K hK => ?_
        have e39 : aa.tmps[39]?.getD undef = .bool false := hq 9 _ (by kernel_rfl) rfl
        have e47 : aa.tmps[47]?.getD undef = .bool false := hq 17 _ (by kernel_rfl) rfl
        clear hp hq
        go_simp
        exact hK _ _ (RelB.refl _) rfl
    · intro vs W3 hB3 hv3 _
      have v18 : vs 18 = .bool false := hv3 18 _ rfl rfl
      have HB4 : Hid (Below w2.heap.size w2 W3) := HJ.out.trans (Below.mono hB3 HJ.out.size)
      clear hB3 hv3
      simp only [putAll, Act.put, List.setIfInBounds_toArray, List.set_cons_succ, List.set_cons_zero, Nat.zero_add, Nat.reduceAdd, v18]
      go_wp2
      go_loopw [8] (fun v wr => ∃ p : Nat, v = .int .i64 (p : Int) ∧ 1 ≤ p ∧ p ≤ 37 ∧ Hid (Below w2.heap.size w2 wr)) (fun v _ => 37 - (intOf v).toNat)
      case atStart => exact ⟨1, rfl, Nat.le_refl _, by decide, HB4.out⟩
      case round =>
       obtain ⟨p, rfl, hp1, hp2, HJ2⟩ := hrel
       clear HMr
       have HMr := zz (HM.out.below HJ2.out)
       obtain ⟨d1, d2⟩ := HD.out _ j i HJ2.out HI.out
       obtain ⟨cc, k1, k2, kc⟩ := HMr.out.doc.cell0
       obtain ⟨_, _, g2, _⟩ := HMr.out.doc.get (HMr.out.doc.idx i1 i2)
       replace g2 := (show _ = some (Value.string (D.ndAt r i).data) from g2)
       rw [← HBD.out] at g2
       unfold maxLen at k2
       have hkk : ∀ W2, RelB wr W2 → W2.cell? ⟨P2, 0, none⟩ = some (.slice (some ⟨G2, 0, none⟩) r.length cc) ∧ W2.cell? ⟨G2, (i.toNat - 1) * 4 + 2, none⟩ = some (.string b) := fun W2 hB => ⟨(Below.cell (p := ⟨P2, 0, none⟩) hB HMr.out.doc.ltP).trans kc, (Below.cell (p := ⟨G2, _, none⟩) hB HMr.out.doc.ltG).trans g2⟩
       have HKK := zz hkk
       clear hkk kc g2 d1 d2
       have hwp : IntKind.i64.wrap ((p : Int) * 64) = (p : Int) * 64 := (IntWalk.i64_left _).trans (IntWalk.wrap64_in _ (by omega))
       have hwi : IntKind.u32.wrap (i - 1) = i - 1 := IntWalk.u32_in _ (by have := HU.out.2; omega)
       by_cases hq : p * 64 < b.size
       · have hq' : (p : Int) * 64 < (b.size : Int) := by omega
         have hp36 : p < 37 := by omega
         go_wp2
         refine wp_region_rel RelB (phi [isV (.int .i64 (p : Int)), isV (.int .i64 ((p : Int) * 64)), isV (.pointer (some ⟨P2, 0, none⟩)), isV (.pointer (some ⟨P2, 0, none⟩)), isV (.pointer (some ⟨P2, 0, none⟩)), isV (.slice (some ⟨G2, 0, none⟩) r.length cc), isV (.slice (some ⟨B2, 0, none⟩) n c2), isV (.int .i64 (j : Int)), isV (.pointer (some ⟨B2, j, none⟩)), isV (.int .u32 i), isV (.int .u32 (i - 1)), isV (.pointer (some ⟨G2, (i.toNat - 1) * 4, none⟩)), isV (.pointer (some ⟨G2, (i.toNat - 1) * 4 + 2, none⟩)), isV (.string b), isV (.int .i64 (b.size : Int)), isV (.bool true)]) (by kernel_rfl) (by kernel_rfl) (by kernel_rfl) (RelB.of (below_drew _)) (fun _ _ _ a b => a.trans b) ?_ ?_ ?_
         · refine stays_phiR ?_
           simp only [List.forall_mem_cons]
           exact ⟨kv, kv, kv, kv, kv, kv, kv, kv, kv, kv, kv, kv, kv, kv, kv, kv, fun _ h => absurd h (by simp)⟩
         · refine ⟨?_, ?_, ?_, ?_, ?_, ?_, ?_, ?_, ?_, ?_, ?_, ?_, ?_, ?_, ?_, ?_, trivial⟩
           · refine opR_mk rfl fun aa W2 hB hp hq K hK => ?_
             have e8 : aa.tmps[8]?.getD undef = .int .i64 (p : Int) := hp 8 (by kernel_rfl)
             clear hp hq
             go_simp
             exact hK _ _ (RelB.refl _) rfl
           · refine opR_mk rfl fun aa W2 hB hp hq K hK => ?_
             have e49 : aa.tmps[49]?.getD undef = .int .i64 (p : Int) := hq 0 _ (by kernel_rfl) rfl
             clear hp hq
             go_simp
             exact hK _ _ (RelB.refl _) (by first | rfl | exact congrArg (Value.int .i64) hwp)
           · refine opR_mk rfl fun aa W2 hB hp hq K hK => ?_
             have e1 : aa.tmps[1]?.getD undef = .pointer (some ⟨P2, 0, none⟩) := hp 1 (by kernel_rfl)
             clear hp hq
             go_simp
             exact hK _ _ (RelB.refl _) rfl
           · refine opR_mk rfl fun aa W2 hB hp hq K hK => ?_
             have e51 : aa.tmps[51]?.getD undef = .pointer (some ⟨P2, 0, none⟩) := hq 2 _ (by kernel_rfl) rfl
             clear hp hq
             go_simp
             exact hK _ _ (RelB.refl _) rfl
           · refine opR_mk rfl fun aa W2 hB hp hq K hK => ?_
             have e52 : aa.tmps[52]?.getD undef = .pointer (some ⟨P2, 0, none⟩) := hq 3 _ (by kernel_rfl) rfl
             clear hp hq
             go_simp
             exact hK _ _ (RelB.refl _) rfl
           · refine opR_mk rfl fun aa W2 hB hp hq K hK => ?_
             have e53 : aa.tmps[53]?.getD undef = .pointer (some ⟨P2, 0, none⟩) := hq 4 _ (by kernel_rfl) rfl
             obtain ⟨kc, g2⟩ := HKK.out W2 hB
             clear hp hq
             go_simp
             exact hK _ _ (RelB.refl _) rfl
           · refine opR_mk rfl fun aa W2 hB hp hq K hK => ?_
             have e6 : aa.tmps[6]?.getD undef = .slice (some ⟨B2, 0, none⟩) n c2 := hp 6 (by kernel_rfl)
             clear hp hq
             go_simp
             exact hK _ _ (RelB.refl _) rfl
           · refine opR_mk rfl fun aa W2 hB hp hq K hK => ?_
             have e7 : aa.tmps[7]?.getD undef = .int .i64 (j : Int) := hp 7 (by kernel_rfl)
             clear hp hq
             go_simp
             exact hK _ _ (RelB.refl _) rfl
           · refine opR_mk rfl fun aa W2 hB hp hq K hK => ?_
             have e55 : aa.tmps[55]?.getD undef = .slice (some ⟨B2, 0, none⟩) n c2 := hq 6 _ (by kernel_rfl) rfl
             have e56 : aa.tmps[56]?.getD undef = .int .i64 (j : Int) := hq 7 _ (by kernel_rfl) rfl
             clear hp hq
             go_simp
             exact hK _ _ (RelB.refl _) rfl
           · refine opR_mk rfl fun aa W2 hB hp hq K hK => ?_
             have e57 : aa.tmps[57]?.getD undef = .pointer (some ⟨B2, j, none⟩) := hq 8 _ (by kernel_rfl) rfl
             obtain ⟨_, d2⟩ := HD.out W2 j i (HJ2.out.trans (Below.mono hB HJ2.out.size)) HI.out
             clear hp hq
             go_simp
             exact hK _ _ (RelB.refl _) rfl
           · refine opR_mk rfl fun aa W2 hB hp hq K hK => ?_
             have e58 : aa.tmps[58]?.getD undef = .int .u32 i := hq 9 _ (by kernel_rfl) rfl
             clear hp hq
             go_simp
             exact hK _ _ (RelB.refl _) (by first | rfl | exact congrArg (Value.int .u32) hwi)
           · refine opR_mk rfl fun aa W2 hB hp hq K hK => ?_
             have e54 : aa.tmps[54]?.getD undef = .slice (some ⟨G2, 0, none⟩) r.length cc := hq 5 _ (by kernel_rfl) rfl
             have e59 : aa.tmps[59]?.getD undef = .int .u32 (i - 1) := hq 10 _ (by kernel_rfl) rfl
             have hlt : i - 1 < (r.length : Int) := by omega
             have hnn : 0 ≤ i - 1 := by omega
             have htn : (i - 1).toNat = i.toNat - 1 := by omega
             clear hp hq
             go_simp
             exact hK _ _ (RelB.refl _) rfl
           · refine opR_mk rfl fun aa W2 hB hp hq K hK => ?_
             have e60 : aa.tmps[60]?.getD undef = .pointer (some ⟨G2, (i.toNat - 1) * 4, none⟩) := hq 11 _ (by kernel_rfl) rfl
             clear hp hq
             go_simp
             exact hK _ _ (RelB.refl _) rfl
           · refine opR_mk rfl fun aa W2 hB hp hq K hK => ?_
             have e61 : aa.tmps[61]?.getD undef = .pointer (some ⟨G2, (i.toNat - 1) * 4 + 2, none⟩) := hq 12 _ (by kernel_rfl) rfl
             obtain ⟨kc, g2⟩ := HKK.out W2 hB
             clear hp hq
             go_simp
             exact hK _ _ (RelB.refl _) rfl
           · refine opR_mk rfl fun aa W2 hB hp hq K hK => ?_
             have e62 : aa.tmps[62]?.getD undef = .string b := hq 13 _ (by kernel_rfl) rfl
             clear hp hq
             go_simp
             exact hK _ _ (RelB.refl _) rfl
           · refine opR_mk rfl fun aa W2 hB hp hq K hK => ?_
             have e50 : aa.tmps[50]?.getD undef = .int .i64 ((p : Int) * 64) := hq 1 _ (by kernel_rfl) rfl
             have e63 : aa.tmps[63]?.getD undef = .int .i64 (b.size : Int) := hq 14 _ (by kernel_rfl) rfl
             clear hp hq
             go_simp
             exact hK _ _ (RelB.refl _) (by first | rfl | exact congrArg Value.bool (decide_eq_true (by omega)) | simp)
         · intro vs W3 hB3 hv3 _
           have v15 : vs 15 = .bool true := hv3 15 _ rfl rfl
           have HB5 : Hid (Below w2.heap.size w2 W3) := HJ2.out.trans (Below.mono hB3 HJ2.out.size)
           have HM5 := zz (HM.out.below HB5.out)
           clear hB3 hv3
           simp only [putAll, Act.put, List.setIfInBounds_toArray, List.set_cons_succ, List.set_cons_zero, Nat.zero_add, Nat.reduceAdd, v15]
           obtain ⟨d1, d2⟩ := HD.out _ j i HB5.out HI.out
           go_wp2_with (first
            | (go_at_call 20; (with_reducible refine (C5.out i (p : Int) _ HU.out HM5.out).mono ?_); rintro e w5 ⟨rfl, hb⟩; replace HB5 := zz (HB5.out.trans (hb.mono HB5.out.size)); replace HM5 := zz (HM.out.below HB5.out); clear hb d1 d2; obtain ⟨d1, d2⟩ := HD.out _ j i HB5.out HI.out)
            | (go_at_call 71; (with_reducible refine (C6.out i (p : Int) _ HU.out HM5.out).mono ?_); rintro e w6 ⟨rfl, hb⟩; have HB6 := zz (HB5.out.trans (hb.mono HB5.out.size)); clear hb d1 d2))
           go_roundw
           case rel => exact ⟨p + 1, rfl, by omega, by omega, HB6.out⟩
           case measure => simp only [intOf]; omega
       · have hq' : ¬ ((p : Int) * 64 < (b.size : Int)) := by omega
         go_wp2
         refine wp_region_rel RelB (phi [isV (.int .i64 (p : Int)), isV (.int .i64 ((p : Int) * 64)), isV (.pointer (some ⟨P2, 0, none⟩)), isV (.pointer (some ⟨P2, 0, none⟩)), isV (.pointer (some ⟨P2, 0, none⟩)), isV (.slice (some ⟨G2, 0, none⟩) r.length cc), isV (.slice (some ⟨B2, 0, none⟩) n c2), isV (.int .i64 (j : Int)), isV (.pointer (some ⟨B2, j, none⟩)), isV (.int .u32 i), isV (.int .u32 (i - 1)), isV (.pointer (some ⟨G2, (i.toNat - 1) * 4, none⟩)), isV (.pointer (some ⟨G2, (i.toNat - 1) * 4 + 2, none⟩)), isV (.string b), isV (.int .i64 (b.size : Int)), isV (.bool false)]) (by kernel_rfl) (by kernel_rfl) (by kernel_rfl) (RelB.of (below_drew _)) (fun _ _ _ a b => a.trans b) ?_ ?_ ?_
         · refine stays_phiR ?_
           simp only [List.forall_mem_cons]
           exact ⟨kv, kv, kv, kv, kv, kv, kv, kv, kv, kv, kv, kv, kv, kv, kv, kv, fun _ h => absurd h (by simp)⟩
         · refine ⟨?_, ?_, ?_, ?_, ?_, ?_, ?_, ?_, ?_, ?_, ?_, ?_, ?_, ?_, ?_, ?_, trivial⟩
           · refine opR_mk rfl fun aa W2 hB hp hq K hK => ?_
             have e8 : aa.tmps[8]?.getD undef = .int .i64 (p : Int) := hp 8 (by kernel_rfl)
             clear hp hq
             go_simp
             exact hK _ _ (RelB.refl _) rfl
           · refine opR_mk rfl fun aa W2 hB hp hq K hK => ?_
             have e49 : aa.tmps[49]?.getD undef = .int .i64 (p : Int) := hq 0 _ (by kernel_rfl) rfl
             clear hp hq
             go_simp
             exact hK _ _ (RelB.refl _) (by first | rfl | exact congrArg (Value.int .i64) hwp)
           · refine opR_mk rfl fun aa W2 hB hp hq K hK => ?_
             have e1 : aa.tmps[1]?.getD undef = .pointer (some ⟨P2, 0, none⟩) := hp 1 (by kernel_rfl)
             clear hp hq
             go_simp
             exact hK _ _ (RelB.refl _) rfl
           · refine opR_mk rfl fun aa W2 hB hp hq K hK => ?_
             have e51 : aa.tmps[51]?.getD undef = .pointer (some ⟨P2, 0, none⟩) := hq 2 _ (by kernel_rfl) rfl
             clear hp hq
             go_simp
             exact hK _ _ (RelB.refl _) rfl
           · refine opR_mk rfl fun aa W2 hB hp hq K hK => ?_
             have e52 : aa.tmps[52]?.getD undef = .pointer (some ⟨P2, 0, none⟩) := hq 3 _ (by kernel_rfl) rfl
             clear hp hq
             go_simp
             exact hK _ _ (RelB.refl _) rfl
           · refine opR_mk rfl fun aa W2 hB hp hq K hK => ?_
             have e53 : aa.tmps[53]?.getD undef = .pointer (some ⟨P2, 0, none⟩) := hq 4 _ (by kernel_rfl) rfl
             obtain ⟨kc, g2⟩ := HKK.out W2 hB
             clear hp hq
             go_simp
             exact hK _ _ (RelB.refl _) rfl
           · refine opR_mk rfl fun aa W2 hB hp hq K hK => ?_
             have e6 : aa.tmps[6]?.getD undef = .slice (some ⟨B2, 0, none⟩) n c2 := hp 6 (by kernel_rfl)
             clear hp hq
             go_simp
             exact hK _ _ (RelB.refl _) rfl
           · refine opR_mk rfl fun aa W2 hB hp hq K hK => ?_
             have e7 : aa.tmps[7]?.getD undef = .int .i64 (j : Int) := hp 7 (by kernel_rfl)
             clear hp hq
             go_simp
             exact hK _ _ (RelB.refl _) rfl
           · refine opR_mk rfl fun aa W2 hB hp hq K hK => ?_
             have e55 : aa.tmps[55]?.getD undef = .slice (some ⟨B2, 0, none⟩) n c2 := hq 6 _ (by kernel_rfl) rfl
             have e56 : aa.tmps[56]?.getD undef = .int .i64 (j : Int) := hq 7 _ (by kernel_rfl) rfl
             clear hp hq
             go_simp
             exact hK _ _ (RelB.refl _) rfl
           · refine opR_mk rfl fun aa W2 hB hp hq K hK => ?_
             have e57 : aa.tmps[57]?.getD undef = .pointer (some ⟨B2, j, none⟩) := hq 8 _ (by kernel_rfl) rfl
             obtain ⟨_, d2⟩ := HD.out W2 j i (HJ2.out.trans (Below.mono hB HJ2.out.size)) HI.out
             clear hp hq
             go_simp
             exact hK _ _ (RelB.refl _) rfl
           · refine opR_mk rfl fun aa W2 hB hp hq K hK => ?_
             have e58 : aa.tmps[58]?.getD undef = .int .u32 i := hq 9 _ (by kernel_rfl) rfl
             clear hp hq
             go_simp
             exact hK _ _ (RelB.refl _) (by first | rfl | exact congrArg (Value.int .u32) hwi)
           · refine opR_mk rfl fun aa W2 hB hp hq K hK => ?_
             have e54 : aa.tmps[54]?.getD undef = .slice (some ⟨G2, 0, none⟩) r.length cc := hq 5 _ (by kernel_rfl) rfl
             have e59 : aa.tmps[59]?.getD undef = .int .u32 (i - 1) := hq 10 _ (by kernel_rfl) rfl
             have hlt : i - 1 < (r.length : Int) := by omega
             have hnn : 0 ≤ i - 1 := by omega
             have htn : (i - 1).toNat = i.toNat - 1 := by omega
             clear hp hq
             go_simp
             exact hK _ _ (RelB.refl _) rfl
           · refine opR_mk rfl fun aa W2 hB hp hq K hK => ?_
             have e60 : aa.tmps[60]?.getD undef = .pointer (some ⟨G2, (i.toNat - 1) * 4, none⟩) := hq 11 _ (by kernel_rfl) rfl
             clear hp hq
             go_simp
             exact hK _ _ (RelB.refl _) rfl
           · refine opR_mk rfl fun aa W2 hB hp hq K hK => ?_
             have e61 : aa.tmps[61]?.getD undef = .pointer (some ⟨G2, (i.toNat - 1) * 4 + 2, none⟩) := hq 12 _ (by kernel_rfl) rfl
             obtain ⟨kc, g2⟩ := HKK.out W2 hB
             clear hp hq
             go_simp
             exact hK _ _ (RelB.refl _) rfl
           · refine opR_mk rfl fun aa W2 hB hp hq K hK => ?_
             have e62 : aa.tmps[62]?.getD undef = .string b := hq 13 _ (by kernel_rfl) rfl
             clear hp hq
             go_simp
             exact hK _ _ (RelB.refl _) rfl
           · refine opR_mk rfl fun aa W2 hB hp hq K hK => ?_
             have e50 : aa.tmps[50]?.getD undef = .int .i64 ((p : Int) * 64) := hq 1 _ (by kernel_rfl) rfl
             have e63 : aa.tmps[63]?.getD undef = .int .i64 (b.size : Int) := hq 14 _ (by kernel_rfl) rfl
             clear hp hq
             go_simp
             exact hK _ _ (RelB.refl _) (by first | rfl | exact congrArg Value.bool (decide_eq_false (by omega)) | simp)
         · intro vs W3 hB3 hv3 _
           have v15 : vs 15 = .bool false := hv3 15 _ rfl rfl
           have HB5 : Hid (Below w2.heap.size w2 W3) := HJ2.out.trans (Below.mono hB3 HJ2.out.size)
           have HM5 := zz (HM.out.below HB5.out)
           clear hB3 hv3
           simp only [putAll, Act.put, List.setIfInBounds_toArray, List.set_cons_succ, List.set_cons_zero, Nat.zero_add, Nat.reduceAdd, v15]
           go_wp2
           go_roundw
           case rel => exact ⟨j + 1, rfl, by omega, HB5.out⟩
           case measure => simp only [intOf]; omega
end
end

section
open Go.RowKit Go.Maps
section
variable {w W : World} {P N P2 G2 k : Nat} {t t' : PT} {d d' : D.Tr}
theorem mem_rec (r : R) (hr : r.Texts) (a : Int) (he : playA t r = (a, t')) (h : Mem w W P N P2 G2 t d) (hp : WellP t) (hK : HeldK 999999999 t) (hN : N < 800000) :
  Calls Tryz.prog 27 #[.pointer (some ⟨P, 0, none⟩), r.val] W fun e w' => e = .returned (.int .i64 a) ∧ Mem w w' P (N + 2) P2 G2 t' d :=
 (h.P_ (N' := N + 2) (t' := t') (Q := fun e => e = .returned (.int .i64 a)) fun _ _ hT => t_playA r hr a t' he W hT hp hK hN).mono fun _ _ ⟨h1, h2, _⟩ => ⟨h1, h2⟩
theorem mem_recD (r : R) (hr : r.Texts) (hc : checkB r = true) (a : Int) (he : playO d r = (a, d')) (h : Mem w W P N P2 G2 t d) (hf : D.Fine d) :
  Calls Tryz.prog 26 #[.pointer (some ⟨P2, 0, none⟩), r.val] W fun e w' => e = .returned (.int .i64 a) ∧ Mem w w' P N P2 G2 t d' := by
 unfold playO at he
 rw [if_pos hc] at he
 exact (h.D_ (r' := d') (Q := fun e => e = .returned (.int .i64 a)) fun hD => D.t_play P2 G2 d r W hD hf hr (check_one hc) a d' he).mono fun _ _ ⟨h1, h2, _⟩ => ⟨h1, h2⟩
end
def AtR (w : World) (P P2 G2 k : Nat) (wr : World) : Prop := ∃ t d, Mem w wr P (1 + 2 * k) P2 G2 t d ∧ Pl (2 * k) t d
theorem NewT.get4 {n : Int} {w w' : World} {e : Ending} (h : NewT n w e w') : ∃ P y F, e = .returned (.tuple #[.pointer (some ⟨P, 0, none⟩), .int .i64 0]) ∧ TreeM w' F P 1 y (newT n) ∧ Below w.heap.size w w' ∧ ∀ b, F b → w.heap.size ≤ b := h
set_option maxRecDepth 100000 in
set_option maxHeartbeats 16000000 in
theorem t_recPlays (m : Int) (A : Option Addr) (n c : Nat) (l : List R) (w : World) (hl : RecsAt w A l) (hn : l.length = n) (hn2 : n ≤ maxLen) :
  Calls Tryz.prog 5 #[.int .i64 m, .slice A n c] w fun e w' => e = .returned (.bool true) ∧ Below w.heap.size w w' := by
 have HM := zz (t_manyR A n c l w hl hn hn2)
 have HL := zz hl
 have HN := zz hn
 clear hl hn hn2
 by_cases hgood : 2 ≤ m ∧ m ≤ 256
 · obtain ⟨q, hm⟩ : ∃ q : Nat, m = (q : Int) := ⟨m.toNat, by omega⟩
   subst hm
   have hg1 : 2 ≤ (q : Int) := hgood.1
   have hg2 : (q : Int) ≤ 256 := hgood.2
   clear hgood
   go_enter Tryz.func5, Tryz.ntmps5
   go_wp2_with (first
    | (go_at_call 22; with_reducible refine HM.out.mono ?_; rintro e w1 hq; obtain ⟨b, rfl, hb, h1⟩ := hq.get; clear hq; have HB1 := zz h1; have HBL := zz hb; clear h1 hb; cases b)
    | (go_at_call 23; with_reducible refine (t_alive22 _).mono ?_; rintro e w2 ⟨rfl, h2⟩; replace HB1 := zz (ptrans HB1.out h2); clear h2)
    | (go_at_call 16; with_reducible refine (t_new _ _ (by omega) (by omega)).mono ?_; rintro e w3 hq; obtain ⟨P, y, F, rfl, hT, hb, hF⟩ := hq.get4; have HT := zz hT; have HB3 := zz hb; have HF := zz hF; clear hq hT hb hF)
    | (go_at_call 24; with_reducible refine (D.t_new q (by omega) (by omega) _).mono ?_; rintro e w4 ⟨P2, G2, rfl, hD, hb, _, hG⟩; have HD := zz hD; have HB4 := zz hb; have HG := zz hG; clear hD hb hG))
   all_goals first
    | (go_ret; exact ⟨rfl, HB1.out⟩; done)
    | skip
   have hn80 : n ≤ 80 := HBL.out (by simp)
   have hb4 : Below w.heap.size w w4 := ptrans (ptrans HB1.out HB3.out) HB4.out
   have HS0 : Hid (AtR w P P2 G2 0 w4) := ⟨_, _, ⟨y, F, HT.out.below HB4.out, HD.out, fun b hb => Nat.le_trans HB1.out.size (HF.out b hb), Nat.le_trans HB1.out.size (Nat.le_trans HB3.out.size HG.out), hb4⟩, Pl.start' q (by omega) (by omega)⟩
   clear hb4 HM HBL HT HD HF HG HB4 HB3 HB1
   go_loopw [8] (fun v wr => ∃ k : Nat, v = .int .i64 (k : Int) ∧ k ≤ n ∧ Hid (AtR w P P2 G2 k wr)) (fun v _ => n - (intOf v).toNat)
   case atStart => exact ⟨0, rfl, Nat.zero_le _, HS0.out⟩
   case round =>
    clear HS0
    obtain ⟨k, rfl, hk, HA⟩ := hrel
    obtain ⟨t, d, hM, hP⟩ := HA.out
    have HM := zz hM
    have HP := zz hP
    clear hM hP HA
    by_cases he : k = n
    · subst he
      have HB := zz HM.out.bel
      go_wp2_with (go_at_call 23; (with_reducible refine (t_alive22 _).mono ?_); rintro e w9 ⟨rfl, hb⟩; replace HB := zz (ptrans HB.out hb); clear hb)
      go_ret
      exact ⟨rfl, HB.out⟩
    · have hkn : k < n := by omega
      have hx := rAt_at (l := l) (k := k) (by rw [HN.out]; exact hkn)
      obtain ⟨r, hr⟩ : ∃ r, r = rAt l k := ⟨_, rfl⟩
      rw [← hr] at hx
      have HX := zz hx
      have hrt := (HL.out.ok r (List.mem_of_getElem? hx)).texts
      have hcc : ∀ W, Below w.heap.size w W → ∀ b o, A = some ⟨b, o, none⟩ → (W.cell? ⟨b, o + k * 12, none⟩ = some (.int .u64 r.stamp) ∧ W.cell? ⟨b, o + k * 12 + 1, none⟩ = some (.int .u8 r.act) ∧ W.cell? ⟨b, o + k * 12 + 2, none⟩ = some (.int .u32 r.dir) ∧ W.cell? ⟨b, o + k * 12 + 3, none⟩ = some (.string r.name) ∧ W.cell? ⟨b, o + k * 12 + 4, none⟩ = some (.int .u32 r.ino) ∧ W.cell? ⟨b, o + k * 12 + 5, none⟩ = some (.int .u8 r.kind) ∧ W.cell? ⟨b, o + k * 12 + 6, none⟩ = some (.int .u32 r.dir2) ∧ W.cell? ⟨b, o + k * 12 + 7, none⟩ = some (.string r.name2) ∧ W.cell? ⟨b, o + k * 12 + 8, none⟩ = some (.int .u32 r.old) ∧ W.cell? ⟨b, o + k * 12 + 9, none⟩ = some (.int .u32 r.size) ∧ W.cell? ⟨b, o + k * 12 + 10, none⟩ = some (.int .i64 r.page) ∧ W.cell? ⟨b, o + k * 12 + 11, none⟩ = some (.string r.data)) := fun W hb b o hA => by
       obtain ⟨b', o', hA', _, hc⟩ := (HL.out.below hb).at_ (fun e => by rw [e] at hx; simp at hx)
       rw [hA] at hA'
       cases hA'
       have f := hc k r hx
       exact ⟨f 0 _ rfl, f 1 _ rfl, f 2 _ rfl, f 3 _ rfl, f 4 _ rfl, f 5 _ rfl, f 6 _ rfl, f 7 _ rfl, f 8 _ rfl, f 9 _ rfl, f 10 _ rfl, f 11 _ rfl⟩
      obtain ⟨b, o, rfl, _⟩ := HL.out.at_ (fun e => by rw [e] at hx; simp at hx)
      have hcc2 := fun W hb => hcc W hb b o rfl
      have HC := zz hcc2
      obtain ⟨c0, c1, c2, c3, c4, c5, c6, c7, c8, c9, c10, c11⟩ := hcc2 _ HM.out.bel
      obtain ⟨a, t', hpa⟩ : ∃ a t', playA t r = (a, t') := ⟨_, _, rfl⟩
      obtain ⟨a2, d', hpo⟩ : ∃ a2 d', playO d r = (a2, d') := ⟨_, _, rfl⟩
      obtain ⟨e1, hP'⟩ := HP.out.record (r := r) hrt.ok
      rw [hpa, hpo] at e1 hP'
      simp only at e1 hP'
      subst e1
      have HP' := zz hP'
      have hK : HeldK 999999999 t := HP.out.held.mono (by omega)
      have hfine : D.Fine d := HP.out.wr.fine (by omega)
      have hmay := fun W => t_may r W hrt.name hrt.name2 hrt.data
      rw [mayB_check] at hmay
      have HWell := zz HP.out.well
      have h1 := fun W d (h : Mem w W P (1 + 2 * k) P2 G2 t d) => mem_rec r hrt a2 hpa h HWell.out hK (by omega)
      have haa : (a2 != a2) = false := by simp
      have haa2 : (a2 == a2) = true := by simp
      cases hc : checkB r with
      | true =>
       rw [hc] at hmay
       have h2 := fun W (h : Mem w W P (1 + 2 * k) P2 G2 t d) => mem_recD r hrt hc a2 hpo h hfine
       unfold R.val at hmay h1 h2
       have H1 := zz h1
       have H2 := zz h2
       have HMay := zz hmay
       clear h1 h2 hmay hx hcc hcc2 hpa hpo hP' hK hfine hc hrt hr he
       go_wp2_with (first
        | (go_at_call 25; (with_reducible refine (HMay.out _).mono ?_); rintro e w5 ⟨rfl, hb⟩; replace HM := zz (HM.out.below hb); clear c0 c1 c2 c3 c4 c5 c6 c7 c8 c9 c10 c11; obtain ⟨c0, c1, c2, c3, c4, c5, c6, c7, c8, c9, c10, c11⟩ := HC.out _ HM.out.bel; clear hb)
        | (go_at_call 26; (with_reducible refine (H2.out _ HM.out).mono ?_); rintro e w6 ⟨rfl, h⟩; have HM2 := zz h; clear c0 c1 c2 c3 c4 c5 c6 c7 c8 c9 c10 c11; obtain ⟨c0, c1, c2, c3, c4, c5, c6, c7, c8, c9, c10, c11⟩ := HC.out _ HM2.out.bel; clear h)
        | (go_at_call 27; (with_reducible refine (H1.out _ _ HM2.out).mono ?_); rintro e w7 ⟨rfl, h⟩; have HM3 := zz h; clear h)
        | (go_at_call 28; (with_reducible refine (t_sameT _ HM3.out HP'.out (by omega) (by omega)).mono ?_); rintro e w8 ⟨rfl, hb⟩; have HM4 := zz (HM3.out.below hb); clear hb))
       go_roundw
       case rel => exact ⟨k + 1, by go_num, by omega, _, _, HM4.out, HP'.out⟩
       case measure => simp [intOf]; omega
      | false =>
       rw [hc] at hmay
       have hpo2 : a2 = 2 ∧ d' = d := by
        unfold playO at hpo
        rw [if_neg (by rw [hc]; simp)] at hpo
        cases hpo
        exact ⟨rfl, rfl⟩
       obtain ⟨rfl, rfl⟩ := hpo2
       unfold R.val at hmay h1
       have H1 := zz h1
       have HMay := zz hmay
       clear h1 hmay hx hcc hcc2 hpa hpo hP' hK hfine hc hrt hr he
       go_wp2_with (first
        | (go_at_call 25; (with_reducible refine (HMay.out _).mono ?_); rintro e w5 ⟨rfl, hb⟩; replace HM := zz (HM.out.below hb); clear c0 c1 c2 c3 c4 c5 c6 c7 c8 c9 c10 c11; obtain ⟨c0, c1, c2, c3, c4, c5, c6, c7, c8, c9, c10, c11⟩ := HC.out _ HM.out.bel; clear hb)
        | (go_at_call 27; (with_reducible refine (H1.out _ _ HM.out).mono ?_); rintro e w7 ⟨rfl, h⟩; have HM3 := zz h; clear h)
        | (go_at_call 28; (with_reducible refine (t_sameT _ HM3.out HP'.out (by omega) (by omega)).mono ?_); rintro e w8 ⟨rfl, hb⟩; have HM4 := zz (HM3.out.below hb); clear hb))
       go_roundw
       case rel => exact ⟨k + 1, by go_num, by omega, _, _, HM4.out, HP'.out⟩
       case measure => simp [intOf]; omega
 · have HG := zz (show m < 2 ∨ 256 < m by omega)
   clear hgood
   go_enter Tryz.func5, Tryz.ntmps5
   go_wp2_with (first
    | (go_at_call 22; with_reducible refine HM.out.mono ?_; rintro e w1 hq; obtain ⟨b, rfl, hb, h1⟩ := hq.get; clear hq; have HB1 := zz h1; clear h1 hb; cases b)
    | (go_at_call 23; with_reducible refine (t_alive22 _).mono ?_; rintro e w2 ⟨rfl, h2⟩; replace HB1 := zz (ptrans HB1.out h2); clear h2)
    | (go_at_call 16; with_reducible refine (t_newNo _ _ HG.out).mono ?_; rintro e w3 ⟨rfl, rfl⟩))
   all_goals first
    | (go_ret; exact ⟨rfl, HB1.out⟩; done)
    | trace_state
open Go.ChangeShapes Go.WideShapes Go.ChangeAt
set_option maxRecDepth 100000 in
theorem lifted_recPlays (os : Os) (started : os.Started) (H : Type) (enc : TypeId × Value → H) :
  ReturnsInHanded {} Tryz.checked os 5 .any (Rows.recPlaysSpec.pre6 enc Tryz.prog Tryz.f5 Rows.recPlaysRow.domain false) (Rows.recPlaysSpec.post enc Tryz.prog Tryz.f5 false true false false) := by
 refine returnsInHanded_of_change (C := Tryz.checked) own started (by kernel_rfl) Tryz.func5
  (ChangeSpec.witness6 (enc := enc) (C := Tryz.checked) false ⟨#[], #[.int .i64 0, .slice none 0 0], []⟩ 8 (by kernel_rfl) (by kernel_rfl) (by kernel_rfl) (by kernel_rfl)) ?_
 intro W base args ds gs before hval0 hW _ _
 have hval : ∀ (j : Nat) t v, Tryz.f5.params[j]? = some t → args[j]? = some v → Value.okWide Tryz.prog W .any base t v := hval0
 have hW' := hW
 obtain ⟨p, q, hA0, hV, rfl, _, _⟩ := hW
 have hA : DataW.TrodAll enc Tryz.prog W 0 (fun _ => true) true Tryz.f5.params.toList args.toList ds p := hA0
 rw [Tryz.params5] at hA hval
 obtain ⟨v0, v1, d0, d1, p0, p1, rfl, rfl, rfl, h0, h1⟩ := trodAll_two hA
 obtain ⟨rfl, rfl⟩ := trodVars_none hV
 obtain ⟨m, rfl, rfl, rfl, _⟩ := open_int Tryz.underlying3 (hval 0 3 v0 rfl rfl) h0
 obtain ⟨A, n, c, l, rfl, _, k2, k3, k4⟩ := recs_of (okWide_slice Tryz.underlying22 (hval 1 22 v1 rfl rfl)) h1
 refine (t_recPlays m A n c l W k4 k3 k2).mono fun e W' ⟨he, hb⟩ => ?_
 exact ⟨_, he, law_post laidOut (by kernel_rfl) rfl (by kernel_rfl) Tryz.underlying4 hW' rfl hb⟩
theorem recPlays_holds : Rows.RecPlaysSaid :=
 OpenClaim.holds_of_wide 5 Tryz.f5 rfl rfl rfl rfl rfl rfl rfl ⟨rfl, rfl, rfl, rfl, rfl⟩ rfl rfl rfl rfl rfl (by kernel_rfl) Tryz.func5 (by kernel_rfl)
  (of_decide_eq_true (by kernel_rfl)) (by unfold Func.isWrapper; first | (rw [if_pos (by decide +kernel)]; kernel_rfl) | (rw [if_neg (by decide +kernel)]; exact ⟨rfl, rfl⟩))
  (fun os started H enc _ => lifted_recPlays os started H enc)
#print axioms recPlays_holds
end
end Go.Proofs.YtogljgiefmfafaaGreat
