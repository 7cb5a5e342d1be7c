/- Whether both trees are the same, walked. -/
import Derived.Test.YtpcjbfhgmcioaaaGreatTH
namespace Go.Proofs.YtpcjbfhgmcioaaaGreat
open Go.RowKit Go.Maps

section
variable {k : Nat} {t : PT} {r : D.Tr} {w W : World} {P N P2 G2 : Nat}
theorem Sim.all (h : Sim t r) (hw : WellP t) : (D.allD r r.length).Pairwise (· < ·) ∧ (∀ i, i ∈ D.allD r r.length ↔ (t.n i).isSome = true) := by
  unfold D.allD
  constructor
  · rw [List.pairwise_map]
    refine (List.pairwise_lt_range.filter _).imp fun {a b} hab => ?_
    have : (a : Int) < (b : Int) := by exact_mod_cast hab
    omega
  · intro i
    rw [← h.there hw, List.mem_map]
    constructor
    · rintro ⟨k, hk, rfl⟩
      obtain ⟨h1, h2⟩ := List.mem_filter.1 hk
      have h1' := List.mem_range.1 h1
      unfold D.thereB
      rw [decide_eq_true_iff]
      refine ⟨by omega, by omega, ?_⟩
      rw [ndAt_of_lt h1']
      simpa using h2
    · intro hi
      obtain ⟨h1, h2, h3⟩ := D.thereB_bounds hi
      refine ⟨i.toNat - 1, List.mem_filter.2 ⟨List.mem_range.2 (by omega), ?_⟩, by omega⟩
      unfold D.ndAt at h3
      simpa using h3
theorem t_allX (W : World) (h : Mem w W P N P2 G2 t r) (hp : Pl k t r) (hN : N ≤ 60000) {n : Nat} (hn : (D.allD r r.length).length = n) :
    Calls Tryz.prog 21 #[.pointer (some ⟨P, 0, none⟩)] W fun e w' => ∃ B c, e = .returned (.slice (some ⟨B, 0, none⟩) n c) ∧ RowAt w' B (D.allD r r.length) ∧ Below W.heap.size W w' := by
  obtain ⟨y, F, hT⟩ := h.tree
  obtain ⟨x, hx, _⟩ := hp.well.root
  refine (t_allP W hT hN ⟨1, by rw [hx]; rfl⟩).mono ?_
  rintro e w' ⟨B, c, l, rfl, h1, h2, h3, _, hb⟩
  obtain ⟨g1, g2⟩ := hp.sim.all hp.well
  obtain rfl := ints_unique h1 g1 (fun x => (h2 x).trans (g2 x).symm)
  exact ⟨B, c, by rw [hn], h3, hb⟩
theorem t_allZ (W : World) (h : Mem w W P N P2 G2 t r) (hp : Pl k t r) {n : Nat} (hn : (D.allD r r.length).length = n) :
    Calls Tryz.prog 61 #[.pointer (some ⟨P2, 0, none⟩)] W fun e w' => ∃ B c, e = .returned (.slice (some ⟨B, 0, none⟩) n c) ∧ RowAt w' B (D.allD r r.length) ∧ Below W.heap.size W w' := by
  refine (D.t_All P2 G2 r W h.doc).mono ?_
  rintro e w' ⟨v, rfl, ho, hb⟩
  rw [hn] at ho
  have hpos : 0 < n := by
    obtain ⟨x, hx, _⟩ := hp.well.root
    have h1 := ((hp.sim.all hp.well).2 1).2 (by rw [hx]; rfl)
    rw [← hn]
    exact List.length_pos_of_mem h1
  rcases ho.2 with ⟨_, h0⟩ | ⟨g, cap, cur, rfl, _, hg, _⟩
  · omega
  · refine ⟨g, _, rfl, ⟨fun j x hj => ?_, (Array.getElem?_eq_some_iff.1 hg).1⟩, hb⟩
    have hjn := (List.getElem?_eq_some_iff.1 hj).1
    rw [ho.cellAt j (by omega), List.getElem?_map, hj]
    rfl
set_option maxRecDepth 100000 in
set_option maxHeartbeats 16000000 in
theorem t_sameT (W : World) (h : Mem w W P N P2 G2 t r) (hp : Pl k t r) (hk : k ≤ 1000) (hN : N ≤ 60000) :
    Calls Tryz.prog 17 #[.pointer (some ⟨P, 0, none⟩), .pointer (some ⟨P2, 0, none⟩)] W fun e w' => e = .returned (.bool true) ∧ Below W.heap.size W w' := by
  obtain ⟨n, hn⟩ : ∃ n, (D.allD r r.length).length = n := ⟨_, rfl⟩
  have hn2 : n ≤ 256 := by
    obtain ⟨g1, g2⟩ := hp.sim.all hp.well
    rw [← hn]
    exact all_len hp.well g1 g2
  have C1 : Hid (∀ W2, Mem w W2 P N P2 G2 t r → Calls Tryz.prog 21 #[.pointer (some ⟨P, 0, none⟩)] W2 fun e w' => ∃ B c, e = .returned (.slice (some ⟨B, 0, none⟩) n c) ∧ RowAt w' B (D.allD r r.length) ∧ Below W2.heap.size W2 w') := fun W2 hM => t_allX W2 hM hp hN hn
  have C2 : Hid (∀ W2, Mem w W2 P N P2 G2 t r → Calls Tryz.prog 61 #[.pointer (some ⟨P2, 0, none⟩)] W2 fun e w' => ∃ B c, e = .returned (.slice (some ⟨B, 0, none⟩) n c) ∧ RowAt w' B (D.allD r r.length) ∧ Below W2.heap.size W2 w') := fun W2 hM => t_allZ W2 hM hp hn
  have C3 : Hid (∀ (i : Int) (name : ByteArray) (W2 : World), U32 i → name.size ≤ maxLen → Mem w W2 P N P2 G2 t r → Calls Tryz.prog 18 #[.pointer (some ⟨P, 0, none⟩), .pointer (some ⟨P2, 0, none⟩), .int .u32 i, .int .i64 0, .string name] W2 fun e w' => e = .returned (.bool true) ∧ Below W2.heap.size W2 w') := fun i name W2 hi hs hM => t_one i 0 name W2 hM hp hk hN hi hs
  have C5 : Hid (∀ (i page : Int) (W2 : World), U32 i → Mem w W2 P N P2 G2 t r → Calls Tryz.prog 28 #[.pointer (some ⟨P, 0, none⟩), .int .u32 i, .int .i64 page] W2 fun e w' => e = .returned (.tuple #[.string (readR t i page).1, .int .i64 (readR t i page).2]) ∧ Below W2.heap.size W2 w') := fun i page W2 hi hM => by
    obtain ⟨y, F, hT⟩ := hM.tree
    exact t_readP i page W2 hT hi (fun x hx => hp.well.pages i x hx)
  have C6 : Hid (∀ (i page : Int) (W2 : World), U32 i → Mem w W2 P N P2 G2 t r → Calls Tryz.prog 62 #[.pointer (some ⟨P2, 0, none⟩), .int .u32 i, .int .i64 page] W2 fun e w' => e = .returned (.tuple #[.string (readR t i page).1, .int .i64 (readR t i page).2]) ∧ Below W2.heap.size W2 w') := fun i page W2 hi hM =>
    D.t_Read P2 G2 r i page W2 hM.doc hi.1 (hp.wr.at_data i) _ _ (hp.sim.read hp.well i page)
  have HIN : Hid (∀ j i, (D.allD r r.length)[j]? = some i → 1 ≤ i ∧ i ≤ (r.length : Int) ∧ U32 i ∧ (D.ndAt r i).data.size ≤ 2304) := fun j i hj => by
    have hl := hp.sim.len
    obtain ⟨x, hx⟩ := Option.isSome_iff_exists.1 (((hp.sim.all hp.well).2 i).1 (List.mem_of_getElem? hj))
    have hr := hp.well.range i x hx
    have hm := hp.well.room
    have hs := (hp.sim.node i x hx).size
    have hg := (hp.well.pages i x hx).size
    exact ⟨hr.1, by omega, ⟨by omega, by omega⟩, by omega⟩
  have HLN := Lib.hid hn
  have HM := Lib.hid h
  have hsm := h.doc.small
  clear hn h hp hk hN
  go_enter Tryz.func17, Tryz.ntmps17
  go_wp2_with (first
    | (go_at_call 21; (with_reducible refine (C1.out _ HM.out).mono ?_); rintro e w1 ⟨B1, c1, rfl, hr1, hb⟩; have HR1 := Lib.hid hr1; have HB := Lib.hid hb; replace HM := Lib.hid (HM.out.below hb); clear hr1 hb)
    | (go_at_call 61; (with_reducible refine (C2.out _ HM.out).mono ?_); rintro e w2 ⟨B2, c2, rfl, hr2, hb⟩; have HR2 := Lib.hid hr2; replace HR1 := Lib.hid (HR1.out.below hb); replace HB := Lib.hid (HB.out.trans (hb.mono HB.out.size)); replace HM := Lib.hid (HM.out.below hb); clear hr2 hb))
  have hd : ∀ (Wx : World) (j : Nat) (i : Int), Below w2.heap.size w2 Wx → (D.allD r r.length)[j]? = some i → Wx.cell? ⟨B1, j, none⟩ = some (.int .u32 i) ∧ Wx.cell? ⟨B2, j, none⟩ = some (.int .u32 i) := fun Wx j i hb hj =>
    ⟨(hb.cell (p := ⟨B1, _, none⟩) HR1.out.lt).trans (HR1.out.cell j i hj), (hb.cell (p := ⟨B2, _, none⟩) HR2.out.lt).trans (HR2.out.cell j i hj)⟩
  have HD := Lib.hid hd
  clear hd HR1 HR2
  go_loopw [7] (fun v wr => ∃ j : Nat, v = .int .i64 (j : Int) ∧ j ≤ n ∧ Hid (Below w2.heap.size w2 wr)) (fun v _ => n - (intOf v).toNat)
  case atStart => exact ⟨0, rfl, Nat.zero_le _, Below.refl _ _⟩
  case round =>
    obtain ⟨j, rfl, hj, HJ⟩ := hrel
    by_cases he : j = n
    · subst he
      go_wp2
      go_ret
      exact ⟨rfl, HB.out.trans (HJ.out.mono HB.out.size)⟩
    · have hj2 : j < n := by omega
      obtain ⟨i, hi⟩ : ∃ i, (D.allD r r.length)[j]? = some i := ⟨(D.allD r r.length)[j]'(by rw [HLN.out]; exact hj2), List.getElem?_eq_getElem _⟩
      have HI := Lib.hid hi
      obtain ⟨i1, i2, iu, i3⟩ := HIN.out j i hi
      have HU := Lib.hid iu
      obtain ⟨d1, d2⟩ := HD.out wr j i HJ.out hi
      have HMr := Lib.hid (HM.out.below HJ.out)
      obtain ⟨b, hbd⟩ : ∃ b, b = (D.ndAt r i).data := ⟨_, rfl⟩
      rw [← hbd] at i3
      have HBD := Lib.hid hbd
      clear he hi iu hbd
      go_wp2
      refine wp_region_rel RelB (phi [isV (.slice (some ⟨B1, 0, none⟩) n c1), isV (.int .i64 (j : Int)), isV (.pointer (some ⟨B1, j, none⟩)), isV (.int .u32 i), isV (.slice (some ⟨B2, 0, none⟩) n c2), isV (.int .i64 (j : Int)), isV (.pointer (some ⟨B2, j, none⟩)), isV (.int .u32 i), isV (.bool false), isV (.bool false), isV (.pointer (some ⟨P, 0, none⟩)), isV (.pointer (some ⟨P2, 0, none⟩)), isV (.slice (some ⟨B2, 0, none⟩) n c2), isV (.int .i64 (j : Int)), isV (.pointer (some ⟨B2, j, none⟩)), isV (.int .u32 i), isV (.bool true), isV (.bool false), isV (.bool false)]) (by kernel_rfl) (by kernel_rfl) (by kernel_rfl) (RelB.of (below_drew _)) (fun _ _ _ a b => a.trans b) ?_ ?_ ?_
      · refine stays_phiR ?_
        simp only [List.forall_mem_cons]
        exact ⟨fun _ _ _ h _ => h, fun _ _ _ h _ => h, fun _ _ _ h _ => h, fun _ _ _ h _ => h, fun _ _ _ h _ => h, fun _ _ _ h _ => h, fun _ _ _ h _ => h, fun _ _ _ h _ => h, fun _ _ _ h _ => h, fun _ _ _ h _ => h, fun _ _ _ h _ => h, fun _ _ _ h _ => h, fun _ _ _ h _ => h, fun _ _ _ h _ => h, fun _ _ _ h _ => h, fun _ _ _ h _ => h, fun _ _ _ h _ => h, fun _ _ _ h _ => h, fun _ _ _ h _ => h, fun _ h => absurd h (by simp)⟩
      · refine ⟨?_, ?_, ?_, ?_, ?_, ?_, ?_, ?_, ?_, ?_, ?_, ?_, ?_, ?_, ?_, ?_, ?_, ?_, ?_, trivial⟩
        · refine opR_mk rfl fun aa W2 hB hp hq K hK => ?_
          have e5 : aa.tmps[5]?.getD undef = .slice (some ⟨B1, 0, none⟩) n c1 := hp 5 (by kernel_rfl)
          clear hp hq
          go_simp
          exact hK _ _ (RelB.refl _) rfl
        · refine opR_mk rfl fun aa W2 hB hp hq K hK => ?_
          have e7 : aa.tmps[7]?.getD undef = .int .i64 (j : Int) := hp 7 (by kernel_rfl)
          clear hp hq
          go_simp
          exact hK _ _ (RelB.refl _) rfl
        · refine opR_mk rfl fun aa W2 hB hp hq K hK => ?_
          have e30 : aa.tmps[30]?.getD undef = .slice (some ⟨B1, 0, none⟩) n c1 := hq 0 _ (by kernel_rfl) rfl
          have e31 : aa.tmps[31]?.getD undef = .int .i64 (j : Int) := hq 1 _ (by kernel_rfl) rfl
          clear hp hq
          go_simp
          exact hK _ _ (RelB.refl _) rfl
        · refine opR_mk rfl fun aa W2 hB hp hq K hK => ?_
          have e32 : aa.tmps[32]?.getD undef = .pointer (some ⟨B1, j, none⟩) := hq 2 _ (by kernel_rfl) rfl
          obtain ⟨d1, d2⟩ := HD.out W2 j i (HJ.out.trans (Below.mono hB HJ.out.size)) HI.out
          clear hp hq
          go_simp
          exact hK _ _ (RelB.refl _) rfl
        · refine opR_mk rfl fun aa W2 hB hp hq K hK => ?_
          have e6 : aa.tmps[6]?.getD undef = .slice (some ⟨B2, 0, none⟩) n c2 := hp 6 (by kernel_rfl)
          clear hp hq
          go_simp
          exact hK _ _ (RelB.refl _) rfl
        · refine opR_mk rfl fun aa W2 hB hp hq K hK => ?_
          have e7 : aa.tmps[7]?.getD undef = .int .i64 (j : Int) := hp 7 (by kernel_rfl)
          clear hp hq
          go_simp
          exact hK _ _ (RelB.refl _) rfl
        · refine opR_mk rfl fun aa W2 hB hp hq K hK => ?_
          have e34 : aa.tmps[34]?.getD undef = .slice (some ⟨B2, 0, none⟩) n c2 := hq 4 _ (by kernel_rfl) rfl
          have e35 : aa.tmps[35]?.getD undef = .int .i64 (j : Int) := hq 5 _ (by kernel_rfl) rfl
          clear hp hq
          go_simp
          exact hK _ _ (RelB.refl _) rfl
        · refine opR_mk rfl fun aa W2 hB hp hq K hK => ?_
          have e36 : aa.tmps[36]?.getD undef = .pointer (some ⟨B2, j, none⟩) := hq 6 _ (by kernel_rfl) rfl
          obtain ⟨d1, d2⟩ := HD.out W2 j i (HJ.out.trans (Below.mono hB HJ.out.size)) HI.out
          clear hp hq
          go_simp
          exact hK _ _ (RelB.refl _) rfl
        · refine opR_mk rfl fun aa W2 hB hp hq K hK => ?_
          have e33 : aa.tmps[33]?.getD undef = .int .u32 i := hq 3 _ (by kernel_rfl) rfl
          have e37 : aa.tmps[37]?.getD undef = .int .u32 i := hq 7 _ (by kernel_rfl) rfl
          clear hp hq
          go_simp
          exact hK _ _ (RelB.refl _) (by first | rfl | simp)
        · refine opR_mk rfl fun aa W2 hB hp hq K hK => ?_
          have e38 : aa.tmps[38]?.getD undef = .bool false := hq 8 _ (by kernel_rfl) rfl
          clear hp hq
          go_simp
          exact hK _ _ (RelB.refl _) rfl
        · refine opR_guard (j := 9) (d := 39) (c := false) rfl rfl (by kernel_rfl) rfl rfl (fun v W h => h) (fun _ => RelB.refl _) (fun hne => absurd rfl hne) fun hc aa W2 hB hp hq K hK => ?_
          have e0 : aa.tmps[0]?.getD undef = .pointer (some ⟨P, 0, none⟩) := hp 0 (by kernel_rfl)
          clear hp hq
          go_simp
          exact hK _ _ (RelB.refl _) rfl
        · refine opR_guard (j := 9) (d := 39) (c := false) rfl rfl (by kernel_rfl) rfl rfl (fun v W h => h) (fun _ => RelB.refl _) (fun hne => absurd rfl hne) fun hc aa W2 hB hp hq K hK => ?_
          have e1 : aa.tmps[1]?.getD undef = .pointer (some ⟨P2, 0, none⟩) := hp 1 (by kernel_rfl)
          clear hp hq
          go_simp
          exact hK _ _ (RelB.refl _) rfl
        · refine opR_guard (j := 9) (d := 39) (c := false) rfl rfl (by kernel_rfl) rfl rfl (fun v W h => h) (fun _ => RelB.refl _) (fun hne => absurd rfl hne) fun hc aa W2 hB hp hq K hK => ?_
          have e6 : aa.tmps[6]?.getD undef = .slice (some ⟨B2, 0, none⟩) n c2 := hp 6 (by kernel_rfl)
          clear hp hq
          go_simp
          exact hK _ _ (RelB.refl _) rfl
        · refine opR_guard (j := 9) (d := 39) (c := false) rfl rfl (by kernel_rfl) rfl rfl (fun v W h => h) (fun _ => RelB.refl _) (fun hne => absurd rfl hne) fun hc aa W2 hB hp hq K hK => ?_
          have e7 : aa.tmps[7]?.getD undef = .int .i64 (j : Int) := hp 7 (by kernel_rfl)
          clear hp hq
          go_simp
          exact hK _ _ (RelB.refl _) rfl
        · refine opR_guard (j := 9) (d := 39) (c := false) rfl rfl (by kernel_rfl) rfl rfl (fun v W h => h) (fun _ => RelB.refl _) (fun hne => absurd rfl hne) fun hc aa W2 hB hp hq K hK => ?_
          have e42 : aa.tmps[42]?.getD undef = .slice (some ⟨B2, 0, none⟩) n c2 := hq 12 _ (by kernel_rfl) rfl
          have e43 : aa.tmps[43]?.getD undef = .int .i64 (j : Int) := hq 13 _ (by kernel_rfl) rfl
          clear hp hq
          go_simp
          exact hK _ _ (RelB.refl _) rfl
        · refine opR_guard (j := 9) (d := 39) (c := false) rfl rfl (by kernel_rfl) rfl rfl (fun v W h => h) (fun _ => RelB.refl _) (fun hne => absurd rfl hne) fun hc aa W2 hB hp hq K hK => ?_
          have e44 : aa.tmps[44]?.getD undef = .pointer (some ⟨B2, j, none⟩) := hq 14 _ (by kernel_rfl) rfl
          obtain ⟨d1, d2⟩ := HD.out W2 j i (HJ.out.trans (Below.mono hB HJ.out.size)) HI.out
          clear hp hq
          go_simp
          exact hK _ _ (RelB.refl _) rfl
        · refine opR_guard (j := 9) (d := 39) (c := false) rfl rfl (by kernel_rfl) rfl rfl (fun v W h => h) (fun _ => RelB.refl _) (fun hne => absurd rfl hne) fun hc aa W2 hB hp hq K hK => ?_
          have e40 : aa.tmps[40]?.getD undef = .pointer (some ⟨P, 0, none⟩) := hq 10 _ (by kernel_rfl) rfl
          have e41 : aa.tmps[41]?.getD undef = .pointer (some ⟨P2, 0, none⟩) := hq 11 _ (by kernel_rfl) rfl
          have e45 : aa.tmps[45]?.getD undef = .int .u32 i := hq 15 _ (by kernel_rfl) rfl
          clear hp hq
          go_simp
          refine (C3.out i _ W2 HU.out (by decide) (HMr.out.below hB)).mono ?_
          rintro e w3 ⟨rfl, hb⟩
          exact hK _ _ (RelB.of hb) rfl
        · refine opR_guard (j := 9) (d := 39) (c := false) rfl rfl (by kernel_rfl) rfl rfl (fun v W h => h) (fun _ => RelB.refl _) (fun hne => absurd rfl hne) fun hc aa W2 hB hp hq K hK => ?_
          have e46 : aa.tmps[46]?.getD undef = .bool true := hq 16 _ (by kernel_rfl) rfl
          clear hp hq
          go_simp
          exact hK _ _ (RelB.refl _) rfl
        · refine opR_mk rfl fun aa W2 hB hp hq K hK => ?_
          have e39 : aa.tmps[39]?.getD undef = .bool false := hq 9 _ (by kernel_rfl) rfl
          have e47 : aa.tmps[47]?.getD undef = .bool false := hq 17 _ (by kernel_rfl) rfl
          clear hp hq
          go_simp
          exact hK _ _ (RelB.refl _) rfl
      · intro vs W3 hB3 hv3 _
        have v18 : vs 18 = .bool false := hv3 18 _ rfl rfl
        have HB4 : Hid (Below w2.heap.size w2 W3) := HJ.out.trans (Below.mono hB3 HJ.out.size)
        clear hB3 hv3
        simp only [putAll, Act.put, List.setIfInBounds_toArray, List.set_cons_succ, List.set_cons_zero, Nat.zero_add, Nat.reduceAdd, v18]
        go_wp2
        go_loopw [8] (fun v wr => ∃ p : Nat, v = .int .i64 (p : Int) ∧ 1 ≤ p ∧ p ≤ 37 ∧ Hid (Below w2.heap.size w2 wr)) (fun v _ => 37 - (intOf v).toNat)
        case atStart => exact ⟨1, rfl, Nat.le_refl _, by decide, HB4.out⟩
        case round =>
          obtain ⟨p, rfl, hp1, hp2, HJ2⟩ := hrel
          clear HMr
          have HMr := Lib.hid (HM.out.below HJ2.out)
          obtain ⟨d1, d2⟩ := HD.out _ j i HJ2.out HI.out
          obtain ⟨cc, k1, k2, kc⟩ := HMr.out.doc.cell0
          obtain ⟨_, _, g2, _⟩ := HMr.out.doc.get (HMr.out.doc.idx i1 i2)
          replace g2 := (show _ = some (Value.string (D.ndAt r i).data) from g2)
          rw [← HBD.out] at g2
          unfold maxLen at k2
          have hkk : ∀ W2, RelB wr W2 → W2.cell? ⟨P2, 0, none⟩ = some (.slice (some ⟨G2, 0, none⟩) r.length cc) ∧ W2.cell? ⟨G2, (i.toNat - 1) * 4 + 2, none⟩ = some (.string b) := fun W2 hB => ⟨(Below.cell (p := ⟨P2, 0, none⟩) hB HMr.out.doc.ltP).trans kc, (Below.cell (p := ⟨G2, _, none⟩) hB HMr.out.doc.ltG).trans g2⟩
          have HKK := Lib.hid hkk
          clear hkk kc g2 d1 d2
          have hwp : IntKind.i64.wrap ((p : Int) * 64) = (p : Int) * 64 := (IntWalk.i64_left _).trans (IntWalk.wrap64_in _ (by omega))
          have hwi : IntKind.u32.wrap (i - 1) = i - 1 := IntWalk.u32_in _ (by have := HU.out.2; omega)
          by_cases hq : p * 64 < b.size
          · have hq' : (p : Int) * 64 < (b.size : Int) := by omega
            have hp36 : p < 37 := by omega
            go_wp2
            refine wp_region_rel RelB (phi [isV (.int .i64 (p : Int)), isV (.int .i64 ((p : Int) * 64)), isV (.pointer (some ⟨P2, 0, none⟩)), isV (.pointer (some ⟨P2, 0, none⟩)), isV (.pointer (some ⟨P2, 0, none⟩)), isV (.slice (some ⟨G2, 0, none⟩) r.length cc), isV (.slice (some ⟨B2, 0, none⟩) n c2), isV (.int .i64 (j : Int)), isV (.pointer (some ⟨B2, j, none⟩)), isV (.int .u32 i), isV (.int .u32 (i - 1)), isV (.pointer (some ⟨G2, (i.toNat - 1) * 4, none⟩)), isV (.pointer (some ⟨G2, (i.toNat - 1) * 4 + 2, none⟩)), isV (.string b), isV (.int .i64 (b.size : Int)), isV (.bool true)]) (by kernel_rfl) (by kernel_rfl) (by kernel_rfl) (RelB.of (below_drew _)) (fun _ _ _ a b => a.trans b) ?_ ?_ ?_
            · refine stays_phiR ?_
              simp only [List.forall_mem_cons]
              exact ⟨fun _ _ _ h _ => h, fun _ _ _ h _ => h, fun _ _ _ h _ => h, fun _ _ _ h _ => h, fun _ _ _ h _ => h, fun _ _ _ h _ => h, fun _ _ _ h _ => h, fun _ _ _ h _ => h, fun _ _ _ h _ => h, fun _ _ _ h _ => h, fun _ _ _ h _ => h, fun _ _ _ h _ => h, fun _ _ _ h _ => h, fun _ _ _ h _ => h, fun _ _ _ h _ => h, fun _ _ _ h _ => h, fun _ h => absurd h (by simp)⟩
            · refine ⟨?_, ?_, ?_, ?_, ?_, ?_, ?_, ?_, ?_, ?_, ?_, ?_, ?_, ?_, ?_, ?_, trivial⟩
              · refine opR_mk rfl fun aa W2 hB hp hq K hK => ?_
                have e8 : aa.tmps[8]?.getD undef = .int .i64 (p : Int) := hp 8 (by kernel_rfl)
                clear hp hq
                go_simp
                exact hK _ _ (RelB.refl _) rfl
              · refine opR_mk rfl fun aa W2 hB hp hq K hK => ?_
                have e49 : aa.tmps[49]?.getD undef = .int .i64 (p : Int) := hq 0 _ (by kernel_rfl) rfl
                clear hp hq
                go_simp
                exact hK _ _ (RelB.refl _) (by first | rfl | exact congrArg (Value.int .i64) hwp)
              · refine opR_mk rfl fun aa W2 hB hp hq K hK => ?_
                have e1 : aa.tmps[1]?.getD undef = .pointer (some ⟨P2, 0, none⟩) := hp 1 (by kernel_rfl)
                clear hp hq
                go_simp
                exact hK _ _ (RelB.refl _) rfl
              · refine opR_mk rfl fun aa W2 hB hp hq K hK => ?_
                have e51 : aa.tmps[51]?.getD undef = .pointer (some ⟨P2, 0, none⟩) := hq 2 _ (by kernel_rfl) rfl
                clear hp hq
                go_simp
                exact hK _ _ (RelB.refl _) rfl
              · refine opR_mk rfl fun aa W2 hB hp hq K hK => ?_
                have e52 : aa.tmps[52]?.getD undef = .pointer (some ⟨P2, 0, none⟩) := hq 3 _ (by kernel_rfl) rfl
                clear hp hq
                go_simp
                exact hK _ _ (RelB.refl _) rfl
              · refine opR_mk rfl fun aa W2 hB hp hq K hK => ?_
                have e53 : aa.tmps[53]?.getD undef = .pointer (some ⟨P2, 0, none⟩) := hq 4 _ (by kernel_rfl) rfl
                obtain ⟨kc, g2⟩ := HKK.out W2 hB
                clear hp hq
                go_simp
                exact hK _ _ (RelB.refl _) rfl
              · refine opR_mk rfl fun aa W2 hB hp hq K hK => ?_
                have e6 : aa.tmps[6]?.getD undef = .slice (some ⟨B2, 0, none⟩) n c2 := hp 6 (by kernel_rfl)
                clear hp hq
                go_simp
                exact hK _ _ (RelB.refl _) rfl
              · refine opR_mk rfl fun aa W2 hB hp hq K hK => ?_
                have e7 : aa.tmps[7]?.getD undef = .int .i64 (j : Int) := hp 7 (by kernel_rfl)
                clear hp hq
                go_simp
                exact hK _ _ (RelB.refl _) rfl
              · refine opR_mk rfl fun aa W2 hB hp hq K hK => ?_
                have e55 : aa.tmps[55]?.getD undef = .slice (some ⟨B2, 0, none⟩) n c2 := hq 6 _ (by kernel_rfl) rfl
                have e56 : aa.tmps[56]?.getD undef = .int .i64 (j : Int) := hq 7 _ (by kernel_rfl) rfl
                clear hp hq
                go_simp
                exact hK _ _ (RelB.refl _) rfl
              · refine opR_mk rfl fun aa W2 hB hp hq K hK => ?_
                have e57 : aa.tmps[57]?.getD undef = .pointer (some ⟨B2, j, none⟩) := hq 8 _ (by kernel_rfl) rfl
                obtain ⟨_, d2⟩ := HD.out W2 j i (HJ2.out.trans (Below.mono hB HJ2.out.size)) HI.out
                clear hp hq
                go_simp
                exact hK _ _ (RelB.refl _) rfl
              · refine opR_mk rfl fun aa W2 hB hp hq K hK => ?_
                have e58 : aa.tmps[58]?.getD undef = .int .u32 i := hq 9 _ (by kernel_rfl) rfl
                clear hp hq
                go_simp
                exact hK _ _ (RelB.refl _) (by first | rfl | exact congrArg (Value.int .u32) hwi)
              · refine opR_mk rfl fun aa W2 hB hp hq K hK => ?_
                have e54 : aa.tmps[54]?.getD undef = .slice (some ⟨G2, 0, none⟩) r.length cc := hq 5 _ (by kernel_rfl) rfl
                have e59 : aa.tmps[59]?.getD undef = .int .u32 (i - 1) := hq 10 _ (by kernel_rfl) rfl
                have hlt : i - 1 < (r.length : Int) := by omega
                have hnn : 0 ≤ i - 1 := by omega
                have htn : (i - 1).toNat = i.toNat - 1 := by omega
                clear hp hq
                go_simp
                exact hK _ _ (RelB.refl _) rfl
              · refine opR_mk rfl fun aa W2 hB hp hq K hK => ?_
                have e60 : aa.tmps[60]?.getD undef = .pointer (some ⟨G2, (i.toNat - 1) * 4, none⟩) := hq 11 _ (by kernel_rfl) rfl
                clear hp hq
                go_simp
                exact hK _ _ (RelB.refl _) rfl
              · refine opR_mk rfl fun aa W2 hB hp hq K hK => ?_
                have e61 : aa.tmps[61]?.getD undef = .pointer (some ⟨G2, (i.toNat - 1) * 4 + 2, none⟩) := hq 12 _ (by kernel_rfl) rfl
                obtain ⟨kc, g2⟩ := HKK.out W2 hB
                clear hp hq
                go_simp
                exact hK _ _ (RelB.refl _) rfl
              · refine opR_mk rfl fun aa W2 hB hp hq K hK => ?_
                have e62 : aa.tmps[62]?.getD undef = .string b := hq 13 _ (by kernel_rfl) rfl
                clear hp hq
                go_simp
                exact hK _ _ (RelB.refl _) rfl
              · refine opR_mk rfl fun aa W2 hB hp hq K hK => ?_
                have e50 : aa.tmps[50]?.getD undef = .int .i64 ((p : Int) * 64) := hq 1 _ (by kernel_rfl) rfl
                have e63 : aa.tmps[63]?.getD undef = .int .i64 (b.size : Int) := hq 14 _ (by kernel_rfl) rfl
                clear hp hq
                go_simp
                exact hK _ _ (RelB.refl _) (by first | rfl | exact congrArg Value.bool (decide_eq_true (by omega)) | simp)
            · intro vs W3 hB3 hv3 _
              have v15 : vs 15 = .bool true := hv3 15 _ rfl rfl
              have HB5 : Hid (Below w2.heap.size w2 W3) := HJ2.out.trans (Below.mono hB3 HJ2.out.size)
              have HM5 := Lib.hid (HM.out.below HB5.out)
              clear hB3 hv3
              simp only [putAll, Act.put, List.setIfInBounds_toArray, List.set_cons_succ, List.set_cons_zero, Nat.zero_add, Nat.reduceAdd, v15]
              obtain ⟨d1, d2⟩ := HD.out _ j i HB5.out HI.out
              go_wp2_with (first
                | (go_at_call 28; (with_reducible refine (C5.out i (p : Int) _ HU.out HM5.out).mono ?_); rintro e w5 ⟨rfl, hb⟩; replace HB5 := Lib.hid (HB5.out.trans (hb.mono HB5.out.size)); replace HM5 := Lib.hid (HM.out.below HB5.out); clear hb d1 d2; obtain ⟨d1, d2⟩ := HD.out _ j i HB5.out HI.out)
                | (go_at_call 62; (with_reducible refine (C6.out i (p : Int) _ HU.out HM5.out).mono ?_); rintro e w6 ⟨rfl, hb⟩; have HB6 := Lib.hid (HB5.out.trans (hb.mono HB5.out.size)); clear hb d1 d2))
              go_roundw
              case rel => exact ⟨p + 1, rfl, by omega, by omega, HB6.out⟩
              case measure => simp only [intOf]; omega
          · have hq' : ¬ ((p : Int) * 64 < (b.size : Int)) := by omega
            go_wp2
            refine wp_region_rel RelB (phi [isV (.int .i64 (p : Int)), isV (.int .i64 ((p : Int) * 64)), isV (.pointer (some ⟨P2, 0, none⟩)), isV (.pointer (some ⟨P2, 0, none⟩)), isV (.pointer (some ⟨P2, 0, none⟩)), isV (.slice (some ⟨G2, 0, none⟩) r.length cc), isV (.slice (some ⟨B2, 0, none⟩) n c2), isV (.int .i64 (j : Int)), isV (.pointer (some ⟨B2, j, none⟩)), isV (.int .u32 i), isV (.int .u32 (i - 1)), isV (.pointer (some ⟨G2, (i.toNat - 1) * 4, none⟩)), isV (.pointer (some ⟨G2, (i.toNat - 1) * 4 + 2, none⟩)), isV (.string b), isV (.int .i64 (b.size : Int)), isV (.bool false)]) (by kernel_rfl) (by kernel_rfl) (by kernel_rfl) (RelB.of (below_drew _)) (fun _ _ _ a b => a.trans b) ?_ ?_ ?_
            · refine stays_phiR ?_
              simp only [List.forall_mem_cons]
              exact ⟨fun _ _ _ h _ => h, fun _ _ _ h _ => h, fun _ _ _ h _ => h, fun _ _ _ h _ => h, fun _ _ _ h _ => h, fun _ _ _ h _ => h, fun _ _ _ h _ => h, fun _ _ _ h _ => h, fun _ _ _ h _ => h, fun _ _ _ h _ => h, fun _ _ _ h _ => h, fun _ _ _ h _ => h, fun _ _ _ h _ => h, fun _ _ _ h _ => h, fun _ _ _ h _ => h, fun _ _ _ h _ => h, fun _ h => absurd h (by simp)⟩
            · refine ⟨?_, ?_, ?_, ?_, ?_, ?_, ?_, ?_, ?_, ?_, ?_, ?_, ?_, ?_, ?_, ?_, trivial⟩
              · refine opR_mk rfl fun aa W2 hB hp hq K hK => ?_
                have e8 : aa.tmps[8]?.getD undef = .int .i64 (p : Int) := hp 8 (by kernel_rfl)
                clear hp hq
                go_simp
                exact hK _ _ (RelB.refl _) rfl
              · refine opR_mk rfl fun aa W2 hB hp hq K hK => ?_
                have e49 : aa.tmps[49]?.getD undef = .int .i64 (p : Int) := hq 0 _ (by kernel_rfl) rfl
                clear hp hq
                go_simp
                exact hK _ _ (RelB.refl _) (by first | rfl | exact congrArg (Value.int .i64) hwp)
              · refine opR_mk rfl fun aa W2 hB hp hq K hK => ?_
                have e1 : aa.tmps[1]?.getD undef = .pointer (some ⟨P2, 0, none⟩) := hp 1 (by kernel_rfl)
                clear hp hq
                go_simp
                exact hK _ _ (RelB.refl _) rfl
              · refine opR_mk rfl fun aa W2 hB hp hq K hK => ?_
                have e51 : aa.tmps[51]?.getD undef = .pointer (some ⟨P2, 0, none⟩) := hq 2 _ (by kernel_rfl) rfl
                clear hp hq
                go_simp
                exact hK _ _ (RelB.refl _) rfl
              · refine opR_mk rfl fun aa W2 hB hp hq K hK => ?_
                have e52 : aa.tmps[52]?.getD undef = .pointer (some ⟨P2, 0, none⟩) := hq 3 _ (by kernel_rfl) rfl
                clear hp hq
                go_simp
                exact hK _ _ (RelB.refl _) rfl
              · refine opR_mk rfl fun aa W2 hB hp hq K hK => ?_
                have e53 : aa.tmps[53]?.getD undef = .pointer (some ⟨P2, 0, none⟩) := hq 4 _ (by kernel_rfl) rfl
                obtain ⟨kc, g2⟩ := HKK.out W2 hB
                clear hp hq
                go_simp
                exact hK _ _ (RelB.refl _) rfl
              · refine opR_mk rfl fun aa W2 hB hp hq K hK => ?_
                have e6 : aa.tmps[6]?.getD undef = .slice (some ⟨B2, 0, none⟩) n c2 := hp 6 (by kernel_rfl)
                clear hp hq
                go_simp
                exact hK _ _ (RelB.refl _) rfl
              · refine opR_mk rfl fun aa W2 hB hp hq K hK => ?_
                have e7 : aa.tmps[7]?.getD undef = .int .i64 (j : Int) := hp 7 (by kernel_rfl)
                clear hp hq
                go_simp
                exact hK _ _ (RelB.refl _) rfl
              · refine opR_mk rfl fun aa W2 hB hp hq K hK => ?_
                have e55 : aa.tmps[55]?.getD undef = .slice (some ⟨B2, 0, none⟩) n c2 := hq 6 _ (by kernel_rfl) rfl
                have e56 : aa.tmps[56]?.getD undef = .int .i64 (j : Int) := hq 7 _ (by kernel_rfl) rfl
                clear hp hq
                go_simp
                exact hK _ _ (RelB.refl _) rfl
              · refine opR_mk rfl fun aa W2 hB hp hq K hK => ?_
                have e57 : aa.tmps[57]?.getD undef = .pointer (some ⟨B2, j, none⟩) := hq 8 _ (by kernel_rfl) rfl
                obtain ⟨_, d2⟩ := HD.out W2 j i (HJ2.out.trans (Below.mono hB HJ2.out.size)) HI.out
                clear hp hq
                go_simp
                exact hK _ _ (RelB.refl _) rfl
              · refine opR_mk rfl fun aa W2 hB hp hq K hK => ?_
                have e58 : aa.tmps[58]?.getD undef = .int .u32 i := hq 9 _ (by kernel_rfl) rfl
                clear hp hq
                go_simp
                exact hK _ _ (RelB.refl _) (by first | rfl | exact congrArg (Value.int .u32) hwi)
              · refine opR_mk rfl fun aa W2 hB hp hq K hK => ?_
                have e54 : aa.tmps[54]?.getD undef = .slice (some ⟨G2, 0, none⟩) r.length cc := hq 5 _ (by kernel_rfl) rfl
                have e59 : aa.tmps[59]?.getD undef = .int .u32 (i - 1) := hq 10 _ (by kernel_rfl) rfl
                have hlt : i - 1 < (r.length : Int) := by omega
                have hnn : 0 ≤ i - 1 := by omega
                have htn : (i - 1).toNat = i.toNat - 1 := by omega
                clear hp hq
                go_simp
                exact hK _ _ (RelB.refl _) rfl
              · refine opR_mk rfl fun aa W2 hB hp hq K hK => ?_
                have e60 : aa.tmps[60]?.getD undef = .pointer (some ⟨G2, (i.toNat - 1) * 4, none⟩) := hq 11 _ (by kernel_rfl) rfl
                clear hp hq
                go_simp
                exact hK _ _ (RelB.refl _) rfl
              · refine opR_mk rfl fun aa W2 hB hp hq K hK => ?_
                have e61 : aa.tmps[61]?.getD undef = .pointer (some ⟨G2, (i.toNat - 1) * 4 + 2, none⟩) := hq 12 _ (by kernel_rfl) rfl
                obtain ⟨kc, g2⟩ := HKK.out W2 hB
                clear hp hq
                go_simp
                exact hK _ _ (RelB.refl _) rfl
              · refine opR_mk rfl fun aa W2 hB hp hq K hK => ?_
                have e62 : aa.tmps[62]?.getD undef = .string b := hq 13 _ (by kernel_rfl) rfl
                clear hp hq
                go_simp
                exact hK _ _ (RelB.refl _) rfl
              · refine opR_mk rfl fun aa W2 hB hp hq K hK => ?_
                have e50 : aa.tmps[50]?.getD undef = .int .i64 ((p : Int) * 64) := hq 1 _ (by kernel_rfl) rfl
                have e63 : aa.tmps[63]?.getD undef = .int .i64 (b.size : Int) := hq 14 _ (by kernel_rfl) rfl
                clear hp hq
                go_simp
                exact hK _ _ (RelB.refl _) (by first | rfl | exact congrArg Value.bool (decide_eq_false (by omega)) | simp)
            · intro vs W3 hB3 hv3 _
              have v15 : vs 15 = .bool false := hv3 15 _ rfl rfl
              have HB5 : Hid (Below w2.heap.size w2 W3) := HJ2.out.trans (Below.mono hB3 HJ2.out.size)
              have HM5 := Lib.hid (HM.out.below HB5.out)
              clear hB3 hv3
              simp only [putAll, Act.put, List.setIfInBounds_toArray, List.set_cons_succ, List.set_cons_zero, Nat.zero_add, Nat.reduceAdd, v15]
              go_wp2
              go_roundw
              case rel => exact ⟨j + 1, rfl, by omega, HB5.out⟩
              case measure => simp only [intOf]; omega
end
end Go.Proofs.YtpcjbfhgmcioaaaGreat
