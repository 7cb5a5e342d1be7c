/- OplogMerges, walked. -/
import Derived.Test.YtehckjkihaalfaaGreatEV
namespace Go.Proofs.YtehckjkihaalfaaGreat
open Go.RowKit Go.Maps

set_option maxRecDepth 100000 in
set_option maxHeartbeats 16000000 in
theorem t_merges23 (A : Option Addr) (n c : Nat) (l : List St) (stamp : Int) (w : World) (hl : StepsAt w A l) (hn : l.length = n) (hnc : n ≤ c) (hn2 : n ≤ maxLen) :
    Calls Tryz.prog 4 #[.slice A n c, .int .u64 stamp] w fun e w' => e = .returned (.bool true) ∧ Below w.heap.size w w' := by
  have hnew : ∀ W, Calls Tryz.prog 12 #[.int .i64 4, .int .i64 256] W fun e w' => e = .returned (.tuple #[.pointer (some ⟨W.heap.size, 0, none⟩), .int .i64 0]) ∧ LogAt w' W.heap.size (fun _ => .slice none 0 0) (newP 4 256) ∧ Below W.heap.size W w' := fun W => t_newLog 4 256 (by omega) W
  have HSt := Lib.hid hl
  have HN := Lib.hid hn
  clear hl hn
  go_enter Tryz.func4, Tryz.ntmps4
  go_wp2_with (first
      | (go_at_call 10; (with_reducible refine (t_long23 A c n l _ HSt.out HN.out hnc hn2).mono ?_); rintro e w1 ⟨b, rfl, hlg, hb⟩; have HB := Lib.hid hb; clear hb; cases b)
      | (go_at_call 11; (with_reducible refine (t_alive23 _).mono ?_); rintro e w2 ⟨rfl, hb⟩; have HB2 := Lib.hid hb; clear hb)
      | (go_at_call 12; (with_reducible refine (hnew _).mono ?_); rintro e w2 ⟨rfl, hL, hb⟩; have HL := Lib.hid hL; have HB2 := Lib.hid hb; clear hL hb))
  · obtain ⟨P, hP⟩ : ∃ P, P = w1.heap.size := ⟨_, rfl⟩
    rw [← hP] at HL ⊢
    have hPw : w.heap.size ≤ P := by rw [hP]; exact HB.out.size
    have hn80 : n ≤ 80 := by simpa using hlg
    have HBW : Hid (Below w.heap.size w w2) := ptrans HB.out HB2.out
    have HPW := Lib.hid hPw
    clear hlg hP HB HB2 hPw
    go_loopw [7] (fun y wr => ∃ i : Nat, y = .int .i64 (i : Int) ∧ i ≤ n ∧ Hid (∃ ls x, LogAt wr P ls x ∧ LogOk x ∧ x.cores = 4 ∧ Below w.heap.size w wr)) (fun y _ => n - (intOf y).toNat)
    case atStart => exact ⟨0, rfl, Nat.zero_le _, _, _, HL.out, LogOk.new _ _, rfl, HBW.out⟩
    case round =>
      clear HBW HL
      obtain ⟨i, rfl, hi, HI⟩ := hrel
      obtain ⟨ls, x, hL, hok, hc4, hbw⟩ := HI.out
      by_cases he : i < n
      · obtain ⟨s, hs⟩ : ∃ s, l[i]? = some s := ⟨l[i]'(by rw [HN.out]; omega), List.getElem?_eq_getElem _⟩
        obtain ⟨b, o, rfl, hbl, hc⟩ := HSt.out.at_ (fun e => by rw [e] at hs; simp at hs)
        obtain ⟨a0, a1, f6, a3⟩ := hc i s hs
        have hmem := List.mem_of_getElem? hs
        have HOK := Lib.hid (HSt.out.ok s hmem)
        have HST := Lib.hid (HSt.out.st s hmem)
        have HCL := Lib.hid (And.intro hbl (And.intro a1 f6))
        have hcw : ∀ q v, w.cell? ⟨b, q, none⟩ = some v → wr.cell? ⟨b, q, none⟩ = some v := fun q v h => (World.cell?_of_block (a := ⟨b, q, none⟩) (hbw.block b hbl)).trans h
        have r0 := hcw _ _ a0
        have r14 := hcw _ _ a3
        have HX := Lib.hid hok
        have HLr := Lib.hid hL
        have HBr := Lib.hid hbw
        have HC4 := Lib.hid hc4
        clear hc hs f6 hbl a0 a1 a3 hmem hcw HI hL hok hc4 hbw
        by_cases hdo : s.act = 1
        · have hdo2 : (s.act == 1) = true := by simpa using hdo
          rw [hdo] at r0
          have hns : s.sn ≤ 9223372036854775807 := HST.out.2.2.2
          go_wp2_with (go_at_call 16; (with_reducible refine (t_takeLog P ls x _ HLr.out HX.out s.sA s.sn s.sc s.st (HST.out.1.below HBr.out) HST.out.2.1 hns (arg_apart HST.out.1 HPW.out HLr.out)).mono ?_); rintro e w3 ⟨rfl, ls3, hL3, ht⟩; have HL3 := Lib.hid hL3; have HB3 := Lib.hid (HBr.out.trans (ht.below (fun b hf => Nat.le_trans HPW.out (HLr.out.fl hf).1) HBr.out.size)); clear hL3 ht)
          go_roundw
          case rel => exact ⟨i + 1, rfl, he, ls3, _, HL3.out, HX.out.take _, HC4.out, HB3.out⟩
          case measure => simp only [intOf]; omega
        · have hdo2 : (s.act == 1) = false := by simpa using hdo
          go_upto_region 11 with fail
          refine wp_region_st (fun k W => Below w.heap.size w W ∧ (k = 0 → LogAt W P ls x) ∧ (k ≠ 0 → ∃ ls3, LogAt W P ls3 (putL x s.core s.r))) RelB (fun _ _ => True) [11] (phi [isV (.pointer (some ⟨P, 0, none⟩)), isV (.slice (some ⟨b, o, none⟩) n c), isV (.int .i64 (i : Int)), isV (.pointer (some ⟨b, o + i * 15, none⟩)), isV (.pointer (some ⟨b, o + i * 15 + 1, none⟩)), isV (.int .i64 s.core), isV (.slice (some ⟨b, o, none⟩) n c), isV (.int .i64 (i : Int)), isV (.pointer (some ⟨b, o + i * 15, none⟩)), isV (.pointer (some ⟨b, o + i * 15 + 2, none⟩)), isV (s.r.val), isV (.int .i64 (putE x s.core s.r))]) (by kernel_rfl) (by kernel_rfl) (by kernel_rfl) (by kernel_rfl) (by kernel_rfl) ⟨HBr.out.trans (Below.mono (below_drew _) HBr.out.size), fun _ => HLr.out.below (below_drew _), fun h => absurd rfl h⟩ (fun k W W' hj hb => ⟨hj.1.trans (Below.mono hb hj.1.size), fun h => (hj.2.1 h).below hb, fun h => by obtain ⟨ls3, h1⟩ := hj.2.2 h; exact ⟨ls3, h1.below hb⟩⟩) (fun _ _ _ => trivial) ?_ ?_ ?_
          · refine stays_phiR ?_
            simp only [List.forall_mem_cons]
            exact ⟨fun _ _ _ h _ => h, fun _ _ _ h _ => h, fun _ _ _ h _ => h, fun _ _ _ h _ => h, fun _ _ _ h _ => h, fun _ _ _ h _ => h, fun _ _ _ h _ => h, fun _ _ _ h _ => h, fun _ _ _ h _ => h, fun _ _ _ h _ => h, fun _ _ _ h _ => h, fun _ _ _ h _ => h, fun _ h => absurd h (by simp)⟩
          · refine ⟨?_, ?_, ?_, ?_, ?_, ?_, ?_, ?_, ?_, ?_, ?_, ?_, trivial⟩
            · refine opS_mk rfl rfl fun aa W2 nJ hJ hp hq K hK => ?_
              have e5 : aa.tmps[5]?.getD undef = .pointer (some ⟨P, 0, none⟩) := hp 5 (by kernel_rfl)
              clear hp hq
              clear hJ
              go_simp
              exact hK _ _ (RelB.refl _) rfl
            · refine opS_mk rfl rfl fun aa W2 nJ hJ hp hq K hK => ?_
              have e0 : aa.tmps[0]?.getD undef = .slice (some ⟨b, o, none⟩) n c := hp 0 (by kernel_rfl)
              clear hp hq
              clear hJ
              go_simp
              exact hK _ _ (RelB.refl _) rfl
            · refine opS_mk rfl rfl fun aa W2 nJ hJ hp hq K hK => ?_
              have e7 : aa.tmps[7]?.getD undef = .int .i64 (i : Int) := hp 7 (by kernel_rfl)
              clear hp hq
              clear hJ
              go_simp
              exact hK _ _ (RelB.refl _) rfl
            · refine opS_mk rfl rfl fun aa W2 nJ hJ hp hq K hK => ?_
              have e48 : aa.tmps[48]?.getD undef = .slice (some ⟨b, o, none⟩) n c := hq 1 _ (by kernel_rfl) rfl
              have e49 : aa.tmps[49]?.getD undef = .int .i64 (i : Int) := hq 2 _ (by kernel_rfl) rfl
              clear hp hq
              clear hJ
              go_simp
              exact hK _ _ (RelB.refl _) rfl
            · refine opS_mk rfl rfl fun aa W2 nJ hJ hp hq K hK => ?_
              have e50 : aa.tmps[50]?.getD undef = .pointer (some ⟨b, o + i * 15, none⟩) := hq 3 _ (by kernel_rfl) rfl
              clear hp hq
              clear hJ
              go_simp
              exact hK _ _ (RelB.refl _) rfl
            · refine opS_mk rfl rfl fun aa W2 nJ hJ hp hq K hK => ?_
              have e51 : aa.tmps[51]?.getD undef = .pointer (some ⟨b, o + i * 15 + 1, none⟩) := hq 4 _ (by kernel_rfl) rfl
              have hcw : ∀ q v, w.cell? ⟨b, q, none⟩ = some v → W2.cell? ⟨b, q, none⟩ = some v := fun q v h => (World.cell?_of_block (a := ⟨b, q, none⟩) (hJ.1.block b HCL.out.1)).trans h
              have cc := hcw _ _ HCL.out.2.1
              clear hp hq
              clear hJ
              go_simp
              exact hK _ _ (RelB.refl _) rfl
            · refine opS_mk rfl rfl fun aa W2 nJ hJ hp hq K hK => ?_
              have e0 : aa.tmps[0]?.getD undef = .slice (some ⟨b, o, none⟩) n c := hp 0 (by kernel_rfl)
              clear hp hq
              clear hJ
              go_simp
              exact hK _ _ (RelB.refl _) rfl
            · refine opS_mk rfl rfl fun aa W2 nJ hJ hp hq K hK => ?_
              have e7 : aa.tmps[7]?.getD undef = .int .i64 (i : Int) := hp 7 (by kernel_rfl)
              clear hp hq
              clear hJ
              go_simp
              exact hK _ _ (RelB.refl _) rfl
            · refine opS_mk rfl rfl fun aa W2 nJ hJ hp hq K hK => ?_
              have e53 : aa.tmps[53]?.getD undef = .slice (some ⟨b, o, none⟩) n c := hq 6 _ (by kernel_rfl) rfl
              have e54 : aa.tmps[54]?.getD undef = .int .i64 (i : Int) := hq 7 _ (by kernel_rfl) rfl
              clear hp hq
              clear hJ
              go_simp
              exact hK _ _ (RelB.refl _) rfl
            · refine opS_mk rfl rfl fun aa W2 nJ hJ hp hq K hK => ?_
              have e55 : aa.tmps[55]?.getD undef = .pointer (some ⟨b, o + i * 15, none⟩) := hq 8 _ (by kernel_rfl) rfl
              clear hp hq
              clear hJ
              go_simp
              exact hK _ _ (RelB.refl _) rfl
            · refine opS_mk rfl rfl fun aa W2 nJ hJ hp hq K hK => ?_
              have e56 : aa.tmps[56]?.getD undef = .pointer (some ⟨b, o + i * 15 + 2, none⟩) := hq 9 _ (by kernel_rfl) rfl
              have hcw : ∀ q v, w.cell? ⟨b, q, none⟩ = some v → W2.cell? ⟨b, q, none⟩ = some v := fun q v h => (World.cell?_of_block (a := ⟨b, q, none⟩) (hJ.1.block b HCL.out.1)).trans h
              have r0 := hcw _ _ (HCL.out.2.2 0 _ rfl)
              have r1 := hcw _ _ (HCL.out.2.2 1 _ rfl)
              have r2 := hcw _ _ (HCL.out.2.2 2 _ rfl)
              have r3 := hcw _ _ (HCL.out.2.2 3 _ rfl)
              have r4 := hcw _ _ (HCL.out.2.2 4 _ rfl)
              have r5 := hcw _ _ (HCL.out.2.2 5 _ rfl)
              have r6 := hcw _ _ (HCL.out.2.2 6 _ rfl)
              have r7 := hcw _ _ (HCL.out.2.2 7 _ rfl)
              have r8 := hcw _ _ (HCL.out.2.2 8 _ rfl)
              have r9 := hcw _ _ (HCL.out.2.2 9 _ rfl)
              have r10 := hcw _ _ (HCL.out.2.2 10 _ rfl)
              have r11 := hcw _ _ (HCL.out.2.2 11 _ rfl)
              simp only [Nat.reduceAdd] at r0 r1 r2 r3 r4 r5 r6 r7 r8 r9 r10 r11
              clear hp hq
              clear hJ
              go_simp
              exact hK _ _ (RelB.refl _) rfl
            · refine opS_at (m := 0) rfl rfl fun aa W2 hJ hp hq K hK => ?_
              have e47 : aa.tmps[47]?.getD undef = .pointer (some ⟨P, 0, none⟩) := hq 0 _ (by kernel_rfl) rfl
              have e52 : aa.tmps[52]?.getD undef = .int .i64 s.core := hq 5 _ (by kernel_rfl) rfl
              have e57 : aa.tmps[57]?.getD undef = s.r.val := hq 10 _ (by kernel_rfl) rfl
              have HJ := Lib.hid hJ
              unfold R.val at e57
              clear hJ
              clear hp hq
              go_simp
              refine (t_putLog P ls x s.core s.r W2 (HJ.out.2.1 rfl) HOK.out).mono ?_
              rintro e w3 ⟨rfl, ls3, hL3, ht, _⟩
              exact hK _ _ trivial ⟨HJ.out.1.trans (ht.below (fun b hf => Nat.le_trans HPW.out ((HJ.out.2.1 rfl).fl hf).1) HJ.out.1.size), fun h => absurd h (by decide), fun _ => ⟨ls3, hL3⟩⟩ rfl
          · intro vs W9 hJ9 hv9 _
            obtain ⟨ls3, hL3⟩ := hJ9.2.2 (by decide)
            have HL3 := Lib.hid hL3
            have HB3 := Lib.hid hJ9.1
            have v11 : vs 11 = .int .i64 (putE x s.core s.r) := hv9 11 _ rfl rfl
            clear hJ9 hv9 hL3
            simp only [List.take_succ_cons, List.take_zero, putAll, Act.put, List.setIfInBounds_toArray, List.set_cons_succ, List.set_cons_zero, Nat.zero_add, Nat.reduceAdd, v11]
            go_wp2
            go_roundw
            case rel => exact ⟨i + 1, rfl, he, ls3, _, HL3.out, HX.out.put HLr.out.cores8.2 _ _, (putL_cores _ _ _).trans HC4.out, HB3.out⟩
            case measure => simp only [intOf]; omega
      · obtain rfl : n = i := by omega
        have HX := Lib.hid hok
        have HLr := Lib.hid hL
        have HBr := Lib.hid hbw
        have HC4 := Lib.hid hc4
        clear HI hL hok hbw hc4 he hi
        have hsz4 : 0 < 1 := Nat.zero_lt_one
        go_wp2_with (first
          | (go_at_call 14; (with_reducible refine (t_merge P ls x _ HLr.out HX.out).mono ?_); rintro e w4 ⟨A4, c4, done, rfl, hm, ho, hb⟩; have HM := Lib.hid hm; have HO := Lib.hid ho; have HB4 := Lib.hid hb; clear hm ho hb)
          | (go_at_call 18; (with_reducible refine (t_uptoLog P ls x stamp _ (HLr.out.below HB4.out) HX.out).mono ?_); rintro e w5 ⟨A5, m5, c5, done5, rfl, hm5, hu5, ho5, hb5⟩; have HM5 := Lib.hid hm5; have HU5 := Lib.hid hu5; have HO5 := Lib.hid ho5; have HB5 := Lib.hid hb5; clear hm5 hu5 ho5 hb5))
        obtain rfl : done5 = done := HM5.out.unique HM.out
        have hN2 := valid_len HLr.out.cores8.2 HLr.out.len HM.out.sort (fun a ha => (HM.out.mem a).1 ha)
        have hcnt := HM.out.tags.len HX.out HLr.out.cores8.2
        rw [List.length_map, HC4.out] at hcnt
        obtain ⟨N, hNd⟩ : ∃ N, N = done5.length := ⟨_, rfl⟩
        rw [← hNd] at HO hN2 hcnt ⊢
        obtain ⟨L, hLd⟩ : ∃ L, L = done5.map (recAt x) := ⟨_, rfl⟩
        have hmk := merged_ok HLr.out HM.out
        have hins := fun k (hk : k < 4) => row_inside HX.out HM.out (c := k) (by rw [HC4.out]; exact hk) (by omega)
        have hle := fun (i j : Nat) (hij : i ≤ j) (hj : j < done5.length) => merged_le HM.out hij hj
        rw [← hNd] at hle
        rw [← hLd] at HO HU5 HO5 hmk hins hle
        have hNL : L.length = N := by rw [hLd, List.length_map, hNd]
        have hm5 : m5 ≤ N := by rw [← hNL]; exact HU5.out.1
        have HNL := Lib.hid hNL
        have HINS := Lib.hid hins
        have HLE := Lib.hid hle
        have HCNT := Lib.hid hcnt
        have HR4 := Lib.hid ((recs_of_row HO.out hNL hmk).below HB5.out)
        have hm5l : (L.take m5).length = m5 := by rw [List.length_take]; omega
        have HM5L := Lib.hid hm5l
        have HR5 := Lib.hid (recs_of_row HO5.out hm5l (fun r hr => hmk r (List.mem_of_mem_take hr)))
        have HL5 := Lib.hid ((HLr.out.below HB4.out).below HB5.out)
        have HBw5 : Hid (Below w.heap.size w w5) := by
          have h1 := HBr.out.trans (HB4.out.mono HBr.out.size)
          exact h1.trans (HB5.out.mono h1.size)
        have hlen4 : ∀ k, k ≤ 4 → lenN x k ≤ 1024 := fun k hk => by have := lenN_le HL5.out.len k (by omega); omega
        have hA4 : (A4 = none ∧ N = 0 ∧ c4 = 0) ∨ ∃ g, A4 = some ⟨g, 0, none⟩ ∧ N ≤ c4 := by
          rcases HO.out.2 with ⟨h', h0⟩ | ⟨g, cap, cur, h', _⟩
          · simp only [Value.slice.injEq] at h'
            exact .inl ⟨h'.1, h'.2.1, h'.2.2⟩
          · simp only [Value.slice.injEq] at h'
            exact .inr ⟨g, h'.1, row_cap HO.out⟩
        have HA4 := Lib.hid hA4
        clear hA4 hNd hLd hmk hins hle hcnt hNL hm5l HM HO HB4 HM5 HO5 HB5 HLr HBr
        go_loopw [10, 11] (fun v y wr => ∃ k : Nat, v = .int .i64 (lenN x k : Nat) ∧ y = .int .i64 (k : Int) ∧ k ≤ 4 ∧ Hid (Below w5.heap.size w5 wr)) (fun _ y _ => 4 - (intOf y).toNat)
        case atStart => exact ⟨0, rfl, rfl, Nat.zero_le _, Below.refl _ _⟩
        case round =>
          obtain ⟨k, rfl, rfl, hk, HI⟩ := hrel
          by_cases hk4 : k < 4
          · have hlist := t_listLog P ls x k wr (HL5.out.below HI.out) (by rw [HC4.out]; exact hk4)
            obtain ⟨n6, hn6⟩ : ∃ n6, n6 = (x.rows k).length := ⟨_, rfl⟩
            have h6 : n6 ≤ 256 := by rw [hn6]; exact HL5.out.len k (by omega)
            obtain ⟨lr, hlr⟩ : ∃ lr, lr = x.rows k := ⟨_, rfl⟩
            have hsub := HINS.out k hk4
            have hrok := HL5.out.ok k (by omega)
            have hris := HX.out.rising k (by omega)
            rw [← hn6, ← hlr] at hlist
            rw [← hlr] at hsub hrok hris
            have HSUB := Lib.hid hsub
            have HROK := Lib.hid hrok
            have HRIS := Lib.hid hris
            have HN6 : Hid (lr.length = n6) := by show _ = _; rw [hlr, hn6]
            have HLS := Lib.hid hlist
            have HSUC : Hid (lenN x (k + 1) = lenN x k + n6) := by show _ + _ = _; rw [hn6]
            have ht := hlen4 k hk
            obtain ⟨t, htt⟩ : ∃ t, t = lenN x k := ⟨_, rfl⟩
            rw [← htt] at ht HSUC ⊢
            have HRw := Lib.hid (HR4.out.below HI.out)
            clear hlist hn6 hlr hsub hrok hris htt hlen4
            go_wp2_with (first
              | (go_at_call 19; (with_reducible refine HLS.out.mono ?_); rintro e w6 ⟨A6, c6, rfl, ho, hb⟩; have HR6 := Lib.hid (recs_of_row ho HN6.out HROK.out); have HRa := Lib.hid (HRw.out.below hb); have HB6 := Lib.hid (HI.out.trans (hb.mono HI.out.size)); clear ho hb)
              | (go_at_call 20; (with_reducible refine (t_inside A6 A4 n6 N c6 c4 lr L HSUB.out _ HR6.out HN6.out (by omega) HRa.out HNL.out (by omega)).mono ?_); rintro e w7 ⟨rfl, hb⟩; have HR7 := Lib.hid (HR6.out.below hb); have HB7 := Lib.hid (HB6.out.trans (hb.mono HB6.out.size)); clear hb))
            go_loopw [13] (fun y W => ∃ j : Nat, y = .int .i64 ((j : Int) + 1) ∧ (j = 0 ∨ j + 1 ≤ n6) ∧ Hid (Below w7.heap.size w7 W)) (fun y _ => n6 - (intOf y).toNat)
            case atStart => exact ⟨0, rfl, .inl rfl, Below.refl _ _⟩
            case round =>
              obtain ⟨j, rfl, hj, HJ⟩ := hrel
              by_cases hj6 : j + 1 < n6
              · have hj6' : (j : Int) + 1 < (n6 : Int) := by omega
                have hx := rAt_get2 (l := lr) (k := j) (by rw [HN6.out]; omega)
                have hy := rAt_get2 (l := lr) (k := j + 1) (by rw [HN6.out]; omega)
                have hlt := rising_at HRIS.out (Nat.lt_succ_self j) (by rw [HN6.out]; exact hj6)
                obtain ⟨u, hu⟩ : ∃ u, u = rAt lr j := ⟨_, rfl⟩
                obtain ⟨v, hv⟩ : ∃ v, v = rAt lr (j + 1) := ⟨_, rfl⟩
                rw [← hu] at hx
                rw [← hv] at hy
                rw [← hu, ← hv] at hlt
                obtain ⟨b, o, rfl, hbl, hc⟩ := (HR7.out.below HJ.out).at_ (fun e => by rw [e] at hx; simp at hx)
                have c0 := hc j u hx 0 _ rfl
                have d0 := hc (j + 1) v hy 0 _ rfl
                rw [Nat.add_zero] at c0 d0
                have hnle : ¬ (v.stamp ≤ u.stamp) := by omega
                have hnle2 : decide (v.stamp ≤ u.stamp) = false := decide_eq_false hnle
                clear hx hy hu hv hc hbl hlt
                go_wp2
                go_quiet (fail)
                generalize hw2 : World.drewN _ _ = w8
                have HB8 : Hid (Below w7.heap.size w7 w8) := by rw [← hw2]; exact pbelow_drewN HJ.out _
                clear hw2
                go_wp2
                go_roundw
                case rel => exact ⟨j + 1, by simp, .inr hj6, HB8⟩
                case measure => simp only [intOf]; omega
              · have hj6' : ¬ ((j : Int) + 1 < (n6 : Int)) := by omega
                go_wp2
                go_roundw
                case rel => exact ⟨k + 1, by rw [HSUC.out]; congr 1, rfl, hk4, HB7.out.trans (HJ.out.mono HB7.out.size)⟩
                case measure => simp only [intOf]; omega
          · obtain rfl : k = 4 := by omega
            have hcn : lenN x 4 = N := HCNT.out.symm
            rw [hcn]
            have HRw := Lib.hid (HR4.out.below HI.out)
            have HFw := Lib.hid (HR5.out.below HI.out)
            have HBw := Lib.hid (HBw5.out.trans (HI.out.mono HBw5.out.size))
            have HLw := Lib.hid (HL5.out.below HI.out)
            have hm5i : (m5 : Int) ≤ (N : Int) := by omega
            have hm56 : m5 ≤ 60000 := by omega
            clear HINS hlen4 HI
            rcases HA4.out with ⟨rfl, rfl, rfl⟩ | ⟨g, rfl, hNc⟩
            · obtain rfl : m5 = 0 := by omega
              have hL0 : (L.take 0).length = 0 := rfl
              go_wp2_with (first
                | (go_at_call 21; (with_reducible refine (t_lenLog P ls x _ HLw.out).mono ?_); rintro e w6 ⟨rfl, rfl⟩; rw [HC4.out, hcn])
                | (go_at_call 17; (with_reducible refine (t_same A5 none 0 0 c5 0 (L.take 0) (L.take 0) true (by simp) _ HFw.out hL0 (Nat.zero_le _) (recs_take HRw.out 0) hL0 (Nat.zero_le _)).mono ?_); rintro e w7 ⟨rfl, hb⟩; have HB7 := Lib.hid (HBw.out.trans (hb.mono HBw.out.size)); clear hb))
              go_loopw [14] (fun y W => y = .int .i64 0 ∧ Hid (Below w7.heap.size w7 W)) (fun _ _ => 0)
              case atStart => exact ⟨rfl, Below.refl _ _⟩
              case round =>
                obtain ⟨rfl, HJ⟩ := hrel
                go_wp2_with (go_at_call 11; (with_reducible refine (t_alive23 _).mono ?_); rintro e w9 ⟨rfl, hb⟩; have HB9 := Lib.hid (HB7.out.trans ((HJ.out.trans (hb.mono HJ.out.size)).mono HB7.out.size)); clear hb)
                go_ret
                exact ⟨rfl, HB9.out⟩
            · have hmc : (m5 : Int) ≤ (c4 : Int) := by omega
              go_wp2_with (first
                | (go_at_call 21; (with_reducible refine (t_lenLog P ls x _ HLw.out).mono ?_); rintro e w6 ⟨rfl, rfl⟩; rw [HC4.out, hcn])
                | (go_at_call 17; (with_reducible refine (t_same A5 _ m5 m5 c5 c4 (L.take m5) (L.take m5) true (by simp) _ HFw.out HM5L.out hm56 (recs_take HRw.out m5) HM5L.out hm56).mono ?_); rintro e w7 ⟨rfl, hb⟩; have HB7 := Lib.hid (HBw.out.trans (hb.mono HBw.out.size)); have HR7 := Lib.hid (HRw.out.below hb); clear hb))
              go_loopw [14] (fun y W => ∃ i : Nat, y = .int .i64 (i : Int) ∧ i ≤ N ∧ Hid (Below w7.heap.size w7 W)) (fun y _ => N - (intOf y).toNat)
              case atStart => exact ⟨0, rfl, Nat.zero_le _, Below.refl _ _⟩
              case round =>
                obtain ⟨i, rfl, hi, HJ⟩ := hrel
                by_cases he : i < N
                · have he' : (i : Int) < (N : Int) := by omega
                  have hx := rAt_get2 (l := L) (k := i) (by rw [HNL.out]; exact he)
                  have hup := HU5.out.2 i (by rw [HNL.out]; exact he)
                  have hle := HLE.out (i - 1) i (by omega) he
                  obtain ⟨r, hr⟩ : ∃ r, r = rAt L i := ⟨_, rfl⟩
                  rw [← hr] at hx hup hle
                  have hRJ := HR7.out.below HJ.out
                  obtain ⟨b, o, hA, hbl, hc⟩ := hRJ.at_ (fun e => by rw [e] at hx; simp at hx)
                  obtain ⟨rfl, rfl⟩ : b = g ∧ o = 0 := by simpa using hA.symm
                  have hc0 := hc i r hx 0 _ rfl
                  have hdec : decide (r.stamp ≤ stamp) = decide (i < m5) := by
                    by_cases h : i < m5
                    · rw [decide_eq_true (hup.2 h), decide_eq_true h]
                    · rw [decide_eq_false (fun h2 => h (hup.1 h2)), decide_eq_false h]
                  rw [Nat.zero_add, Nat.add_zero] at hc0
                  have hm5' : (m5 : Int) ≤ (N : Int) := hm5i
                  have HBL := Lib.hid hbl
                  clear hx hup hr hA hbl hRJ
                  by_cases h0 : i = 0
                  · have HZ : Hid (decide (0 < i) = false) := decide_eq_false (by omega)
                    clear hc hle h0
                    go_upto_region 31 with fail
                    refine wp_region_rel RelB (phi [isV (.int .i64 (i : Int)), isV (.bool false), isV (.bool false), (fun _ _ => True), (fun _ _ => True), (fun _ _ => True), (fun _ _ => True), (fun _ _ => True), (fun _ _ => True), (fun _ _ => True), (fun _ _ => True), (fun _ _ => True), (fun _ _ => True), (fun _ _ => True), (fun _ _ => True), isV (.bool false), isV (.bool false), isV (.slice (some ⟨b, 0, none⟩) N c4), isV (.int .i64 (i : Int)), isV (.pointer (some ⟨b, i * 12, none⟩)), isV (.pointer (some ⟨b, i * 12, none⟩)), isV (.int .u64 r.stamp), isV (.int .u64 stamp), isV (.bool (decide (i < m5))), isV (.int .i64 (i : Int)), isV (.slice A5 m5 c5), isV (.int .i64 (m5 : Int)), isV (.bool (decide (i < m5))), isV (.bool false), isV (.bool false)]) (by kernel_rfl) (by kernel_rfl) (by kernel_rfl) (RelB.of (below_drew _)) (fun _ _ _ a b => a.trans b) ?_ ?_ ?_
                    · refine stays_phiR ?_
                      simp only [List.forall_mem_cons]
                      exact ⟨fun _ _ _ h _ => h, fun _ _ _ h _ => h, fun _ _ _ h _ => h, fun _ _ _ _ _ => trivial, fun _ _ _ _ _ => trivial, fun _ _ _ _ _ => trivial, fun _ _ _ _ _ => trivial, fun _ _ _ _ _ => trivial, fun _ _ _ _ _ => trivial, fun _ _ _ _ _ => trivial, fun _ _ _ _ _ => trivial, fun _ _ _ _ _ => trivial, fun _ _ _ _ _ => trivial, fun _ _ _ _ _ => trivial, fun _ _ _ _ _ => trivial, fun _ _ _ h _ => h, fun _ _ _ h _ => h, fun _ _ _ h _ => h, fun _ _ _ h _ => h, fun _ _ _ h _ => h, fun _ _ _ h _ => h, fun _ _ _ h _ => h, fun _ _ _ h _ => h, fun _ _ _ h _ => h, fun _ _ _ h _ => h, fun _ _ _ h _ => h, fun _ _ _ h _ => h, fun _ _ _ h _ => h, fun _ _ _ h _ => h, fun _ _ _ h _ => h, fun _ h => absurd h (by simp)⟩
                    · refine ⟨?_, ?_, ?_, ?_, ?_, ?_, ?_, ?_, ?_, ?_, ?_, ?_, ?_, ?_, ?_, ?_, ?_, ?_, ?_, ?_, ?_, ?_, ?_, ?_, ?_, ?_, ?_, ?_, ?_, ?_, trivial⟩
                      · refine opR_mk rfl fun aa W2 hB hp hq K hK => ?_
                        have e14 : aa.tmps[14]?.getD undef = .int .i64 (i : Int) := hp 14 (by kernel_rfl)
                        clear hp hq
                        go_simp
                        exact hK _ _ (RelB.refl _) rfl
                      · refine opR_mk rfl fun aa W2 hB hp hq K hK => ?_
                        have e129 : aa.tmps[129]?.getD undef = .int .i64 (i : Int) := hq 0 _ (by kernel_rfl) rfl
                        clear hp hq
                        go_simp
                        exact hK _ _ (RelB.refl _) (congrArg Value.bool HZ.out)
                      · refine opR_mk rfl fun aa W2 hB hp hq K hK => ?_
                        have e130 : aa.tmps[130]?.getD undef = .bool false := hq 1 _ (by kernel_rfl) rfl
                        clear hp hq
                        go_simp
                        exact hK _ _ (RelB.refl _) rfl
                      · exact opR_guard (j := 2) (d := 131) (c := false) rfl rfl (by kernel_rfl) rfl rfl (fun v W h => h) (fun _ => RelB.refl _) (fun _ _ => trivial) (fun hc => absurd hc (by decide))
                      · exact opR_guard (j := 2) (d := 131) (c := false) rfl rfl (by kernel_rfl) rfl rfl (fun v W h => h) (fun _ => RelB.refl _) (fun _ _ => trivial) (fun hc => absurd hc (by decide))
                      · exact opR_guard (j := 2) (d := 131) (c := false) rfl rfl (by kernel_rfl) rfl rfl (fun v W h => h) (fun _ => RelB.refl _) (fun _ _ => trivial) (fun hc => absurd hc (by decide))
                      · exact opR_guard (j := 2) (d := 131) (c := false) rfl rfl (by kernel_rfl) rfl rfl (fun v W h => h) (fun _ => RelB.refl _) (fun _ _ => trivial) (fun hc => absurd hc (by decide))
                      · exact opR_guard (j := 2) (d := 131) (c := false) rfl rfl (by kernel_rfl) rfl rfl (fun v W h => h) (fun _ => RelB.refl _) (fun _ _ => trivial) (fun hc => absurd hc (by decide))
                      · exact opR_guard (j := 2) (d := 131) (c := false) rfl rfl (by kernel_rfl) rfl rfl (fun v W h => h) (fun _ => RelB.refl _) (fun _ _ => trivial) (fun hc => absurd hc (by decide))
                      · exact opR_guard (j := 2) (d := 131) (c := false) rfl rfl (by kernel_rfl) rfl rfl (fun v W h => h) (fun _ => RelB.refl _) (fun _ _ => trivial) (fun hc => absurd hc (by decide))
                      · exact opR_guard (j := 2) (d := 131) (c := false) rfl rfl (by kernel_rfl) rfl rfl (fun v W h => h) (fun _ => RelB.refl _) (fun _ _ => trivial) (fun hc => absurd hc (by decide))
                      · exact opR_guard (j := 2) (d := 131) (c := false) rfl rfl (by kernel_rfl) rfl rfl (fun v W h => h) (fun _ => RelB.refl _) (fun _ _ => trivial) (fun hc => absurd hc (by decide))
                      · exact opR_guard (j := 2) (d := 131) (c := false) rfl rfl (by kernel_rfl) rfl rfl (fun v W h => h) (fun _ => RelB.refl _) (fun _ _ => trivial) (fun hc => absurd hc (by decide))
                      · exact opR_guard (j := 2) (d := 131) (c := false) rfl rfl (by kernel_rfl) rfl rfl (fun v W h => h) (fun _ => RelB.refl _) (fun _ _ => trivial) (fun hc => absurd hc (by decide))
                      · exact opR_guard (j := 2) (d := 131) (c := false) rfl rfl (by kernel_rfl) rfl rfl (fun v W h => h) (fun _ => RelB.refl _) (fun _ _ => trivial) (fun hc => absurd hc (by decide))
                      · refine opR_mk rfl fun aa W2 hB hp hq K hK => ?_
                        have e131 : aa.tmps[131]?.getD undef = .bool false := hq 2 _ (by kernel_rfl) rfl
                        clear hp hq
                        go_simp
                        exact hK _ _ (RelB.refl _) rfl
                      · refine opR_mk rfl fun aa W2 hB hp hq K hK => ?_
                        have e144 : aa.tmps[144]?.getD undef = .bool false := hq 15 _ (by kernel_rfl) rfl
                        clear hp hq
                        go_simp
                        exact hK _ _ (RelB.refl _) rfl
                      · refine opR_guard (j := 16) (d := 145) (c := false) rfl rfl (by kernel_rfl) rfl rfl (fun v W h => h) (fun _ => RelB.refl _) (fun hne => absurd rfl hne) fun hc aa W2 hB hp hq K hK => ?_
                        have e8 : aa.tmps[8]?.getD undef = .slice (some ⟨b, 0, none⟩) N c4 := hp 8 (by kernel_rfl)
                        clear hp hq
                        go_simp
                        exact hK _ _ (RelB.refl _) rfl
                      · refine opR_guard (j := 16) (d := 145) (c := false) rfl rfl (by kernel_rfl) rfl rfl (fun v W h => h) (fun _ => RelB.refl _) (fun hne => absurd rfl hne) fun hc aa W2 hB hp hq K hK => ?_
                        have e14 : aa.tmps[14]?.getD undef = .int .i64 (i : Int) := hp 14 (by kernel_rfl)
                        clear hp hq
                        go_simp
                        exact hK _ _ (RelB.refl _) rfl
                      · refine opR_guard (j := 16) (d := 145) (c := false) rfl rfl (by kernel_rfl) rfl rfl (fun v W h => h) (fun _ => RelB.refl _) (fun hne => absurd rfl hne) fun hc aa W2 hB hp hq K hK => ?_
                        have e146 : aa.tmps[146]?.getD undef = .slice (some ⟨b, 0, none⟩) N c4 := hq 17 _ (by kernel_rfl) rfl
                        have e147 : aa.tmps[147]?.getD undef = .int .i64 (i : Int) := hq 18 _ (by kernel_rfl) rfl
                        clear hp hq
                        go_simp
                        exact hK _ _ (RelB.refl _) rfl
                      · refine opR_guard (j := 16) (d := 145) (c := false) rfl rfl (by kernel_rfl) rfl rfl (fun v W h => h) (fun _ => RelB.refl _) (fun hne => absurd rfl hne) fun hc aa W2 hB hp hq K hK => ?_
                        have e148 : aa.tmps[148]?.getD undef = .pointer (some ⟨b, i * 12, none⟩) := hq 19 _ (by kernel_rfl) rfl
                        clear hp hq
                        go_simp
                        exact hK _ _ (RelB.refl _) rfl
                      · refine opR_guard (j := 16) (d := 145) (c := false) rfl rfl (by kernel_rfl) rfl rfl (fun v W h => h) (fun _ => RelB.refl _) (fun hne => absurd rfl hne) fun hc aa W2 hB hp hq K hK => ?_
                        have e149 : aa.tmps[149]?.getD undef = .pointer (some ⟨b, i * 12, none⟩) := hq 20 _ (by kernel_rfl) rfl
                        have cc := (cell_old hB HBL.out).trans hc0
                        clear hp hq
                        go_simp
                        exact hK _ _ (RelB.refl _) rfl
                      · refine opR_guard (j := 16) (d := 145) (c := false) rfl rfl (by kernel_rfl) rfl rfl (fun v W h => h) (fun _ => RelB.refl _) (fun hne => absurd rfl hne) fun hc aa W2 hB hp hq K hK => ?_
                        have e1 : aa.tmps[1]?.getD undef = .int .u64 stamp := hp 1 (by kernel_rfl)
                        clear hp hq
                        go_simp
                        exact hK _ _ (RelB.refl _) rfl
                      · refine opR_guard (j := 16) (d := 145) (c := false) rfl rfl (by kernel_rfl) rfl rfl (fun v W h => h) (fun _ => RelB.refl _) (fun hne => absurd rfl hne) fun hc aa W2 hB hp hq K hK => ?_
                        have e150 : aa.tmps[150]?.getD undef = .int .u64 r.stamp := hq 21 _ (by kernel_rfl) rfl
                        have e151 : aa.tmps[151]?.getD undef = .int .u64 stamp := hq 22 _ (by kernel_rfl) rfl
                        clear hp hq
                        go_simp
                        exact hK _ _ (RelB.refl _) (by show Value.bool _ = Value.bool _; first | rfl | exact congrArg Value.bool (decide_eq_decide.2 (by omega)) | exact congrArg Value.bool (by simp))
                      · refine opR_guard (j := 16) (d := 145) (c := false) rfl rfl (by kernel_rfl) rfl rfl (fun v W h => h) (fun _ => RelB.refl _) (fun hne => absurd rfl hne) fun hc aa W2 hB hp hq K hK => ?_
                        have e14 : aa.tmps[14]?.getD undef = .int .i64 (i : Int) := hp 14 (by kernel_rfl)
                        clear hp hq
                        go_simp
                        exact hK _ _ (RelB.refl _) rfl
                      · refine opR_guard (j := 16) (d := 145) (c := false) rfl rfl (by kernel_rfl) rfl rfl (fun v W h => h) (fun _ => RelB.refl _) (fun hne => absurd rfl hne) fun hc aa W2 hB hp hq K hK => ?_
                        have e9 : aa.tmps[9]?.getD undef = .slice A5 m5 c5 := hp 9 (by kernel_rfl)
                        clear hp hq
                        go_simp
                        exact hK _ _ (RelB.refl _) rfl
                      · refine opR_guard (j := 16) (d := 145) (c := false) rfl rfl (by kernel_rfl) rfl rfl (fun v W h => h) (fun _ => RelB.refl _) (fun hne => absurd rfl hne) fun hc aa W2 hB hp hq K hK => ?_
                        have e154 : aa.tmps[154]?.getD undef = .slice A5 m5 c5 := hq 25 _ (by kernel_rfl) rfl
                        clear hp hq
                        go_simp
                        exact hK _ _ (RelB.refl _) rfl
                      · refine opR_guard (j := 16) (d := 145) (c := false) rfl rfl (by kernel_rfl) rfl rfl (fun v W h => h) (fun _ => RelB.refl _) (fun hne => absurd rfl hne) fun hc aa W2 hB hp hq K hK => ?_
                        have e153 : aa.tmps[153]?.getD undef = .int .i64 (i : Int) := hq 24 _ (by kernel_rfl) rfl
                        have e155 : aa.tmps[155]?.getD undef = .int .i64 (m5 : Int) := hq 26 _ (by kernel_rfl) rfl
                        clear hp hq
                        go_simp
                        exact hK _ _ (RelB.refl _) (by show Value.bool _ = Value.bool _; first | rfl | exact congrArg Value.bool (decide_eq_decide.2 (by omega)) | exact congrArg Value.bool (by simp))
                      · refine opR_guard (j := 16) (d := 145) (c := false) rfl rfl (by kernel_rfl) rfl rfl (fun v W h => h) (fun _ => RelB.refl _) (fun hne => absurd rfl hne) fun hc aa W2 hB hp hq K hK => ?_
                        have e152 : aa.tmps[152]?.getD undef = .bool (decide (i < m5)) := hq 23 _ (by kernel_rfl) rfl
                        have e156 : aa.tmps[156]?.getD undef = .bool (decide (i < m5)) := hq 27 _ (by kernel_rfl) rfl
                        clear hp hq
                        go_simp
                        exact hK _ _ (RelB.refl _) (by show Value.bool _ = Value.bool _; first | rfl | exact congrArg Value.bool (decide_eq_decide.2 (by omega)) | exact congrArg Value.bool (by simp))
                      · refine opR_mk rfl fun aa W2 hB hp hq K hK => ?_
                        have e145 : aa.tmps[145]?.getD undef = .bool false := hq 16 _ (by kernel_rfl) rfl
                        have e157 : aa.tmps[157]?.getD undef = .bool false := hq 28 _ (by kernel_rfl) rfl
                        clear hp hq
                        go_simp
                        exact hK _ _ (RelB.refl _) rfl
                    · intro vs W3 hB3 hv3 _
                      have HB8 := Lib.hid (HJ.out.trans (Below.mono hB3 HJ.out.size))
                      have v29 : vs 29 = .bool false := hv3 29 _ rfl rfl
                      clear hB3 hv3
                      simp only [List.take_succ_cons, List.take_zero, putAll, Act.put, List.setIfInBounds_toArray, List.set_cons_succ, List.set_cons_zero, Nat.zero_add, Nat.reduceAdd, v29]
                      go_wp2
                      go_roundw
                      case rel => exact ⟨i + 1, rfl, he, HB8⟩
                      case measure => simp only [intOf]; omega
                  · obtain ⟨j, rfl⟩ : ∃ j, i = j + 1 := ⟨i - 1, by omega⟩
                    have hy := rAt_get2 (l := L) (k := j) (by rw [HNL.out]; omega)
                    obtain ⟨u, hu⟩ : ∃ u, u = rAt L j := ⟨_, rfl⟩
                    rw [Nat.add_sub_cancel] at hle
                    rw [← hu] at hy hle
                    have hd0 := hc j u hy 0 _ rfl
                    rw [Nat.zero_add, Nat.add_zero] at hd0
                    have hnlt : decide (r.stamp < u.stamp) = false := decide_eq_false (by omega)
                    have hjN : j < N := by omega
                    clear hc hle hy hu h0
                    go_upto_region 31 with fail
                    refine wp_region_rel RelB (phi [isV (.int .i64 ((j + 1 : Nat) : Int)), isV (.bool true), isV (.bool true), isV (.slice (some ⟨b, 0, none⟩) N c4), isV (.int .i64 ((j + 1 : Nat) : Int)), isV (.pointer (some ⟨b, (j + 1) * 12, none⟩)), isV (.pointer (some ⟨b, (j + 1) * 12, none⟩)), isV (.int .u64 r.stamp), isV (.slice (some ⟨b, 0, none⟩) N c4), isV (.int .i64 ((j + 1 : Nat) : Int)), isV (.int .i64 (j : Int)), isV (.pointer (some ⟨b, j * 12, none⟩)), isV (.pointer (some ⟨b, j * 12, none⟩)), isV (.int .u64 u.stamp), isV (.bool false), isV (.bool false), isV (.bool false), isV (.slice (some ⟨b, 0, none⟩) N c4), isV (.int .i64 ((j + 1 : Nat) : Int)), isV (.pointer (some ⟨b, (j + 1) * 12, none⟩)), isV (.pointer (some ⟨b, (j + 1) * 12, none⟩)), isV (.int .u64 r.stamp), isV (.int .u64 stamp), isV (.bool (decide ((j + 1) < m5))), isV (.int .i64 ((j + 1 : Nat) : Int)), isV (.slice A5 m5 c5), isV (.int .i64 (m5 : Int)), isV (.bool (decide ((j + 1) < m5))), isV (.bool false), isV (.bool false)]) (by kernel_rfl) (by kernel_rfl) (by kernel_rfl) (RelB.of (below_drew _)) (fun _ _ _ a b => a.trans b) ?_ ?_ ?_
                    · refine stays_phiR ?_
                      simp only [List.forall_mem_cons]
                      exact ⟨fun _ _ _ h _ => h, fun _ _ _ h _ => h, fun _ _ _ h _ => h, fun _ _ _ h _ => h, fun _ _ _ h _ => h, fun _ _ _ h _ => h, fun _ _ _ h _ => h, fun _ _ _ h _ => h, fun _ _ _ h _ => h, fun _ _ _ h _ => h, fun _ _ _ h _ => h, fun _ _ _ h _ => h, fun _ _ _ h _ => h, fun _ _ _ h _ => h, fun _ _ _ h _ => h, fun _ _ _ h _ => h, fun _ _ _ h _ => h, fun _ _ _ h _ => h, fun _ _ _ h _ => h, fun _ _ _ h _ => h, fun _ _ _ h _ => h, fun _ _ _ h _ => h, fun _ _ _ h _ => h, fun _ _ _ h _ => h, fun _ _ _ h _ => h, fun _ _ _ h _ => h, fun _ _ _ h _ => h, fun _ _ _ h _ => h, fun _ _ _ h _ => h, fun _ _ _ h _ => h, fun _ h => absurd h (by simp)⟩
                    · refine ⟨?_, ?_, ?_, ?_, ?_, ?_, ?_, ?_, ?_, ?_, ?_, ?_, ?_, ?_, ?_, ?_, ?_, ?_, ?_, ?_, ?_, ?_, ?_, ?_, ?_, ?_, ?_, ?_, ?_, ?_, trivial⟩
                      · refine opR_mk rfl fun aa W2 hB hp hq K hK => ?_
                        have e14 : aa.tmps[14]?.getD undef = .int .i64 ((j + 1 : Nat) : Int) := hp 14 (by kernel_rfl)
                        clear hp hq
                        go_simp
                        exact hK _ _ (RelB.refl _) rfl
                      · refine opR_mk rfl fun aa W2 hB hp hq K hK => ?_
                        have e129 : aa.tmps[129]?.getD undef = .int .i64 ((j + 1 : Nat) : Int) := hq 0 _ (by kernel_rfl) rfl
                        clear hp hq
                        go_simp
                        exact hK _ _ (RelB.refl _) (by show Value.bool _ = Value.bool _; first | rfl | exact congrArg Value.bool (decide_eq_decide.2 (by omega)) | exact congrArg Value.bool (by simp))
                      · refine opR_mk rfl fun aa W2 hB hp hq K hK => ?_
                        have e130 : aa.tmps[130]?.getD undef = .bool true := hq 1 _ (by kernel_rfl) rfl
                        clear hp hq
                        go_simp
                        exact hK _ _ (RelB.refl _) rfl
                      · refine opR_guard (j := 2) (d := 131) (c := true) rfl rfl (by kernel_rfl) rfl rfl (fun v W h => h) (fun _ => RelB.refl _) (fun hne => absurd rfl hne) fun hc aa W2 hB hp hq K hK => ?_
                        have e8 : aa.tmps[8]?.getD undef = .slice (some ⟨b, 0, none⟩) N c4 := hp 8 (by kernel_rfl)
                        clear hp hq
                        go_simp
                        exact hK _ _ (RelB.refl _) rfl
                      · refine opR_guard (j := 2) (d := 131) (c := true) rfl rfl (by kernel_rfl) rfl rfl (fun v W h => h) (fun _ => RelB.refl _) (fun hne => absurd rfl hne) fun hc aa W2 hB hp hq K hK => ?_
                        have e14 : aa.tmps[14]?.getD undef = .int .i64 ((j + 1 : Nat) : Int) := hp 14 (by kernel_rfl)
                        clear hp hq
                        go_simp
                        exact hK _ _ (RelB.refl _) rfl
                      · refine opR_guard (j := 2) (d := 131) (c := true) rfl rfl (by kernel_rfl) rfl rfl (fun v W h => h) (fun _ => RelB.refl _) (fun hne => absurd rfl hne) fun hc aa W2 hB hp hq K hK => ?_
                        have e132 : aa.tmps[132]?.getD undef = .slice (some ⟨b, 0, none⟩) N c4 := hq 3 _ (by kernel_rfl) rfl
                        have e133 : aa.tmps[133]?.getD undef = .int .i64 ((j + 1 : Nat) : Int) := hq 4 _ (by kernel_rfl) rfl
                        clear hp hq
                        go_simp
                        exact hK _ _ (RelB.refl _) rfl
                      · refine opR_guard (j := 2) (d := 131) (c := true) rfl rfl (by kernel_rfl) rfl rfl (fun v W h => h) (fun _ => RelB.refl _) (fun hne => absurd rfl hne) fun hc aa W2 hB hp hq K hK => ?_
                        have e134 : aa.tmps[134]?.getD undef = .pointer (some ⟨b, (j + 1) * 12, none⟩) := hq 5 _ (by kernel_rfl) rfl
                        clear hp hq
                        go_simp
                        exact hK _ _ (RelB.refl _) rfl
                      · refine opR_guard (j := 2) (d := 131) (c := true) rfl rfl (by kernel_rfl) rfl rfl (fun v W h => h) (fun _ => RelB.refl _) (fun hne => absurd rfl hne) fun hc aa W2 hB hp hq K hK => ?_
                        have e135 : aa.tmps[135]?.getD undef = .pointer (some ⟨b, (j + 1) * 12, none⟩) := hq 6 _ (by kernel_rfl) rfl
                        have cc := (cell_old hB HBL.out).trans hc0
                        clear hp hq
                        go_simp
                        exact hK _ _ (RelB.refl _) rfl
                      · refine opR_guard (j := 2) (d := 131) (c := true) rfl rfl (by kernel_rfl) rfl rfl (fun v W h => h) (fun _ => RelB.refl _) (fun hne => absurd rfl hne) fun hc aa W2 hB hp hq K hK => ?_
                        have e8 : aa.tmps[8]?.getD undef = .slice (some ⟨b, 0, none⟩) N c4 := hp 8 (by kernel_rfl)
                        clear hp hq
                        go_simp
                        exact hK _ _ (RelB.refl _) rfl
                      · refine opR_guard (j := 2) (d := 131) (c := true) rfl rfl (by kernel_rfl) rfl rfl (fun v W h => h) (fun _ => RelB.refl _) (fun hne => absurd rfl hne) fun hc aa W2 hB hp hq K hK => ?_
                        have e14 : aa.tmps[14]?.getD undef = .int .i64 ((j + 1 : Nat) : Int) := hp 14 (by kernel_rfl)
                        clear hp hq
                        go_simp
                        exact hK _ _ (RelB.refl _) rfl
                      · refine opR_guard (j := 2) (d := 131) (c := true) rfl rfl (by kernel_rfl) rfl rfl (fun v W h => h) (fun _ => RelB.refl _) (fun hne => absurd rfl hne) fun hc aa W2 hB hp hq K hK => ?_
                        have e138 : aa.tmps[138]?.getD undef = .int .i64 ((j + 1 : Nat) : Int) := hq 9 _ (by kernel_rfl) rfl
                        clear hp hq
                        have hwr : IntKind.i64.wrap (j : Int) = (j : Int) := (IntWalk.i64_left _).trans (IntWalk.wrap64_in _ (by omega))
                        go_simp
                        exact hK _ _ (RelB.refl _) rfl
                      · refine opR_guard (j := 2) (d := 131) (c := true) rfl rfl (by kernel_rfl) rfl rfl (fun v W h => h) (fun _ => RelB.refl _) (fun hne => absurd rfl hne) fun hc aa W2 hB hp hq K hK => ?_
                        have e137 : aa.tmps[137]?.getD undef = .slice (some ⟨b, 0, none⟩) N c4 := hq 8 _ (by kernel_rfl) rfl
                        have e139 : aa.tmps[139]?.getD undef = .int .i64 (j : Int) := hq 10 _ (by kernel_rfl) rfl
                        clear hp hq
                        go_simp
                        exact hK _ _ (RelB.refl _) rfl
                      · refine opR_guard (j := 2) (d := 131) (c := true) rfl rfl (by kernel_rfl) rfl rfl (fun v W h => h) (fun _ => RelB.refl _) (fun hne => absurd rfl hne) fun hc aa W2 hB hp hq K hK => ?_
                        have e140 : aa.tmps[140]?.getD undef = .pointer (some ⟨b, j * 12, none⟩) := hq 11 _ (by kernel_rfl) rfl
                        clear hp hq
                        go_simp
                        exact hK _ _ (RelB.refl _) rfl
                      · refine opR_guard (j := 2) (d := 131) (c := true) rfl rfl (by kernel_rfl) rfl rfl (fun v W h => h) (fun _ => RelB.refl _) (fun hne => absurd rfl hne) fun hc aa W2 hB hp hq K hK => ?_
                        have e141 : aa.tmps[141]?.getD undef = .pointer (some ⟨b, j * 12, none⟩) := hq 12 _ (by kernel_rfl) rfl
                        have cc := (cell_old hB HBL.out).trans hd0
                        clear hp hq
                        go_simp
                        exact hK _ _ (RelB.refl _) rfl
                      · refine opR_guard (j := 2) (d := 131) (c := true) rfl rfl (by kernel_rfl) rfl rfl (fun v W h => h) (fun _ => RelB.refl _) (fun hne => absurd rfl hne) fun hc aa W2 hB hp hq K hK => ?_
                        have e136 : aa.tmps[136]?.getD undef = .int .u64 r.stamp := hq 7 _ (by kernel_rfl) rfl
                        have e142 : aa.tmps[142]?.getD undef = .int .u64 u.stamp := hq 13 _ (by kernel_rfl) rfl
                        clear hp hq
                        go_simp
                        exact hK _ _ (RelB.refl _) rfl
                      · refine opR_mk rfl fun aa W2 hB hp hq K hK => ?_
                        have e131 : aa.tmps[131]?.getD undef = .bool true := hq 2 _ (by kernel_rfl) rfl
                        have e143 : aa.tmps[143]?.getD undef = .bool false := hq 14 _ (by kernel_rfl) rfl
                        clear hp hq
                        go_simp
                        exact hK _ _ (RelB.refl _) rfl
                      · refine opR_mk rfl fun aa W2 hB hp hq K hK => ?_
                        have e144 : aa.tmps[144]?.getD undef = .bool false := hq 15 _ (by kernel_rfl) rfl
                        clear hp hq
                        go_simp
                        exact hK _ _ (RelB.refl _) rfl
                      · refine opR_guard (j := 16) (d := 145) (c := false) rfl rfl (by kernel_rfl) rfl rfl (fun v W h => h) (fun _ => RelB.refl _) (fun hne => absurd rfl hne) fun hc aa W2 hB hp hq K hK => ?_
                        have e8 : aa.tmps[8]?.getD undef = .slice (some ⟨b, 0, none⟩) N c4 := hp 8 (by kernel_rfl)
                        clear hp hq
                        go_simp
                        exact hK _ _ (RelB.refl _) rfl
                      · refine opR_guard (j := 16) (d := 145) (c := false) rfl rfl (by kernel_rfl) rfl rfl (fun v W h => h) (fun _ => RelB.refl _) (fun hne => absurd rfl hne) fun hc aa W2 hB hp hq K hK => ?_
                        have e14 : aa.tmps[14]?.getD undef = .int .i64 ((j + 1 : Nat) : Int) := hp 14 (by kernel_rfl)
                        clear hp hq
                        go_simp
                        exact hK _ _ (RelB.refl _) rfl
                      · refine opR_guard (j := 16) (d := 145) (c := false) rfl rfl (by kernel_rfl) rfl rfl (fun v W h => h) (fun _ => RelB.refl _) (fun hne => absurd rfl hne) fun hc aa W2 hB hp hq K hK => ?_
                        have e146 : aa.tmps[146]?.getD undef = .slice (some ⟨b, 0, none⟩) N c4 := hq 17 _ (by kernel_rfl) rfl
                        have e147 : aa.tmps[147]?.getD undef = .int .i64 ((j + 1 : Nat) : Int) := hq 18 _ (by kernel_rfl) rfl
                        clear hp hq
                        go_simp
                        exact hK _ _ (RelB.refl _) rfl
                      · refine opR_guard (j := 16) (d := 145) (c := false) rfl rfl (by kernel_rfl) rfl rfl (fun v W h => h) (fun _ => RelB.refl _) (fun hne => absurd rfl hne) fun hc aa W2 hB hp hq K hK => ?_
                        have e148 : aa.tmps[148]?.getD undef = .pointer (some ⟨b, (j + 1) * 12, none⟩) := hq 19 _ (by kernel_rfl) rfl
                        clear hp hq
                        go_simp
                        exact hK _ _ (RelB.refl _) rfl
                      · refine opR_guard (j := 16) (d := 145) (c := false) rfl rfl (by kernel_rfl) rfl rfl (fun v W h => h) (fun _ => RelB.refl _) (fun hne => absurd rfl hne) fun hc aa W2 hB hp hq K hK => ?_
                        have e149 : aa.tmps[149]?.getD undef = .pointer (some ⟨b, (j + 1) * 12, none⟩) := hq 20 _ (by kernel_rfl) rfl
                        have cc := (cell_old hB HBL.out).trans hc0
                        clear hp hq
                        go_simp
                        exact hK _ _ (RelB.refl _) rfl
                      · refine opR_guard (j := 16) (d := 145) (c := false) rfl rfl (by kernel_rfl) rfl rfl (fun v W h => h) (fun _ => RelB.refl _) (fun hne => absurd rfl hne) fun hc aa W2 hB hp hq K hK => ?_
                        have e1 : aa.tmps[1]?.getD undef = .int .u64 stamp := hp 1 (by kernel_rfl)
                        clear hp hq
                        go_simp
                        exact hK _ _ (RelB.refl _) rfl
                      · refine opR_guard (j := 16) (d := 145) (c := false) rfl rfl (by kernel_rfl) rfl rfl (fun v W h => h) (fun _ => RelB.refl _) (fun hne => absurd rfl hne) fun hc aa W2 hB hp hq K hK => ?_
                        have e150 : aa.tmps[150]?.getD undef = .int .u64 r.stamp := hq 21 _ (by kernel_rfl) rfl
                        have e151 : aa.tmps[151]?.getD undef = .int .u64 stamp := hq 22 _ (by kernel_rfl) rfl
                        clear hp hq
                        go_simp
                        exact hK _ _ (RelB.refl _) (by show Value.bool _ = Value.bool _; first | rfl | exact congrArg Value.bool (decide_eq_decide.2 (by omega)) | exact congrArg Value.bool (by simp))
                      · refine opR_guard (j := 16) (d := 145) (c := false) rfl rfl (by kernel_rfl) rfl rfl (fun v W h => h) (fun _ => RelB.refl _) (fun hne => absurd rfl hne) fun hc aa W2 hB hp hq K hK => ?_
                        have e14 : aa.tmps[14]?.getD undef = .int .i64 ((j + 1 : Nat) : Int) := hp 14 (by kernel_rfl)
                        clear hp hq
                        go_simp
                        exact hK _ _ (RelB.refl _) rfl
                      · refine opR_guard (j := 16) (d := 145) (c := false) rfl rfl (by kernel_rfl) rfl rfl (fun v W h => h) (fun _ => RelB.refl _) (fun hne => absurd rfl hne) fun hc aa W2 hB hp hq K hK => ?_
                        have e9 : aa.tmps[9]?.getD undef = .slice A5 m5 c5 := hp 9 (by kernel_rfl)
                        clear hp hq
                        go_simp
                        exact hK _ _ (RelB.refl _) rfl
                      · refine opR_guard (j := 16) (d := 145) (c := false) rfl rfl (by kernel_rfl) rfl rfl (fun v W h => h) (fun _ => RelB.refl _) (fun hne => absurd rfl hne) fun hc aa W2 hB hp hq K hK => ?_
                        have e154 : aa.tmps[154]?.getD undef = .slice A5 m5 c5 := hq 25 _ (by kernel_rfl) rfl
                        clear hp hq
                        go_simp
                        exact hK _ _ (RelB.refl _) rfl
                      · refine opR_guard (j := 16) (d := 145) (c := false) rfl rfl (by kernel_rfl) rfl rfl (fun v W h => h) (fun _ => RelB.refl _) (fun hne => absurd rfl hne) fun hc aa W2 hB hp hq K hK => ?_
                        have e153 : aa.tmps[153]?.getD undef = .int .i64 ((j + 1 : Nat) : Int) := hq 24 _ (by kernel_rfl) rfl
                        have e155 : aa.tmps[155]?.getD undef = .int .i64 (m5 : Int) := hq 26 _ (by kernel_rfl) rfl
                        clear hp hq
                        go_simp
                        exact hK _ _ (RelB.refl _) (by show Value.bool _ = Value.bool _; first | rfl | exact congrArg Value.bool (decide_eq_decide.2 (by omega)) | exact congrArg Value.bool (by simp))
                      · refine opR_guard (j := 16) (d := 145) (c := false) rfl rfl (by kernel_rfl) rfl rfl (fun v W h => h) (fun _ => RelB.refl _) (fun hne => absurd rfl hne) fun hc aa W2 hB hp hq K hK => ?_
                        have e152 : aa.tmps[152]?.getD undef = .bool (decide ((j + 1) < m5)) := hq 23 _ (by kernel_rfl) rfl
                        have e156 : aa.tmps[156]?.getD undef = .bool (decide ((j + 1) < m5)) := hq 27 _ (by kernel_rfl) rfl
                        clear hp hq
                        go_simp
                        exact hK _ _ (RelB.refl _) (by show Value.bool _ = Value.bool _; first | rfl | exact congrArg Value.bool (decide_eq_decide.2 (by omega)) | exact congrArg Value.bool (by simp))
                      · refine opR_mk rfl fun aa W2 hB hp hq K hK => ?_
                        have e145 : aa.tmps[145]?.getD undef = .bool false := hq 16 _ (by kernel_rfl) rfl
                        have e157 : aa.tmps[157]?.getD undef = .bool false := hq 28 _ (by kernel_rfl) rfl
                        clear hp hq
                        go_simp
                        exact hK _ _ (RelB.refl _) rfl
                    · intro vs W3 hB3 hv3 _
                      have HB8 := Lib.hid (HJ.out.trans (Below.mono hB3 HJ.out.size))
                      have v29 : vs 29 = .bool false := hv3 29 _ rfl rfl
                      clear hB3 hv3
                      simp only [List.take_succ_cons, List.take_zero, putAll, Act.put, List.setIfInBounds_toArray, List.set_cons_succ, List.set_cons_zero, Nat.zero_add, Nat.reduceAdd, v29]
                      go_wp2
                      go_roundw
                      case rel => exact ⟨j + 1 + 1, rfl, he, HB8⟩
                      case measure => simp only [intOf]; omega
                · obtain rfl : N = i := by omega
                  go_wp2_with (go_at_call 11; (with_reducible refine (t_alive23 _).mono ?_); rintro e w9 ⟨rfl, hb⟩; have HB9 := Lib.hid (HB7.out.trans ((HJ.out.trans (hb.mono HJ.out.size)).mono HB7.out.size)); clear hb)
                  go_ret
                  exact ⟨rfl, HB9.out⟩
  · go_ret
    exact ⟨rfl, ptrans HB.out HB2.out⟩
end Go.Proofs.YtehckjkihaalfaaGreat
