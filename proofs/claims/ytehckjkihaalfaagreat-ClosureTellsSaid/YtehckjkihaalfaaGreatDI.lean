/- The document's closure, walked: Places, Pick, On, Closed. -/
import Derived.Test.YtehckjkihaalfaaGreatDH
namespace Go.Proofs.YtehckjkihaalfaaGreat
open Go.RowKit Go.Maps

set_option maxRecDepth 100000 in
set_option maxHeartbeats 8000000 in
theorem t_rplaces (A : Option Addr) (c n : Nat) (l : List R) (Ai : Option Addr) (ni ci : Nat) (inos : List Int) (w : World) (hl : RecsAt w A l) (hn : l.length = n) (hn2 : n ≤ 1000) (hnc : n ≤ c) (hi : InosAt w Ai inos) (hni : inos.length = ni) (hni2 : ni ≤ 60000) :
    Calls Tryz.prog 40 #[.slice A n c, .slice Ai ni ci] w (PlacesR l inos w) := by
  have HIN := Lib.hid (t_rin A c n l Ai ni ci inos w hl hn hn2 hnc hi hni hni2)
  have HN := Lib.hid hn
  clear hl hn hi hni
  go_enter Tryz.func40, Tryz.ntmps40
  go_wp2_with (go_at_call 90; (with_reducible refine HIN.out.mono ?_); rintro e w3 ⟨g, rfl, h1, h2⟩; have HB := Lib.hid (And.intro h1 h2); clear h1 h2)
  go_loopw [6, 7] (fun v x wr => ∃ (k m : Nat) (A1 : Option Addr) (d1 : Nat), x = .int .i64 (k : Int) ∧ v = .slice A1 m d1 ∧ k ≤ n ∧ Hid (((List.range k).filter (inB l inos l.length)).length = m ∧ wr.ownsRow w3.heap.size 3 1 (.slice A1 m d1) m (natV ((List.range k).filter (inB l inos l.length))) ∧ Below w3.heap.size w3 wr)) (fun _ x _ => n - (intOf x).toNat)
  case atStart => exact ⟨0, 0, none, 0, rfl, rfl, Nat.zero_le _, rfl, World.ownsRow_nil _ _ _ _, Below.refl _ _⟩
  case round =>
    obtain ⟨k, m, A1, d1, rfl, rfl, hk, HK⟩ := hrel
    by_cases hkn : k = n
    · have hf : Hid ((placesL l inos).length = m ∧ wr.ownsRow w3.heap.size 3 1 (.slice A1 m d1) m (natV (placesL l inos)) ∧ Below w3.heap.size w3 wr) := by
        have h1 := HK.out
        rw [hkn, ← HN.out] at h1
        exact h1
      have hkn' : n = k := hkn.symm
      clear hkn HK
      subst hkn'
      go_wp2
      go_ret
      refine ⟨_, rfl, ?_, ptrans HB.out.2 hf.out.2.2⟩
      rw [hf.out.1]
      exact own_low hf.out.2.1 HB.out.2.size
    · have hk2 : k < n := by omega
      have c1 := (HB.out.1.below HK.out.2.2).cell hk2
      have hst := wantTo_succ (inB l inos l.length) k
      have hm2 : m ≤ k := by have := wantTo_len (inB l inos l.length) k; rw [HK.out.1] at this; exact this
      obtain ⟨q, hq⟩ : ∃ q, inB l inos l.length k = q := ⟨_, rfl⟩
      rw [hq] at hst c1
      have HST := Lib.hid hst
      clear hst hq
      cases q
      · go_wp2
        go_roundw
        case rel =>
          refine ⟨k + 1, m, A1, d1, rfl, rfl, hk2, ?_⟩
          show _ ∧ _
          rw [HST.out, if_neg (by simp), List.append_nil]
          exact HK.out
        case measure => simp only [intOf]; omega
      · go_wp2_with (at_builtin; refine wpList_append_int rfl _ _ rfl w3.heap.size _ ((List.range k).filter (inB l inos l.length)) m (m + 1) HK.out.1 rfl rfl (HK.out.2.1.alloc _) wr.heap.size k rfl (heap_alloc_new _ _) (by omega) (by rw [World.alloc_size']; have := HK.out.2.2.size; omega) ?_; intro A2 d2 W4 g2 g3; have H4 := Lib.hid (And.intro g2 g3); clear g2 g3)
        go_roundw
        case rel =>
          refine ⟨k + 1, m + 1, A2, d2, rfl, rfl, hk2, ?_⟩
          show _ ∧ _
          rw [HST.out, if_pos rfl]
          refine ⟨by rw [List.length_append, HK.out.1]; rfl, H4.out.1, ?_⟩
          exact (HK.out.2.2.alloc HK.out.2.2.size _).grown H4.out.2 (by rw [World.alloc_size']; have := HK.out.2.2.size; omega) (fun q hq => (HK.out.2.1.lt q hq).1)
        case measure => simp only [intOf]; omega
set_option maxRecDepth 100000 in
set_option maxHeartbeats 8000000 in
theorem t_rpick (A : Option Addr) (c n : Nat) (l : List R) (Ai : Option Addr) (ni ci : Nat) (inos : List Int) (of : Bool) (w : World) (hl : RecsAt w A l) (hn : l.length = n) (hn2 : n ≤ 1000) (hnc : n ≤ c) (hi : InosAt w Ai inos) (hni : inos.length = ni) (hni2 : ni ≤ 60000) :
    Calls Tryz.prog 42 #[.slice A n c, .slice Ai ni ci, .bool of] w fun e w' => ∃ v, e = .returned v ∧ w'.ownsRow w.heap.size 34 12 v (pickL l inos of).length (flatR (pickL l inos of)) ∧ Below w.heap.size w w' := by
  have HIN := Lib.hid (t_rin A c n l Ai ni ci inos w hl hn hn2 hnc hi hni hni2)
  have HN := Lib.hid hn
  have HL := Lib.hid hl
  clear hl hn hi hni
  go_enter Tryz.func42, Tryz.ntmps42
  go_wp2_with (go_at_call 90; (with_reducible refine HIN.out.mono ?_); rintro e w4 ⟨g, rfl, h1, h2⟩; have HB := Lib.hid (And.intro h1 h2); clear h1 h2)
  go_loopw [8, 9] (fun v x wr => ∃ (i m : Nat) (A1 : Option Addr) (d1 : Nat), x = .int .i64 (i : Int) ∧ v = .slice A1 m d1 ∧ i ≤ n ∧ Hid ((pickTo l inos of i).length = m ∧ wr.ownsRow w4.heap.size 34 12 (.slice A1 m d1) m (flatR (pickTo l inos of i)) ∧ Below w4.heap.size w4 wr)) (fun _ x _ => n - (intOf x).toNat)
  case atStart => exact ⟨0, 0, none, 0, rfl, rfl, Nat.zero_le _, rfl, World.ownsRow_nil _ _ _ _, Below.refl _ _⟩
  case round =>
    obtain ⟨i, m, A1, d1, rfl, rfl, hi, HI⟩ := hrel
    by_cases he : i = n
    · have hf : Hid (pickTo l inos of i = pickL l inos of) := by show _ = _; unfold pickL; rw [he, HN.out]
      have he' : n = i := he.symm
      clear he
      subst he'
      go_wp2
      go_ret
      refine ⟨_, rfl, ?_, ptrans HB.out.2 HI.out.2.2⟩
      rw [← hf.out, HI.out.1]
      exact own_low HI.out.2.1 HB.out.2.size
    · have hi2 : i < n := by omega
      obtain ⟨x, hx⟩ : ∃ x, l[i]? = some x := ⟨l[i]'(by rw [HN.out]; omega), List.getElem?_eq_getElem _⟩
      obtain ⟨b, o, rfl, hbl, hc⟩ := ((HL.out.below HB.out.2).below HI.out.2.2).at_ (fun e => by rw [e] at hx; simp at hx)
      have c0 : wr.cell? ⟨b, o + i * 12, none⟩ = some (.int .u64 x.stamp) := hc i x hx 0 _ rfl
      have c1 := hc i x hx 1 _ rfl
      have c2 := hc i x hx 2 _ rfl
      have c3 := hc i x hx 3 _ rfl
      have c4 := hc i x hx 4 _ rfl
      have c5 := hc i x hx 5 _ rfl
      have c6 := hc i x hx 6 _ rfl
      have c7 := hc i x hx 7 _ rfl
      have c8 := hc i x hx 8 _ rfl
      have c9 := hc i x hx 9 _ rfl
      have c10 := hc i x hx 10 _ rfl
      have c11 := hc i x hx 11 _ rfl
      have HX := Lib.hid hx
      clear hc hx hbl
      have cb := (HB.out.1.below HI.out.2.2).cell hi2
      have hst := pickTo_succ l inos of i
      obtain ⟨q, hq⟩ : ∃ q, inB l inos l.length i = q := ⟨_, rfl⟩
      rw [rAt_get HX.out, hq] at hst
      rw [hq] at cb
      have HST := Lib.hid hst
      have hm2 : m ≤ i := by have := pickTo_len l inos of i; rw [HI.out.1] at this; exact this
      clear hst hq
      cases hqo : (q == of)
      · go_wp2
        go_roundw
        case rel =>
          refine ⟨i + 1, m, A1, d1, rfl, rfl, hi2, ?_⟩
          show _ ∧ _
          rw [HST.out, hqo, if_neg (by simp), List.append_nil]
          exact HI.out
        case measure => simp only [intOf]; omega
      · go_wp2_with (at_builtin; refine wpList_append_rec rfl _ _ rfl w4.heap.size _ (pickTo l inos of i) m (m + 1) HI.out.1 rfl rfl (HI.out.2.1.alloc _) wr.heap.size x rfl (heap_alloc_new _ _) (by omega) (by rw [World.alloc_size']; have := HI.out.2.2.size; omega) ?_; intro A2 d2 W4 g2 g3; have H4 := Lib.hid (And.intro g2 g3); clear g2 g3)
        go_roundw
        case rel =>
          refine ⟨i + 1, m + 1, A2, d2, rfl, rfl, hi2, ?_⟩
          show _ ∧ _
          rw [HST.out, hqo, if_pos rfl]
          refine ⟨by rw [List.length_append, HI.out.1]; rfl, H4.out.1, ?_⟩
          exact (HI.out.2.2.alloc HI.out.2.2.size _).grown H4.out.2 (by rw [World.alloc_size']; have := HI.out.2.2.size; omega) (fun q hq => (HI.out.2.1.lt q hq).1)
        case measure => simp only [intOf]; omega
set_option maxRecDepth 100000 in
set_option maxHeartbeats 8000000 in
theorem t_ron (A : Option Addr) (c n : Nat) (kk : Int) (hkk : I64 kk) (l : List R) (w : World) (hl : RecsAt w A l) (hn : l.length = n) (hn2 : n ≤ 60000) (hnc : n ≤ c) :
    Calls Tryz.prog 45 #[.slice A n c, .int .i64 kk] w fun e w' => ∃ v, e = .returned v ∧ w'.ownsRow w.heap.size 3 1 v (onZ l kk).length (natV (onZ l kk)) ∧ Below w.heap.size w w' := by
  have HL := Lib.hid hl
  have HN := Lib.hid hn
  clear hl hn
  by_cases h0 : 0 ≤ kk ∧ kk < n
  · obtain ⟨k, rfl⟩ : ∃ k : Nat, kk = (k : Int) := ⟨kk.toNat, by omega⟩
    have hk : k < n := by omega
    rw [onZ_nat l k (by rw [HN.out]; exact hk)]
    clear hkk h0
    obtain ⟨z, hz⟩ : ∃ z, l[k]? = some z := ⟨l[k]'(by rw [HN.out]; omega), List.getElem?_eq_getElem _⟩
    obtain ⟨b, o, rfl, hbl, hc⟩ := HL.out.at_ (fun e => by rw [e] at hz; simp at hz)
    have HBB := Lib.hid hbl
    have HCC := Lib.hid hc
    have HZ1 := Lib.hid hz
    have HZO := Lib.hid (HL.out.ok z (List.mem_of_getElem? hz))
    clear hbl hc hz
    go_enter Tryz.func45, Tryz.ntmps45
    go_wp2
    go_loopw [5, 6] (fun v x wr => ∃ (i m : Nat) (A1 : Option Addr) (d1 : Nat), x = .int .i64 (i : Int) ∧ v = .slice A1 m d1 ∧ i ≤ k ∧ Hid ((onTo l k i).length = m ∧ wr.ownsRow w.heap.size 3 1 (.slice A1 m d1) m (natV (onTo l k i)) ∧ Below w.heap.size w wr)) (fun _ x _ => k - (intOf x).toNat)
    case atStart => exact ⟨0, 0, none, 0, rfl, rfl, Nat.zero_le _, rfl, World.ownsRow_nil _ _ _ _, Below.refl _ _⟩
    case round =>
      obtain ⟨i, m, A1, d1, rfl, rfl, hi, HI⟩ := hrel
      by_cases he : i = k
      · have hf : Hid (onTo l k i = onL l k) := by show _ = _; rw [he]; rfl
        have he' : k = i := he.symm
        clear he
        subst he'
        go_wp2
        go_ret
        refine ⟨_, rfl, ?_, HI.out.2.2⟩
        rw [← hf.out, HI.out.1]
        exact HI.out.2.1
      · have hi2 : i < k := by omega
        have hin : i < n := by omega
        obtain ⟨x, hx⟩ : ∃ x, l[i]? = some x := ⟨l[i]'(by rw [HN.out]; omega), List.getElem?_eq_getElem _⟩
        have HX1 := Lib.hid hx
        have HXO := Lib.hid (HL.out.ok x (List.mem_of_getElem? hx))
        have hst := onTo_succ l k i
        rw [rAt_get hx, rAt_get HZ1.out] at hst
        have HST := Lib.hid hst
        have hm2 : m ≤ i := by have := onTo_len l k i; rw [HI.out.1] at this; exact this
        have HBW : Hid (b < wr.heap.size) := Nat.lt_of_lt_of_le HBB.out HI.out.2.2.size
        have hcw := fun (k : Nat) (r : R) (h1 : l[k]? = some r) (i : Nat) (v : Value) (h2 : (cellsR r)[i]? = some v) => (World.cell?_of_block (a := ⟨b, _, none⟩) (HI.out.2.2.block b HBB.out)).trans (HCC.out k r h1 i v h2)
        have HCW := Lib.hid hcw
        clear hx hst hcw
        go_wp2
        refine wp_region_rel RelB (phi [isV (.slice (some ⟨b, o, none⟩) n c), isV (.int .i64 (i : Int)), isV (.pointer (some ⟨b, o + i * 12, none⟩)), isV (.agg #[.int .u64 x.stamp, .int .u8 x.act, .int .u32 x.dir, .string x.name, .int .u32 x.ino, .int .u8 x.kind, .int .u32 x.dir2, .string x.name2, .int .u32 x.old, .int .u32 x.size, .int .i64 x.page, .string x.data]), isV (.slice (some ⟨b, o, none⟩) n c), isV (.int .i64 (k : Int)), isV (.pointer (some ⟨b, o + k * 12, none⟩)), isV (.agg #[.int .u64 z.stamp, .int .u8 z.act, .int .u32 z.dir, .string z.name, .int .u32 z.ino, .int .u8 z.kind, .int .u32 z.dir2, .string z.name2, .int .u32 z.old, .int .u32 z.size, .int .i64 z.page, .string z.data]), isV (.bool (meetB x z))]) (by kernel_rfl) (by kernel_rfl) (by kernel_rfl) (RelB.of (below_drew _)) (fun _ _ _ a b => a.trans b) ?_ ?_ ?_
        · refine stays_phiR ?_
          simp only [List.forall_mem_cons]
          exact ⟨fun _ _ _ h _ => h, fun _ _ _ h _ => h, fun _ _ _ h _ => h, fun _ _ _ h _ => h, fun _ _ _ h _ => h, fun _ _ _ h _ => h, fun _ _ _ h _ => h, fun _ _ _ h _ => h, fun _ _ _ h _ => h, fun _ h => absurd h (by simp)⟩
        · refine ⟨?_, ?_, ?_, ?_, ?_, ?_, ?_, ?_, ?_, trivial⟩
          · refine opR_mk rfl fun aa W2 hB hp hq K hK => ?_
            have e0 : aa.tmps[0]?.getD undef = .slice (some ⟨b, o, none⟩) n c := hp 0 (by kernel_rfl)
            clear hp hq
            go_simp
            exact hK _ _ (RelB.refl _) rfl
          · refine opR_mk rfl fun aa W2 hB hp hq K hK => ?_
            have e6 : aa.tmps[6]?.getD undef = .int .i64 (i : Int) := hp 6 (by kernel_rfl)
            clear hp hq
            go_simp
            exact hK _ _ (RelB.refl _) rfl
          · refine opR_mk rfl fun aa W2 hB hp hq K hK => ?_
            have e18 : aa.tmps[18]?.getD undef = .slice (some ⟨b, o, none⟩) n c := hq 0 _ (by kernel_rfl) rfl
            have e19 : aa.tmps[19]?.getD undef = .int .i64 (i : Int) := hq 1 _ (by kernel_rfl) rfl
            clear hp hq
            go_simp
            exact hK _ _ (RelB.refl _) rfl
          · refine opR_mk rfl fun aa W2 hB hp hq K hK => ?_
            have e20 : aa.tmps[20]?.getD undef = .pointer (some ⟨b, o + i * 12, none⟩) := hq 2 _ (by kernel_rfl) rfl
            have c0 : W2.cell? ⟨b, o + i * 12, none⟩ = some (.int .u64 x.stamp) := (World.cell?_of_block (a := ⟨b, _, none⟩) (Below.block hB b HBW.out)).trans (HCW.out i x HX1.out 0 _ rfl)
            have c1 := (World.cell?_of_block (a := ⟨b, _, none⟩) (Below.block hB b HBW.out)).trans (HCW.out i x HX1.out 1 _ rfl)
            have c2 := (World.cell?_of_block (a := ⟨b, _, none⟩) (Below.block hB b HBW.out)).trans (HCW.out i x HX1.out 2 _ rfl)
            have c3 := (World.cell?_of_block (a := ⟨b, _, none⟩) (Below.block hB b HBW.out)).trans (HCW.out i x HX1.out 3 _ rfl)
            have c4 := (World.cell?_of_block (a := ⟨b, _, none⟩) (Below.block hB b HBW.out)).trans (HCW.out i x HX1.out 4 _ rfl)
            have c5 := (World.cell?_of_block (a := ⟨b, _, none⟩) (Below.block hB b HBW.out)).trans (HCW.out i x HX1.out 5 _ rfl)
            have c6 := (World.cell?_of_block (a := ⟨b, _, none⟩) (Below.block hB b HBW.out)).trans (HCW.out i x HX1.out 6 _ rfl)
            have c7 := (World.cell?_of_block (a := ⟨b, _, none⟩) (Below.block hB b HBW.out)).trans (HCW.out i x HX1.out 7 _ rfl)
            have c8 := (World.cell?_of_block (a := ⟨b, _, none⟩) (Below.block hB b HBW.out)).trans (HCW.out i x HX1.out 8 _ rfl)
            have c9 := (World.cell?_of_block (a := ⟨b, _, none⟩) (Below.block hB b HBW.out)).trans (HCW.out i x HX1.out 9 _ rfl)
            have c10 := (World.cell?_of_block (a := ⟨b, _, none⟩) (Below.block hB b HBW.out)).trans (HCW.out i x HX1.out 10 _ rfl)
            have c11 := (World.cell?_of_block (a := ⟨b, _, none⟩) (Below.block hB b HBW.out)).trans (HCW.out i x HX1.out 11 _ rfl)
            clear hp hq
            go_simp
            exact hK _ _ (RelB.refl _) rfl
          · refine opR_mk rfl fun aa W2 hB hp hq K hK => ?_
            have e0 : aa.tmps[0]?.getD undef = .slice (some ⟨b, o, none⟩) n c := hp 0 (by kernel_rfl)
            clear hp hq
            go_simp
            exact hK _ _ (RelB.refl _) rfl
          · refine opR_mk rfl fun aa W2 hB hp hq K hK => ?_
            have e1 : aa.tmps[1]?.getD undef = .int .i64 (k : Int) := hp 1 (by kernel_rfl)
            clear hp hq
            go_simp
            exact hK _ _ (RelB.refl _) rfl
          · refine opR_mk rfl fun aa W2 hB hp hq K hK => ?_
            have e22 : aa.tmps[22]?.getD undef = .slice (some ⟨b, o, none⟩) n c := hq 4 _ (by kernel_rfl) rfl
            have e23 : aa.tmps[23]?.getD undef = .int .i64 (k : Int) := hq 5 _ (by kernel_rfl) rfl
            clear hp hq
            go_simp
            exact hK _ _ (RelB.refl _) rfl
          · refine opR_mk rfl fun aa W2 hB hp hq K hK => ?_
            have e24 : aa.tmps[24]?.getD undef = .pointer (some ⟨b, o + k * 12, none⟩) := hq 6 _ (by kernel_rfl) rfl
            have d0 : W2.cell? ⟨b, o + k * 12, none⟩ = some (.int .u64 z.stamp) := (World.cell?_of_block (a := ⟨b, _, none⟩) (Below.block hB b HBW.out)).trans (HCW.out k z HZ1.out 0 _ rfl)
            have d1 := (World.cell?_of_block (a := ⟨b, _, none⟩) (Below.block hB b HBW.out)).trans (HCW.out k z HZ1.out 1 _ rfl)
            have d2 := (World.cell?_of_block (a := ⟨b, _, none⟩) (Below.block hB b HBW.out)).trans (HCW.out k z HZ1.out 2 _ rfl)
            have d3 := (World.cell?_of_block (a := ⟨b, _, none⟩) (Below.block hB b HBW.out)).trans (HCW.out k z HZ1.out 3 _ rfl)
            have d4 := (World.cell?_of_block (a := ⟨b, _, none⟩) (Below.block hB b HBW.out)).trans (HCW.out k z HZ1.out 4 _ rfl)
            have d5 := (World.cell?_of_block (a := ⟨b, _, none⟩) (Below.block hB b HBW.out)).trans (HCW.out k z HZ1.out 5 _ rfl)
            have d6 := (World.cell?_of_block (a := ⟨b, _, none⟩) (Below.block hB b HBW.out)).trans (HCW.out k z HZ1.out 6 _ rfl)
            have d7 := (World.cell?_of_block (a := ⟨b, _, none⟩) (Below.block hB b HBW.out)).trans (HCW.out k z HZ1.out 7 _ rfl)
            have d8 := (World.cell?_of_block (a := ⟨b, _, none⟩) (Below.block hB b HBW.out)).trans (HCW.out k z HZ1.out 8 _ rfl)
            have d9 := (World.cell?_of_block (a := ⟨b, _, none⟩) (Below.block hB b HBW.out)).trans (HCW.out k z HZ1.out 9 _ rfl)
            have d10 := (World.cell?_of_block (a := ⟨b, _, none⟩) (Below.block hB b HBW.out)).trans (HCW.out k z HZ1.out 10 _ rfl)
            have d11 := (World.cell?_of_block (a := ⟨b, _, none⟩) (Below.block hB b HBW.out)).trans (HCW.out k z HZ1.out 11 _ rfl)
            clear hp hq
            go_simp
            exact hK _ _ (RelB.refl _) rfl
          · refine opR_mk rfl fun aa W2 hB hp hq K hK => ?_
            have e21 : aa.tmps[21]?.getD undef = .agg #[.int .u64 x.stamp, .int .u8 x.act, .int .u32 x.dir, .string x.name, .int .u32 x.ino, .int .u8 x.kind, .int .u32 x.dir2, .string x.name2, .int .u32 x.old, .int .u32 x.size, .int .i64 x.page, .string x.data] := hq 3 _ (by kernel_rfl) rfl
            have e25 : aa.tmps[25]?.getD undef = .agg #[.int .u64 z.stamp, .int .u8 z.act, .int .u32 z.dir, .string z.name, .int .u32 z.ino, .int .u8 z.kind, .int .u32 z.dir2, .string z.name2, .int .u32 z.old, .int .u32 z.size, .int .i64 z.page, .string z.data] := hq 7 _ (by kernel_rfl) rfl
            clear hp hq
            go_simp
            refine (t_rmeet x z HXO.out HZO.out W2).mono ?_
            rintro e w2 ⟨rfl, hb2⟩
            exact hK _ _ (RelB.of hb2) rfl
        · intro vs W3 hB3 hv3 _
          have v8 : vs 8 = .bool (meetB x z) := hv3 8 _ rfl rfl
          have HW3 := Lib.hid (And.intro (row_below HI.out.2.1 hB3) (ptrans HI.out.2.2 hB3))
          clear hB3 hv3
          simp only [List.take_succ_cons, List.take_zero, putAll, Act.put, List.setIfInBounds_toArray, List.set_cons_succ, List.set_cons_zero, Nat.zero_add, Nat.reduceAdd, v8]
          cases hmt : meetB x z
          · go_wp2
            go_roundw
            case rel =>
              refine ⟨i + 1, m, A1, d1, rfl, rfl, hi2, ?_⟩
              show _ ∧ _
              rw [HST.out, if_neg (by rw [hmt]; simp), List.append_nil]
              exact ⟨HI.out.1, HW3.out⟩
            case measure => simp only [intOf]; omega
          · go_wp2_with (at_builtin; refine wpList_append_int rfl _ _ rfl w.heap.size _ (onTo l k i) m (m + 1) HI.out.1 rfl rfl (HW3.out.1.alloc _) W3.heap.size i rfl (heap_alloc_new _ _) (by omega) (by rw [World.alloc_size']; have := HW3.out.2.size; omega) ?_; intro A2 d2 W4 g2 g3; have H4 := Lib.hid (And.intro g2 g3); clear g2 g3)
            go_roundw
            case rel =>
              refine ⟨i + 1, m + 1, A2, d2, rfl, rfl, hi2, ?_⟩
              show _ ∧ _
              rw [HST.out, if_pos hmt]
              refine ⟨by rw [List.length_append, HI.out.1]; rfl, H4.out.1, ?_⟩
              exact (HW3.out.2.alloc HW3.out.2.size _).grown H4.out.2 (by rw [World.alloc_size']; have := HW3.out.2.size; omega) (fun q hq => (HW3.out.1.lt q hq).1)
            case measure => simp only [intOf]; omega
  · have hz : onZ l kk = [] := by unfold onZ; rw [if_neg (by rw [HN.out]; exact h0)]
    rw [hz]
    have hout : ¬ ((0 : Int) < kk ∧ kk < n) := by omega
    clear hz
    by_cases h1 : (0 : Int) < kk
    · have h2 : ¬ kk < n := fun h => hout ⟨h1, h⟩
      clear h0 hout
      go_enter Tryz.func45, Tryz.ntmps45
      go_wp2
      refine wp_loop_rounds 1 ?_
      rw [rounds_succ]
      go_wp2
      go_ret
      exact ⟨_, rfl, World.ownsRow_nil _ _ _ _, Below.refl _ _⟩
    · clear h0 hout
      go_enter Tryz.func45, Tryz.ntmps45
      go_wp2
      refine wp_loop_rounds 1 ?_
      rw [rounds_succ]
      go_wp2
      go_ret
      exact ⟨_, rfl, World.ownsRow_nil _ _ _ _, Below.refl _ _⟩
/-- Is a place among some? -/
def inPl (ps : List Int) (j : Nat) : Bool := ps.any fun p => decide (p = (j : Int))
/-- A place that is there meets one ahead that is not. -/
def badPair (l : List R) (ps : List Int) (k i : Nat) : Bool := inPl ps k && !inPl ps i && meetB (rAt l i) (rAt l k)
def badAt (l : List R) (ps : List Int) (k i : Nat) : Bool := (List.range i).any (badPair l ps k)
theorem inPl_iff {ps : List Int} {j : Nat} : inPl ps j = true ↔ (j : Int) ∈ ps := by
  unfold inPl
  rw [List.any_eq_true]
  constructor
  · rintro ⟨p, hp, h⟩
    have h : p = (j : Int) := by simpa using h
    rw [← h]
    exact hp
  · intro h
    exact ⟨_, h, by simp⟩
theorem lacks_iff {l : List R} {ps : List Int} {k : Nat} (hk : k < l.length) (hin : (k : Int) ∈ ps) : lacksAny l ps (k : Int) = badAt l ps k k := by
  unfold lacksAny badAt
  rw [onZ_nat l k hk, Bool.eq_iff_iff, List.any_eq_true, List.any_eq_true]
  constructor
  · rintro ⟨v, hv, h⟩
    unfold natV at hv
    obtain ⟨i, hi, rfl⟩ := List.mem_map.1 hv
    obtain ⟨h1, h2⟩ := onL_mem.1 hi
    refine ⟨i, List.mem_range.2 h1, ?_⟩
    unfold badPair
    have h3 : ps.count (i : Int) = 0 := by simpa [lackP] using h
    have h4 : inPl ps i = false := by
      rw [Bool.eq_false_iff]
      intro h5
      exact (List.count_eq_zero.1 h3) (inPl_iff.1 h5)
    rw [inPl_iff.2 hin, h4, h2]
    rfl
  · rintro ⟨i, hi, h⟩
    unfold badPair at h
    simp only [Bool.and_eq_true] at h
    refine ⟨.int .i64 (i : Int), ?_, ?_⟩
    · unfold natV
      exact List.mem_map.2 ⟨i, onL_mem.2 ⟨List.mem_range.1 hi, h.2⟩, rfl⟩
    · have h4 : ¬ (i : Int) ∈ ps := fun h5 => by
        have := inPl_iff.2 h5
        rw [this] at h
        simp at h
      show (ps.count (i : Int) == 0) = true
      simpa [List.count_eq_zero] using h4
theorem closed_iff (l : List R) (ps : List Int) : closedB l ps = !(List.range l.length).any fun k => badAt l ps k k := by
  unfold closedB
  congr 1
  rw [Bool.eq_iff_iff, List.any_eq_true, List.any_eq_true]
  constructor
  · rintro ⟨p, hp, h⟩
    have hz : 0 ≤ p ∧ p < l.length := by
      refine Decidable.byContradiction fun hh => ?_
      unfold lacksAny onZ at h
      rw [if_neg hh] at h
      simp [natV] at h
    obtain ⟨k, rfl⟩ : ∃ k : Nat, p = (k : Int) := ⟨p.toNat, by omega⟩
    rw [lacks_iff (by omega) hp] at h
    exact ⟨k, List.mem_range.2 (by omega), h⟩
  · rintro ⟨k, hk, h⟩
    have hin : (k : Int) ∈ ps := by
      unfold badAt at h
      obtain ⟨i, _, h1⟩ := List.any_eq_true.1 h
      unfold badPair at h1
      simp only [Bool.and_eq_true] at h1
      exact inPl_iff.1 h1.1.1
    exact ⟨_, hin, by rw [lacks_iff (List.mem_range.1 hk) hin]; exact h⟩
theorem inPl_take {ps : List Int} {i : Nat} {p : Int} (hp : ps[i]? = some p) (j : Nat) : inPl (ps.take (i + 1)) j = (inPl (ps.take i) j || decide (p = (j : Int))) := by
  unfold inPl
  rw [List.take_add_one, hp, List.any_append]
  simp
theorem badAt_succ {l : List R} {ps : List Int} {k i : Nat} (h : badAt l ps k i = false) (hp : badPair l ps k i = false) : badAt l ps k (i + 1) = false := by
  unfold badAt at *
  rw [List.range_succ, List.any_append, h]
  simp [hp]
set_option maxRecDepth 100000 in
set_option maxHeartbeats 8000000 in
theorem t_rclosed (A : Option Addr) (c n : Nat) (l : List R) (Ap : Option Addr) (np cp : Nat) (ps : List Int) (w : World) (hl : RecsAt w A l) (hn : l.length = n) (hn2 : n ≤ 1000) (hnc : n ≤ c) (hp : IntsAt w Ap ps) (hnp : ps.length = np) (hnp2 : np ≤ 60000) :
    Calls Tryz.prog 47 #[.slice A n c, .slice Ap np cp] w fun e w' => e = .returned (.bool (closedB l ps)) ∧ Below w.heap.size w w' := by
  obtain ⟨i0, hi0, hz0, hz1, hz2⟩ := infoB
  have HL := Lib.hid hl
  have HN := Lib.hid hn
  have HP := Lib.hid hp
  have HNP := Lib.hid hnp
  obtain ⟨res, hres⟩ : ∃ r, closedB l ps = r := ⟨_, rfl⟩
  rw [hres]
  rw [closed_iff] at hres
  have HRES := Lib.hid hres
  clear hl hn hp hnp hres
  go_enter Tryz.func47, Tryz.ntmps47
  go_wp2_with (at_make; refine wpList_make_full _ rfl _ _ 78 rfl w.heap.size 4 i0 (.bool false) 1 Tryz.underlying78 hi0 hz0 hz1 .i64 .i64 _ _ n rfl rfl rfl rfl (by rw [hz2]; omega) (by unfold maxLen; omega) (Nat.le_refl _) ?_; intro w2 hr2 hg2; rw [boolV_start] at hr2; have H2 := Lib.hid (And.intro hr2 hg2); clear hr2 hg2)
  obtain ⟨g, hg⟩ : ∃ g, w.heap.size = g := ⟨_, rfl⟩
  have hst : Hid (BoolsAt w2 g g n (inPl (ps.take 0)) ∧ Below w.heap.size w w2) := by
    have h3 := H2.out.1
    rw [hg] at h3
    exact ⟨BoolsAt.congr h3 (fun k _ => by unfold inPl; simp), (Below.refl _ _).grown H2.out.2 (Nat.le_refl _) (fun q h => by cases h)⟩
  have HG := Lib.hid hg
  rw [hg]
  clear hg H2
  go_loopw [6] (fun x wr => ∃ i : Nat, x = .int .i64 (i : Int) ∧ i ≤ np ∧ Hid (BoolsAt wr g g n (inPl (ps.take i)) ∧ Below w.heap.size w wr)) (fun x _ => np - (intOf x).toNat)
  case atStart => exact ⟨0, rfl, Nat.zero_le _, hst⟩
  case round =>
    obtain ⟨i, rfl, hi, HI⟩ := hrel
    by_cases he : i = np
    · have hs2 : Hid (BoolsAt wr g g n (inPl ps) ∧ Below w.heap.size w wr) := by
        have h := HI.out
        rw [he, List.take_of_length_le (by rw [HNP.out]; exact Nat.le_refl _)] at h
        exact h
      have he' : np = i := he.symm
      clear he hst HI
      subst he'
      go_wp2
      go_loopw [7] (fun x wr => ∃ k : Nat, x = .int .i64 (k : Int) ∧ k ≤ n ∧ Hid (BoolsAt wr g g n (inPl ps) ∧ Below w.heap.size w wr ∧ ((List.range k).any fun k => badAt l ps k k) = false)) (fun x _ => n - (intOf x).toNat)
      case atStart => exact ⟨0, rfl, Nat.zero_le _, hs2.out.1, hs2.out.2, rfl⟩
      case round =>
        obtain ⟨k, rfl, hk, HK⟩ := hrel
        by_cases hkn : k = n
        · have hf : Hid (true = res) := by
            have h := HK.out.2.2
            rw [hkn, ← HN.out] at h
            show true = res
            rw [← HRES.out, h]
            rfl
          have hkn' : n = k := hkn.symm
          clear hkn hs2
          subst hkn'
          go_wp2
          go_ret
          exact ⟨pret_bool hf.out, HK.out.2.1⟩
        · have hk2 : k < n := by omega
          obtain ⟨x, hx⟩ : ∃ x, l[k]? = some x := ⟨l[k]'(by rw [HN.out]; omega), List.getElem?_eq_getElem _⟩
          have HX1 := Lib.hid hx
          have HXO := Lib.hid (HL.out.ok x (List.mem_of_getElem? hx))
          clear hx hs2
          go_wp2
          obtain ⟨w0, rfl⟩ : ∃ w0 : World, w0 = wr := ⟨_, rfl⟩
          go_loopw [8] (fun x wr => ∃ i : Nat, x = .int .i64 (i : Int) ∧ i ≤ k ∧ Hid (BoolsAt wr g g n (inPl ps) ∧ Below w.heap.size w wr ∧ badAt l ps k i = false)) (fun x _ => k - (intOf x).toNat)
          case atStart => exact ⟨0, rfl, Nat.zero_le _, HK.out.1, HK.out.2.1, rfl⟩
          case round =>
            obtain ⟨i, rfl, hi, HJ⟩ := hrel
            by_cases hik : i = k
            · have hs3 : Hid (BoolsAt wr g g n (inPl ps) ∧ Below w.heap.size w wr ∧ ((List.range (k + 1)).any fun k => badAt l ps k k) = false) := by
                refine ⟨HJ.out.1, HJ.out.2.1, ?_⟩
                rw [List.range_succ, List.any_append, HK.out.2.2]
                have h := HJ.out.2.2
                rw [hik] at h
                simp [h]
              have hik' : k = i := hik.symm
              clear hik
              subst hik'
              go_wp2
              go_roundw
              case rel => exact ⟨k + 1, rfl, hk2, hs3⟩
              case measure => simp only [intOf]; omega
            · have hi2 : i < k := by omega
              have hin : i < n := by omega
              obtain ⟨y, hy⟩ : ∃ y, l[i]? = some y := ⟨l[i]'(by rw [HN.out]; omega), List.getElem?_eq_getElem _⟩
              obtain ⟨b, o, rfl, hbl, hc⟩ := HL.out.at_ (fun e => by rw [e] at hy; simp at hy)
              have HY1 := Lib.hid hy
              have HYO := Lib.hid (HL.out.ok y (List.mem_of_getElem? hy))
              have HBW : Hid (b < wr.heap.size) := Nat.lt_of_lt_of_le hbl HJ.out.2.1.size
              have hcw := fun (k : Nat) (r : R) (h1 : l[k]? = some r) (i : Nat) (v : Value) (h2 : (cellsR r)[i]? = some v) => (World.cell?_of_block (a := ⟨b, _, none⟩) (HJ.out.2.1.block b hbl)).trans (hc k r h1 i v h2)
              have HCW := Lib.hid hcw
              have hbad : ∀ q, badPair l ps k i = q → (q = false → badAt l ps k (i + 1) = false) ∧ (q = true → closedB l ps = false) := fun q hq => ⟨fun h => badAt_succ HJ.out.2.2 (hq.trans h), fun h => by
                rw [closed_iff, List.any_eq_true.2 ⟨k, List.mem_range.2 (by rw [HN.out]; exact hk2), ?_⟩]
                · rfl
                · unfold badAt
                  exact List.any_eq_true.2 ⟨i, List.mem_range.2 hi2, hq.trans h⟩⟩
              have hbp : badPair l ps k i = (inPl ps k && !inPl ps i && meetB y x) := by
                unfold badPair
                rw [rAt_get hy, rAt_get HX1.out]
              have HBAD := Lib.hid hbad
              have HBP := Lib.hid hbp
              obtain ⟨q0, hq0⟩ : ∃ q, inPl ps k = q := ⟨_, rfl⟩
              obtain ⟨q1, hq1⟩ : ∃ q, inPl ps i = q := ⟨_, rfl⟩
              have HQ0 := Lib.hid hq0
              have HQ1 := Lib.hid hq1
              clear hbl hc hy hcw hbad hbp hq0 hq1
              cases q0
              · go_wp2
                refine wp_region_rel RelB (phi [isV (.slice (some ⟨g, 0, none⟩) n n), isV (.int .i64 (k : Int)), isV (.pointer (some ⟨g, k, none⟩)), isV (.bool false), isV (.bool false), (fun _ _ => True), (fun _ _ => True), (fun _ _ => True), (fun _ _ => True), (fun _ _ => True), isV (.bool false), isV (.bool false), (fun _ _ => True), (fun _ _ => True), (fun _ _ => True), (fun _ _ => True), (fun _ _ => True), (fun _ _ => True), (fun _ _ => True), (fun _ _ => True), (fun _ _ => True), isV (.bool false)]) (by kernel_rfl) (by kernel_rfl) (by kernel_rfl) (RelB.of (below_drew _)) (fun _ _ _ a b => a.trans b) ?_ ?_ ?_
                · refine stays_phiR ?_
                  simp only [List.forall_mem_cons]
                  exact ⟨fun _ _ _ h _ => h, fun _ _ _ h _ => h, fun _ _ _ h _ => h, fun _ _ _ h _ => h, fun _ _ _ h _ => h, fun _ _ _ _ _ => trivial, fun _ _ _ _ _ => trivial, fun _ _ _ _ _ => trivial, fun _ _ _ _ _ => trivial, fun _ _ _ _ _ => trivial, fun _ _ _ h _ => h, fun _ _ _ h _ => h, fun _ _ _ _ _ => trivial, fun _ _ _ _ _ => trivial, fun _ _ _ _ _ => trivial, fun _ _ _ _ _ => trivial, fun _ _ _ _ _ => trivial, fun _ _ _ _ _ => trivial, fun _ _ _ _ _ => trivial, fun _ _ _ _ _ => trivial, fun _ _ _ _ _ => trivial, fun _ _ _ h _ => h, fun _ h => absurd h (by simp)⟩
                · refine ⟨?_, ?_, ?_, ?_, ?_, ?_, ?_, ?_, ?_, ?_, ?_, ?_, ?_, ?_, ?_, ?_, ?_, ?_, ?_, ?_, ?_, ?_, trivial⟩
                  · refine opR_mk rfl fun aa W2 hB hp hq K hK => ?_
                    have e5 : aa.tmps[5]?.getD undef = .slice (some ⟨g, 0, none⟩) n n := hp 5 (by kernel_rfl)
                    clear hp hq
                    go_simp
                    exact hK _ _ (RelB.refl _) rfl
                  · refine opR_mk rfl fun aa W2 hB hp hq K hK => ?_
                    have e7 : aa.tmps[7]?.getD undef = .int .i64 (k : Int) := hp 7 (by kernel_rfl)
                    clear hp hq
                    go_simp
                    exact hK _ _ (RelB.refl _) rfl
                  · refine opR_mk rfl fun aa W2 hB hp hq K hK => ?_
                    have e49 : aa.tmps[49]?.getD undef = .slice (some ⟨g, 0, none⟩) n n := hq 0 _ (by kernel_rfl) rfl
                    have e50 : aa.tmps[50]?.getD undef = .int .i64 (k : Int) := hq 1 _ (by kernel_rfl) rfl
                    clear hp hq
                    go_simp
                    exact hK _ _ (RelB.refl _) rfl
                  · refine opR_mk rfl fun aa W2 hB hp hq K hK => ?_
                    have e51 : aa.tmps[51]?.getD undef = .pointer (some ⟨g, k, none⟩) := hq 2 _ (by kernel_rfl) rfl
                    have cb := (HJ.out.1.below hB).cell hk2
                    rw [HQ0.out] at cb
                    clear hp hq
                    go_simp
                    exact hK _ _ (RelB.refl _) rfl
                  · refine opR_mk rfl fun aa W2 hB hp hq K hK => ?_
                    have e52 : aa.tmps[52]?.getD undef = .bool false := hq 3 _ (by kernel_rfl) rfl
                    clear hp hq
                    go_simp
                    exact hK _ _ (RelB.refl _) rfl
                  · exact opR_guard (j := 4) (d := 53) (c := false) rfl rfl (by kernel_rfl) rfl rfl (fun v W h => h) (fun _ => RelB.refl _) (fun _ _ => trivial) (fun hc => absurd hc (by decide))
                  · exact opR_guard (j := 4) (d := 53) (c := false) rfl rfl (by kernel_rfl) rfl rfl (fun v W h => h) (fun _ => RelB.refl _) (fun _ _ => trivial) (fun hc => absurd hc (by decide))
                  · exact opR_guard (j := 4) (d := 53) (c := false) rfl rfl (by kernel_rfl) rfl rfl (fun v W h => h) (fun _ => RelB.refl _) (fun _ _ => trivial) (fun hc => absurd hc (by decide))
                  · exact opR_guard (j := 4) (d := 53) (c := false) rfl rfl (by kernel_rfl) rfl rfl (fun v W h => h) (fun _ => RelB.refl _) (fun _ _ => trivial) (fun hc => absurd hc (by decide))
                  · exact opR_guard (j := 4) (d := 53) (c := false) rfl rfl (by kernel_rfl) rfl rfl (fun v W h => h) (fun _ => RelB.refl _) (fun _ _ => trivial) (fun hc => absurd hc (by decide))
                  · refine opR_mk rfl fun aa W2 hB hp hq K hK => ?_
                    have e53 : aa.tmps[53]?.getD undef = .bool false := hq 4 _ (by kernel_rfl) rfl
                    clear hp hq
                    go_simp
                    exact hK _ _ (RelB.refl _) rfl
                  · refine opR_mk rfl fun aa W2 hB hp hq K hK => ?_
                    have e59 : aa.tmps[59]?.getD undef = .bool false := hq 10 _ (by kernel_rfl) rfl
                    clear hp hq
                    go_simp
                    exact hK _ _ (RelB.refl _) rfl
                  · exact opR_guard (j := 11) (d := 60) (c := false) rfl rfl (by kernel_rfl) rfl rfl (fun v W h => h) (fun _ => RelB.refl _) (fun _ _ => trivial) (fun hc => absurd hc (by decide))
                  · exact opR_guard (j := 11) (d := 60) (c := false) rfl rfl (by kernel_rfl) rfl rfl (fun v W h => h) (fun _ => RelB.refl _) (fun _ _ => trivial) (fun hc => absurd hc (by decide))
                  · exact opR_guard (j := 11) (d := 60) (c := false) rfl rfl (by kernel_rfl) rfl rfl (fun v W h => h) (fun _ => RelB.refl _) (fun _ _ => trivial) (fun hc => absurd hc (by decide))
                  · exact opR_guard (j := 11) (d := 60) (c := false) rfl rfl (by kernel_rfl) rfl rfl (fun v W h => h) (fun _ => RelB.refl _) (fun _ _ => trivial) (fun hc => absurd hc (by decide))
                  · exact opR_guard (j := 11) (d := 60) (c := false) rfl rfl (by kernel_rfl) rfl rfl (fun v W h => h) (fun _ => RelB.refl _) (fun _ _ => trivial) (fun hc => absurd hc (by decide))
                  · exact opR_guard (j := 11) (d := 60) (c := false) rfl rfl (by kernel_rfl) rfl rfl (fun v W h => h) (fun _ => RelB.refl _) (fun _ _ => trivial) (fun hc => absurd hc (by decide))
                  · exact opR_guard (j := 11) (d := 60) (c := false) rfl rfl (by kernel_rfl) rfl rfl (fun v W h => h) (fun _ => RelB.refl _) (fun _ _ => trivial) (fun hc => absurd hc (by decide))
                  · exact opR_guard (j := 11) (d := 60) (c := false) rfl rfl (by kernel_rfl) rfl rfl (fun v W h => h) (fun _ => RelB.refl _) (fun _ _ => trivial) (fun hc => absurd hc (by decide))
                  · exact opR_guard (j := 11) (d := 60) (c := false) rfl rfl (by kernel_rfl) rfl rfl (fun v W h => h) (fun _ => RelB.refl _) (fun _ _ => trivial) (fun hc => absurd hc (by decide))
                  · refine opR_mk rfl fun aa W2 hB hp hq K hK => ?_
                    have e60 : aa.tmps[60]?.getD undef = .bool false := hq 11 _ (by kernel_rfl) rfl
                    clear hp hq
                    go_simp
                    exact hK _ _ (RelB.refl _) rfl
                · intro vs W3 hB3 hv3 _
                  have v21 : vs 21 = .bool (false) := hv3 21 _ rfl rfl
                  have HW3 := Lib.hid (And.intro (HJ.out.1.below hB3) (ptrans HJ.out.2.1 hB3))
                  clear hB3 hv3
                  simp only [List.take_succ_cons, List.take_zero, putAll, Act.put, List.setIfInBounds_toArray, List.set_cons_succ, List.set_cons_zero, Nat.zero_add, Nat.reduceAdd, v21]
                  have hb4 := (HBAD.out false (by rw [HBP.out, HQ0.out]; simp)).1 rfl
                  have HB4 := Lib.hid hb4
                  clear hb4
                  go_wp2
                  go_roundw
                  case rel => exact ⟨i + 1, rfl, hi2, HW3.out.1, HW3.out.2, HB4.out⟩
                  case measure => simp only [intOf]; omega
              · cases q1
                · go_wp2
                  refine wp_region_rel RelB (phi [isV (.slice (some ⟨g, 0, none⟩) n n), isV (.int .i64 (k : Int)), isV (.pointer (some ⟨g, k, none⟩)), isV (.bool true), isV (.bool true), isV (.slice (some ⟨g, 0, none⟩) n n), isV (.int .i64 (i : Int)), isV (.pointer (some ⟨g, i, none⟩)), isV (.bool false), isV (.bool true), isV (.bool true), isV (.bool true), isV (.slice (some ⟨b, o, none⟩) n c), isV (.int .i64 (i : Int)), isV (.pointer (some ⟨b, o + i * 12, none⟩)), isV (.agg #[.int .u64 y.stamp, .int .u8 y.act, .int .u32 y.dir, .string y.name, .int .u32 y.ino, .int .u8 y.kind, .int .u32 y.dir2, .string y.name2, .int .u32 y.old, .int .u32 y.size, .int .i64 y.page, .string y.data]), isV (.slice (some ⟨b, o, none⟩) n c), isV (.int .i64 (k : Int)), isV (.pointer (some ⟨b, o + k * 12, none⟩)), isV (.agg #[.int .u64 x.stamp, .int .u8 x.act, .int .u32 x.dir, .string x.name, .int .u32 x.ino, .int .u8 x.kind, .int .u32 x.dir2, .string x.name2, .int .u32 x.old, .int .u32 x.size, .int .i64 x.page, .string x.data]), isV (.bool (meetB y x)), isV (.bool (meetB y x))]) (by kernel_rfl) (by kernel_rfl) (by kernel_rfl) (RelB.of (below_drew _)) (fun _ _ _ a b => a.trans b) ?_ ?_ ?_
                  · refine stays_phiR ?_
                    simp only [List.forall_mem_cons]
                    exact ⟨fun _ _ _ h _ => h, fun _ _ _ h _ => h, fun _ _ _ h _ => h, fun _ _ _ h _ => h, fun _ _ _ h _ => h, fun _ _ _ h _ => h, fun _ _ _ h _ => h, fun _ _ _ h _ => h, fun _ _ _ h _ => h, fun _ _ _ h _ => h, fun _ _ _ h _ => h, fun _ _ _ h _ => h, fun _ _ _ h _ => h, fun _ _ _ h _ => h, fun _ _ _ h _ => h, fun _ _ _ h _ => h, fun _ _ _ h _ => h, fun _ _ _ h _ => h, fun _ _ _ h _ => h, fun _ _ _ h _ => h, fun _ _ _ h _ => h, fun _ _ _ h _ => h, fun _ h => absurd h (by simp)⟩
                  · refine ⟨?_, ?_, ?_, ?_, ?_, ?_, ?_, ?_, ?_, ?_, ?_, ?_, ?_, ?_, ?_, ?_, ?_, ?_, ?_, ?_, ?_, ?_, trivial⟩
                    · refine opR_mk rfl fun aa W2 hB hp hq K hK => ?_
                      have e5 : aa.tmps[5]?.getD undef = .slice (some ⟨g, 0, none⟩) n n := hp 5 (by kernel_rfl)
                      clear hp hq
                      go_simp
                      exact hK _ _ (RelB.refl _) rfl
                    · refine opR_mk rfl fun aa W2 hB hp hq K hK => ?_
                      have e7 : aa.tmps[7]?.getD undef = .int .i64 (k : Int) := hp 7 (by kernel_rfl)
                      clear hp hq
                      go_simp
                      exact hK _ _ (RelB.refl _) rfl
                    · refine opR_mk rfl fun aa W2 hB hp hq K hK => ?_
                      have e49 : aa.tmps[49]?.getD undef = .slice (some ⟨g, 0, none⟩) n n := hq 0 _ (by kernel_rfl) rfl
                      have e50 : aa.tmps[50]?.getD undef = .int .i64 (k : Int) := hq 1 _ (by kernel_rfl) rfl
                      clear hp hq
                      go_simp
                      exact hK _ _ (RelB.refl _) rfl
                    · refine opR_mk rfl fun aa W2 hB hp hq K hK => ?_
                      have e51 : aa.tmps[51]?.getD undef = .pointer (some ⟨g, k, none⟩) := hq 2 _ (by kernel_rfl) rfl
                      have cb := (HJ.out.1.below hB).cell hk2
                      rw [HQ0.out] at cb
                      clear hp hq
                      go_simp
                      exact hK _ _ (RelB.refl _) rfl
                    · refine opR_mk rfl fun aa W2 hB hp hq K hK => ?_
                      have e52 : aa.tmps[52]?.getD undef = .bool true := hq 3 _ (by kernel_rfl) rfl
                      clear hp hq
                      go_simp
                      exact hK _ _ (RelB.refl _) rfl
                    · refine opR_guard (j := 4) (d := 53) (c := true) rfl rfl (by kernel_rfl) rfl rfl (fun v W h => h) (fun _ => RelB.refl _) (fun hne => absurd rfl hne) fun hc aa W2 hB hp hq K hK => ?_
                      have e5 : aa.tmps[5]?.getD undef = .slice (some ⟨g, 0, none⟩) n n := hp 5 (by kernel_rfl)
                      clear hp hq
                      go_simp
                      exact hK _ _ (RelB.refl _) rfl
                    · refine opR_guard (j := 4) (d := 53) (c := true) rfl rfl (by kernel_rfl) rfl rfl (fun v W h => h) (fun _ => RelB.refl _) (fun hne => absurd rfl hne) fun hc aa W2 hB hp hq K hK => ?_
                      have e8 : aa.tmps[8]?.getD undef = .int .i64 (i : Int) := hp 8 (by kernel_rfl)
                      clear hp hq
                      go_simp
                      exact hK _ _ (RelB.refl _) rfl
                    · refine opR_guard (j := 4) (d := 53) (c := true) rfl rfl (by kernel_rfl) rfl rfl (fun v W h => h) (fun _ => RelB.refl _) (fun hne => absurd rfl hne) fun hc aa W2 hB hp hq K hK => ?_
                      have e54 : aa.tmps[54]?.getD undef = .slice (some ⟨g, 0, none⟩) n n := hq 5 _ (by kernel_rfl) rfl
                      have e55 : aa.tmps[55]?.getD undef = .int .i64 (i : Int) := hq 6 _ (by kernel_rfl) rfl
                      clear hp hq
                      go_simp
                      exact hK _ _ (RelB.refl _) rfl
                    · refine opR_guard (j := 4) (d := 53) (c := true) rfl rfl (by kernel_rfl) rfl rfl (fun v W h => h) (fun _ => RelB.refl _) (fun hne => absurd rfl hne) fun hc aa W2 hB hp hq K hK => ?_
                      have e56 : aa.tmps[56]?.getD undef = .pointer (some ⟨g, i, none⟩) := hq 7 _ (by kernel_rfl) rfl
                      have cb := (HJ.out.1.below hB).cell hin
                      rw [HQ1.out] at cb
                      clear hp hq
                      go_simp
                      exact hK _ _ (RelB.refl _) rfl
                    · refine opR_guard (j := 4) (d := 53) (c := true) rfl rfl (by kernel_rfl) rfl rfl (fun v W h => h) (fun _ => RelB.refl _) (fun hne => absurd rfl hne) fun hc aa W2 hB hp hq K hK => ?_
                      have e57 : aa.tmps[57]?.getD undef = .bool false := hq 8 _ (by kernel_rfl) rfl
                      clear hp hq
                      go_simp
                      exact hK _ _ (RelB.refl _) rfl
                    · refine opR_mk rfl fun aa W2 hB hp hq K hK => ?_
                      have e53 : aa.tmps[53]?.getD undef = .bool true := hq 4 _ (by kernel_rfl) rfl
                      have e58 : aa.tmps[58]?.getD undef = .bool true := hq 9 _ (by kernel_rfl) rfl
                      clear hp hq
                      go_simp
                      exact hK _ _ (RelB.refl _) rfl
                    · refine opR_mk rfl fun aa W2 hB hp hq K hK => ?_
                      have e59 : aa.tmps[59]?.getD undef = .bool true := hq 10 _ (by kernel_rfl) rfl
                      clear hp hq
                      go_simp
                      exact hK _ _ (RelB.refl _) rfl
                    · refine opR_guard (j := 11) (d := 60) (c := true) rfl rfl (by kernel_rfl) rfl rfl (fun v W h => h) (fun _ => RelB.refl _) (fun hne => absurd rfl hne) fun hc aa W2 hB hp hq K hK => ?_
                      have e0 : aa.tmps[0]?.getD undef = .slice (some ⟨b, o, none⟩) n c := hp 0 (by kernel_rfl)
                      clear hp hq
                      go_simp
                      exact hK _ _ (RelB.refl _) rfl
                    · refine opR_guard (j := 11) (d := 60) (c := true) rfl rfl (by kernel_rfl) rfl rfl (fun v W h => h) (fun _ => RelB.refl _) (fun hne => absurd rfl hne) fun hc aa W2 hB hp hq K hK => ?_
                      have e8 : aa.tmps[8]?.getD undef = .int .i64 (i : Int) := hp 8 (by kernel_rfl)
                      clear hp hq
                      go_simp
                      exact hK _ _ (RelB.refl _) rfl
                    · refine opR_guard (j := 11) (d := 60) (c := true) rfl rfl (by kernel_rfl) rfl rfl (fun v W h => h) (fun _ => RelB.refl _) (fun hne => absurd rfl hne) fun hc aa W2 hB hp hq K hK => ?_
                      have e61 : aa.tmps[61]?.getD undef = .slice (some ⟨b, o, none⟩) n c := hq 12 _ (by kernel_rfl) rfl
                      have e62 : aa.tmps[62]?.getD undef = .int .i64 (i : Int) := hq 13 _ (by kernel_rfl) rfl
                      clear hp hq
                      go_simp
                      exact hK _ _ (RelB.refl _) rfl
                    · refine opR_guard (j := 11) (d := 60) (c := true) rfl rfl (by kernel_rfl) rfl rfl (fun v W h => h) (fun _ => RelB.refl _) (fun hne => absurd rfl hne) fun hc aa W2 hB hp hq K hK => ?_
                      have e63 : aa.tmps[63]?.getD undef = .pointer (some ⟨b, o + i * 12, none⟩) := hq 14 _ (by kernel_rfl) rfl
                      have c0 : W2.cell? ⟨b, o + i * 12, none⟩ = some (.int .u64 y.stamp) := (World.cell?_of_block (a := ⟨b, _, none⟩) (Below.block hB b HBW.out)).trans (HCW.out i y HY1.out 0 _ rfl)
                      have c1 := (World.cell?_of_block (a := ⟨b, _, none⟩) (Below.block hB b HBW.out)).trans (HCW.out i y HY1.out 1 _ rfl)
                      have c2 := (World.cell?_of_block (a := ⟨b, _, none⟩) (Below.block hB b HBW.out)).trans (HCW.out i y HY1.out 2 _ rfl)
                      have c3 := (World.cell?_of_block (a := ⟨b, _, none⟩) (Below.block hB b HBW.out)).trans (HCW.out i y HY1.out 3 _ rfl)
                      have c4 := (World.cell?_of_block (a := ⟨b, _, none⟩) (Below.block hB b HBW.out)).trans (HCW.out i y HY1.out 4 _ rfl)
                      have c5 := (World.cell?_of_block (a := ⟨b, _, none⟩) (Below.block hB b HBW.out)).trans (HCW.out i y HY1.out 5 _ rfl)
                      have c6 := (World.cell?_of_block (a := ⟨b, _, none⟩) (Below.block hB b HBW.out)).trans (HCW.out i y HY1.out 6 _ rfl)
                      have c7 := (World.cell?_of_block (a := ⟨b, _, none⟩) (Below.block hB b HBW.out)).trans (HCW.out i y HY1.out 7 _ rfl)
                      have c8 := (World.cell?_of_block (a := ⟨b, _, none⟩) (Below.block hB b HBW.out)).trans (HCW.out i y HY1.out 8 _ rfl)
                      have c9 := (World.cell?_of_block (a := ⟨b, _, none⟩) (Below.block hB b HBW.out)).trans (HCW.out i y HY1.out 9 _ rfl)
                      have c10 := (World.cell?_of_block (a := ⟨b, _, none⟩) (Below.block hB b HBW.out)).trans (HCW.out i y HY1.out 10 _ rfl)
                      have c11 := (World.cell?_of_block (a := ⟨b, _, none⟩) (Below.block hB b HBW.out)).trans (HCW.out i y HY1.out 11 _ rfl)
                      clear hp hq
                      go_simp
                      exact hK _ _ (RelB.refl _) rfl
                    · refine opR_guard (j := 11) (d := 60) (c := true) rfl rfl (by kernel_rfl) rfl rfl (fun v W h => h) (fun _ => RelB.refl _) (fun hne => absurd rfl hne) fun hc aa W2 hB hp hq K hK => ?_
                      have e0 : aa.tmps[0]?.getD undef = .slice (some ⟨b, o, none⟩) n c := hp 0 (by kernel_rfl)
                      clear hp hq
                      go_simp
                      exact hK _ _ (RelB.refl _) rfl
                    · refine opR_guard (j := 11) (d := 60) (c := true) rfl rfl (by kernel_rfl) rfl rfl (fun v W h => h) (fun _ => RelB.refl _) (fun hne => absurd rfl hne) fun hc aa W2 hB hp hq K hK => ?_
                      have e7 : aa.tmps[7]?.getD undef = .int .i64 (k : Int) := hp 7 (by kernel_rfl)
                      clear hp hq
                      go_simp
                      exact hK _ _ (RelB.refl _) rfl
                    · refine opR_guard (j := 11) (d := 60) (c := true) rfl rfl (by kernel_rfl) rfl rfl (fun v W h => h) (fun _ => RelB.refl _) (fun hne => absurd rfl hne) fun hc aa W2 hB hp hq K hK => ?_
                      have e65 : aa.tmps[65]?.getD undef = .slice (some ⟨b, o, none⟩) n c := hq 16 _ (by kernel_rfl) rfl
                      have e66 : aa.tmps[66]?.getD undef = .int .i64 (k : Int) := hq 17 _ (by kernel_rfl) rfl
                      clear hp hq
                      go_simp
                      exact hK _ _ (RelB.refl _) rfl
                    · refine opR_guard (j := 11) (d := 60) (c := true) rfl rfl (by kernel_rfl) rfl rfl (fun v W h => h) (fun _ => RelB.refl _) (fun hne => absurd rfl hne) fun hc aa W2 hB hp hq K hK => ?_
                      have e67 : aa.tmps[67]?.getD undef = .pointer (some ⟨b, o + k * 12, none⟩) := hq 18 _ (by kernel_rfl) rfl
                      have d0 : W2.cell? ⟨b, o + k * 12, none⟩ = some (.int .u64 x.stamp) := (World.cell?_of_block (a := ⟨b, _, none⟩) (Below.block hB b HBW.out)).trans (HCW.out k x HX1.out 0 _ rfl)
                      have d1 := (World.cell?_of_block (a := ⟨b, _, none⟩) (Below.block hB b HBW.out)).trans (HCW.out k x HX1.out 1 _ rfl)
                      have d2 := (World.cell?_of_block (a := ⟨b, _, none⟩) (Below.block hB b HBW.out)).trans (HCW.out k x HX1.out 2 _ rfl)
                      have d3 := (World.cell?_of_block (a := ⟨b, _, none⟩) (Below.block hB b HBW.out)).trans (HCW.out k x HX1.out 3 _ rfl)
                      have d4 := (World.cell?_of_block (a := ⟨b, _, none⟩) (Below.block hB b HBW.out)).trans (HCW.out k x HX1.out 4 _ rfl)
                      have d5 := (World.cell?_of_block (a := ⟨b, _, none⟩) (Below.block hB b HBW.out)).trans (HCW.out k x HX1.out 5 _ rfl)
                      have d6 := (World.cell?_of_block (a := ⟨b, _, none⟩) (Below.block hB b HBW.out)).trans (HCW.out k x HX1.out 6 _ rfl)
                      have d7 := (World.cell?_of_block (a := ⟨b, _, none⟩) (Below.block hB b HBW.out)).trans (HCW.out k x HX1.out 7 _ rfl)
                      have d8 := (World.cell?_of_block (a := ⟨b, _, none⟩) (Below.block hB b HBW.out)).trans (HCW.out k x HX1.out 8 _ rfl)
                      have d9 := (World.cell?_of_block (a := ⟨b, _, none⟩) (Below.block hB b HBW.out)).trans (HCW.out k x HX1.out 9 _ rfl)
                      have d10 := (World.cell?_of_block (a := ⟨b, _, none⟩) (Below.block hB b HBW.out)).trans (HCW.out k x HX1.out 10 _ rfl)
                      have d11 := (World.cell?_of_block (a := ⟨b, _, none⟩) (Below.block hB b HBW.out)).trans (HCW.out k x HX1.out 11 _ rfl)
                      clear hp hq
                      go_simp
                      exact hK _ _ (RelB.refl _) rfl
                    · refine opR_guard (j := 11) (d := 60) (c := true) rfl rfl (by kernel_rfl) rfl rfl (fun v W h => h) (fun _ => RelB.refl _) (fun hne => absurd rfl hne) fun hc aa W2 hB hp hq K hK => ?_
                      have e64 : aa.tmps[64]?.getD undef = .agg #[.int .u64 y.stamp, .int .u8 y.act, .int .u32 y.dir, .string y.name, .int .u32 y.ino, .int .u8 y.kind, .int .u32 y.dir2, .string y.name2, .int .u32 y.old, .int .u32 y.size, .int .i64 y.page, .string y.data] := hq 15 _ (by kernel_rfl) rfl
                      have e68 : aa.tmps[68]?.getD undef = .agg #[.int .u64 x.stamp, .int .u8 x.act, .int .u32 x.dir, .string x.name, .int .u32 x.ino, .int .u8 x.kind, .int .u32 x.dir2, .string x.name2, .int .u32 x.old, .int .u32 x.size, .int .i64 x.page, .string x.data] := hq 19 _ (by kernel_rfl) rfl
                      clear hp hq
                      go_simp
                      refine (t_rmeet y x HYO.out HXO.out W2).mono ?_
                      rintro e w2 ⟨rfl, hb2⟩
                      exact hK _ _ (RelB.of hb2) rfl
                    · refine opR_mk rfl fun aa W2 hB hp hq K hK => ?_
                      have e60 : aa.tmps[60]?.getD undef = .bool true := hq 11 _ (by kernel_rfl) rfl
                      have e69 : aa.tmps[69]?.getD undef = .bool (meetB y x) := hq 20 _ (by kernel_rfl) rfl
                      clear hp hq
                      go_simp
                      exact hK _ _ (RelB.refl _) rfl
                  · intro vs W3 hB3 hv3 _
                    have v21 : vs 21 = .bool (meetB y x) := hv3 21 _ rfl rfl
                    have HW3 := Lib.hid (And.intro (HJ.out.1.below hB3) (ptrans HJ.out.2.1 hB3))
                    clear hB3 hv3
                    simp only [List.take_succ_cons, List.take_zero, putAll, Act.put, List.setIfInBounds_toArray, List.set_cons_succ, List.set_cons_zero, Nat.zero_add, Nat.reduceAdd, v21]
                    cases hmt : meetB y x
                    · have hb4 := (HBAD.out false (by rw [HBP.out, HQ0.out, HQ1.out]; simp [hmt])).1 rfl
                      have HB4 := Lib.hid hb4
                      clear hb4
                      go_wp2
                      go_roundw
                      case rel => exact ⟨i + 1, rfl, hi2, HW3.out.1, HW3.out.2, HB4.out⟩
                      case measure => simp only [intOf]; omega
                    · have hf : Hid (false = res) := by
                        show false = res
                        rw [← HRES.out, ← closed_iff]
                        exact ((HBAD.out true (by rw [HBP.out, HQ0.out, HQ1.out]; simp [hmt])).2 rfl).symm
                      go_wp2
                      go_ret
                      exact ⟨pret_bool hf.out, HW3.out.2⟩
                · go_wp2
                  refine wp_region_rel RelB (phi [isV (.slice (some ⟨g, 0, none⟩) n n), isV (.int .i64 (k : Int)), isV (.pointer (some ⟨g, k, none⟩)), isV (.bool true), isV (.bool true), isV (.slice (some ⟨g, 0, none⟩) n n), isV (.int .i64 (i : Int)), isV (.pointer (some ⟨g, i, none⟩)), isV (.bool true), isV (.bool false), isV (.bool false), isV (.bool false), (fun _ _ => True), (fun _ _ => True), (fun _ _ => True), (fun _ _ => True), (fun _ _ => True), (fun _ _ => True), (fun _ _ => True), (fun _ _ => True), (fun _ _ => True), isV (.bool false)]) (by kernel_rfl) (by kernel_rfl) (by kernel_rfl) (RelB.of (below_drew _)) (fun _ _ _ a b => a.trans b) ?_ ?_ ?_
                  · refine stays_phiR ?_
                    simp only [List.forall_mem_cons]
                    exact ⟨fun _ _ _ h _ => h, fun _ _ _ h _ => h, fun _ _ _ h _ => h, fun _ _ _ h _ => h, fun _ _ _ h _ => h, fun _ _ _ h _ => h, fun _ _ _ h _ => h, fun _ _ _ h _ => h, fun _ _ _ h _ => h, fun _ _ _ h _ => h, fun _ _ _ h _ => h, fun _ _ _ h _ => h, fun _ _ _ _ _ => trivial, fun _ _ _ _ _ => trivial, fun _ _ _ _ _ => trivial, fun _ _ _ _ _ => trivial, fun _ _ _ _ _ => trivial, fun _ _ _ _ _ => trivial, fun _ _ _ _ _ => trivial, fun _ _ _ _ _ => trivial, fun _ _ _ _ _ => trivial, fun _ _ _ h _ => h, fun _ h => absurd h (by simp)⟩
                  · refine ⟨?_, ?_, ?_, ?_, ?_, ?_, ?_, ?_, ?_, ?_, ?_, ?_, ?_, ?_, ?_, ?_, ?_, ?_, ?_, ?_, ?_, ?_, trivial⟩
                    · refine opR_mk rfl fun aa W2 hB hp hq K hK => ?_
                      have e5 : aa.tmps[5]?.getD undef = .slice (some ⟨g, 0, none⟩) n n := hp 5 (by kernel_rfl)
                      clear hp hq
                      go_simp
                      exact hK _ _ (RelB.refl _) rfl
                    · refine opR_mk rfl fun aa W2 hB hp hq K hK => ?_
                      have e7 : aa.tmps[7]?.getD undef = .int .i64 (k : Int) := hp 7 (by kernel_rfl)
                      clear hp hq
                      go_simp
                      exact hK _ _ (RelB.refl _) rfl
                    · refine opR_mk rfl fun aa W2 hB hp hq K hK => ?_
                      have e49 : aa.tmps[49]?.getD undef = .slice (some ⟨g, 0, none⟩) n n := hq 0 _ (by kernel_rfl) rfl
                      have e50 : aa.tmps[50]?.getD undef = .int .i64 (k : Int) := hq 1 _ (by kernel_rfl) rfl
                      clear hp hq
                      go_simp
                      exact hK _ _ (RelB.refl _) rfl
                    · refine opR_mk rfl fun aa W2 hB hp hq K hK => ?_
                      have e51 : aa.tmps[51]?.getD undef = .pointer (some ⟨g, k, none⟩) := hq 2 _ (by kernel_rfl) rfl
                      have cb := (HJ.out.1.below hB).cell hk2
                      rw [HQ0.out] at cb
                      clear hp hq
                      go_simp
                      exact hK _ _ (RelB.refl _) rfl
                    · refine opR_mk rfl fun aa W2 hB hp hq K hK => ?_
                      have e52 : aa.tmps[52]?.getD undef = .bool true := hq 3 _ (by kernel_rfl) rfl
                      clear hp hq
                      go_simp
                      exact hK _ _ (RelB.refl _) rfl
                    · refine opR_guard (j := 4) (d := 53) (c := true) rfl rfl (by kernel_rfl) rfl rfl (fun v W h => h) (fun _ => RelB.refl _) (fun hne => absurd rfl hne) fun hc aa W2 hB hp hq K hK => ?_
                      have e5 : aa.tmps[5]?.getD undef = .slice (some ⟨g, 0, none⟩) n n := hp 5 (by kernel_rfl)
                      clear hp hq
                      go_simp
                      exact hK _ _ (RelB.refl _) rfl
                    · refine opR_guard (j := 4) (d := 53) (c := true) rfl rfl (by kernel_rfl) rfl rfl (fun v W h => h) (fun _ => RelB.refl _) (fun hne => absurd rfl hne) fun hc aa W2 hB hp hq K hK => ?_
                      have e8 : aa.tmps[8]?.getD undef = .int .i64 (i : Int) := hp 8 (by kernel_rfl)
                      clear hp hq
                      go_simp
                      exact hK _ _ (RelB.refl _) rfl
                    · refine opR_guard (j := 4) (d := 53) (c := true) rfl rfl (by kernel_rfl) rfl rfl (fun v W h => h) (fun _ => RelB.refl _) (fun hne => absurd rfl hne) fun hc aa W2 hB hp hq K hK => ?_
                      have e54 : aa.tmps[54]?.getD undef = .slice (some ⟨g, 0, none⟩) n n := hq 5 _ (by kernel_rfl) rfl
                      have e55 : aa.tmps[55]?.getD undef = .int .i64 (i : Int) := hq 6 _ (by kernel_rfl) rfl
                      clear hp hq
                      go_simp
                      exact hK _ _ (RelB.refl _) rfl
                    · refine opR_guard (j := 4) (d := 53) (c := true) rfl rfl (by kernel_rfl) rfl rfl (fun v W h => h) (fun _ => RelB.refl _) (fun hne => absurd rfl hne) fun hc aa W2 hB hp hq K hK => ?_
                      have e56 : aa.tmps[56]?.getD undef = .pointer (some ⟨g, i, none⟩) := hq 7 _ (by kernel_rfl) rfl
                      have cb := (HJ.out.1.below hB).cell hin
                      rw [HQ1.out] at cb
                      clear hp hq
                      go_simp
                      exact hK _ _ (RelB.refl _) rfl
                    · refine opR_guard (j := 4) (d := 53) (c := true) rfl rfl (by kernel_rfl) rfl rfl (fun v W h => h) (fun _ => RelB.refl _) (fun hne => absurd rfl hne) fun hc aa W2 hB hp hq K hK => ?_
                      have e57 : aa.tmps[57]?.getD undef = .bool true := hq 8 _ (by kernel_rfl) rfl
                      clear hp hq
                      go_simp
                      exact hK _ _ (RelB.refl _) rfl
                    · refine opR_mk rfl fun aa W2 hB hp hq K hK => ?_
                      have e53 : aa.tmps[53]?.getD undef = .bool true := hq 4 _ (by kernel_rfl) rfl
                      have e58 : aa.tmps[58]?.getD undef = .bool false := hq 9 _ (by kernel_rfl) rfl
                      clear hp hq
                      go_simp
                      exact hK _ _ (RelB.refl _) rfl
                    · refine opR_mk rfl fun aa W2 hB hp hq K hK => ?_
                      have e59 : aa.tmps[59]?.getD undef = .bool false := hq 10 _ (by kernel_rfl) rfl
                      clear hp hq
                      go_simp
                      exact hK _ _ (RelB.refl _) rfl
                    · exact opR_guard (j := 11) (d := 60) (c := false) rfl rfl (by kernel_rfl) rfl rfl (fun v W h => h) (fun _ => RelB.refl _) (fun _ _ => trivial) (fun hc => absurd hc (by decide))
                    · exact opR_guard (j := 11) (d := 60) (c := false) rfl rfl (by kernel_rfl) rfl rfl (fun v W h => h) (fun _ => RelB.refl _) (fun _ _ => trivial) (fun hc => absurd hc (by decide))
                    · exact opR_guard (j := 11) (d := 60) (c := false) rfl rfl (by kernel_rfl) rfl rfl (fun v W h => h) (fun _ => RelB.refl _) (fun _ _ => trivial) (fun hc => absurd hc (by decide))
                    · exact opR_guard (j := 11) (d := 60) (c := false) rfl rfl (by kernel_rfl) rfl rfl (fun v W h => h) (fun _ => RelB.refl _) (fun _ _ => trivial) (fun hc => absurd hc (by decide))
                    · exact opR_guard (j := 11) (d := 60) (c := false) rfl rfl (by kernel_rfl) rfl rfl (fun v W h => h) (fun _ => RelB.refl _) (fun _ _ => trivial) (fun hc => absurd hc (by decide))
                    · exact opR_guard (j := 11) (d := 60) (c := false) rfl rfl (by kernel_rfl) rfl rfl (fun v W h => h) (fun _ => RelB.refl _) (fun _ _ => trivial) (fun hc => absurd hc (by decide))
                    · exact opR_guard (j := 11) (d := 60) (c := false) rfl rfl (by kernel_rfl) rfl rfl (fun v W h => h) (fun _ => RelB.refl _) (fun _ _ => trivial) (fun hc => absurd hc (by decide))
                    · exact opR_guard (j := 11) (d := 60) (c := false) rfl rfl (by kernel_rfl) rfl rfl (fun v W h => h) (fun _ => RelB.refl _) (fun _ _ => trivial) (fun hc => absurd hc (by decide))
                    · exact opR_guard (j := 11) (d := 60) (c := false) rfl rfl (by kernel_rfl) rfl rfl (fun v W h => h) (fun _ => RelB.refl _) (fun _ _ => trivial) (fun hc => absurd hc (by decide))
                    · refine opR_mk rfl fun aa W2 hB hp hq K hK => ?_
                      have e60 : aa.tmps[60]?.getD undef = .bool false := hq 11 _ (by kernel_rfl) rfl
                      clear hp hq
                      go_simp
                      exact hK _ _ (RelB.refl _) rfl
                  · intro vs W3 hB3 hv3 _
                    have v21 : vs 21 = .bool (false) := hv3 21 _ rfl rfl
                    have HW3 := Lib.hid (And.intro (HJ.out.1.below hB3) (ptrans HJ.out.2.1 hB3))
                    clear hB3 hv3
                    simp only [List.take_succ_cons, List.take_zero, putAll, Act.put, List.setIfInBounds_toArray, List.set_cons_succ, List.set_cons_zero, Nat.zero_add, Nat.reduceAdd, v21]
                    have hb4 := (HBAD.out false (by rw [HBP.out, HQ0.out, HQ1.out]; simp)).1 rfl
                    have HB4 := Lib.hid hb4
                    clear hb4
                    go_wp2
                    go_roundw
                    case rel => exact ⟨i + 1, rfl, hi2, HW3.out.1, HW3.out.2, HB4.out⟩
                    case measure => simp only [intOf]; omega
    · have hi2 : i < np := by omega
      obtain ⟨b, o, rfl, c1⟩ := ints_cell (HP.out.below HI.out.2) (k := i) (by rw [HNP.out]; exact hi2)
      obtain ⟨p, hp⟩ : ∃ p, ps[i]'(by rw [HNP.out]; exact hi2) = p := ⟨_, rfl⟩
      rw [hp] at c1
      have HP1 : Hid (ps[i]? = some p) := by show _ = _; rw [← hp]; exact List.getElem?_eq_getElem _
      clear hp hst
      by_cases hp0 : 0 ≤ p
      · by_cases hpn : p < n
        · obtain ⟨j, rfl⟩ : ∃ j : Nat, p = (j : Int) := ⟨p.toNat, by omega⟩
          have hjn : j < n := by omega
          have cb := HI.out.1.cell hjn
          have fb := HI.out.1.frozen (k := j)
          obtain ⟨hs1, hs2⟩ := HI.out.1.set (k := j) true
          have HS1 := Lib.hid hs1
          have HS2 := Lib.hid hs2
          clear hs1 hs2
          go_wp2
          go_roundw
          case rel =>
            refine ⟨i + 1, rfl, hi2, BoolsAt.congr HS1.out (fun a _ => ?_), HI.out.2.grown HS2.out HI.out.2.size (fun q hq => by injection hq with hq; have := HG.out; omega)⟩
            rw [inPl_take HP1.out]
            by_cases ha : a = j
            · subst ha
              simp
            · have : ¬ (j : Int) = (a : Int) := by omega
              simp [ha, this]
          case measure => simp only [intOf]; omega
        · have hs3 : Hid (BoolsAt wr g g n (inPl (ps.take (i + 1))) ∧ Below w.heap.size w wr) := by
            refine ⟨BoolsAt.congr HI.out.1 (fun a ha => ?_), HI.out.2⟩
            rw [inPl_take HP1.out]
            have : ¬ p = (a : Int) := by omega
            simp [this]
          go_wp2
          go_roundw
          case rel => exact ⟨i + 1, rfl, hi2, hs3⟩
          case measure => simp only [intOf]; omega
      · have hs3 : Hid (BoolsAt wr g g n (inPl (ps.take (i + 1))) ∧ Below w.heap.size w wr) := by
          refine ⟨BoolsAt.congr HI.out.1 (fun a ha => ?_), HI.out.2⟩
          rw [inPl_take HP1.out]
          have : ¬ p = (a : Int) := by omega
          simp [this]
        go_wp2
        go_roundw
        case rel => exact ⟨i + 1, rfl, hi2, hs3⟩
        case measure => simp only [intOf]; omega
end Go.Proofs.YtehckjkihaalfaaGreat
