/- The statement's own function, AbsorbTwice, walked. -/
import Derived.Test.YtnnidgjfjgkdpaaU3
import Derived.Test.YtnnidgjfjgkdpaaU4
namespace Go.Proofs.Ytnnidgjfjgkdpaa
open Go.RowKit Go.Maps

theorem below_dn {B : Nat} {a w : World} (h : Below B a w) (n : Nat) : Below B a (w.drewN n) := bdn h n
theorem quiet_left' {P : Program} {f : FuncId} {args : Array Value} {w : World} {n : Nat} {v : Value} (h : Calls P f args (w.drewN n) fun e w' => e = .returned v ∧ w.drewN n = w') : Calls P f args (w.drewN n) fun e w'' => e = .returned v ∧ ∃ m, w'' = w.drewN m :=
  h.mono fun _ _ ⟨he, hm⟩ => ⟨he, n, hm.symm⟩
theorem recs_alloc_dn {w : World} {B : Nat} {A : Option Addr} {n : Nat} {rs : List R} (h : Recs w B A n rs) {o : Obj} (k : Nat) (hB : B ≤ w.heap.size) : Recs ((w.alloc o).drewN k) B A n rs :=
  h.keep (Nat.le_refl _) fun p hp => World.cell?_alloc_lt w o p (by omega)
set_option maxRecDepth 100000 in
set_option maxHeartbeats 2000000 in
theorem twice_long (A : Option Addr) (n c B : Nat) (rs : List R) (w : World) (h : Recs w B A n rs) (hn : n ≤ maxLen) (hl : longB rs = true) :
    Calls Try.prog 3 #[.slice A n c] w fun e W' => e = .returned (.bool true) ∧ Below w.heap.size w W' := by
  go_enter Try.func3, Try.ntmps3
  go_wp2_with (first | (go_at_call 5; refine (long_yes _ _ _ _ _ _ h hn hl).mono ?_; rintro e w' ⟨rfl, k, rfl⟩) | (go_at_call 6; refine (lawAlive_any _).mono ?_; rintro e w1 ⟨rfl, hb1⟩))
  go_ret
  exact ⟨rfl, (bdn (Below.refl _ _) k).trans hb1⟩

set_option maxRecDepth 100000 in
set_option maxHeartbeats 16000000 in
theorem twice_main (A : Option Addr) (n c B : Nat) (rs : List R) (w : World) (h : Recs w B A n rs) (hfit : ∀ r ∈ rs, r.Fit) (hB : B ≤ w.heap.size) (hn : n ≤ maxLen) (hl : longB rs = false) :
    Calls Try.prog 3 #[.slice A n c] w fun e W' => e = .returned (.bool true) ∧ Below w.heap.size w W' := by
  have h60 : n ≤ 60 := by have := long_le hl; rwa [h.len] at this
  have HL := Lib.hid hl
  have HLen := Lib.hid h.len
  have HFit := Lib.hid hfit
  obtain ⟨p, hp⟩ : ∃ p, (ofOf rs).length = p := ⟨_, rfl⟩
  obtain ⟨q, hq⟩ : ∃ q, (goneOf rs).length = q := ⟨_, rfl⟩
  obtain ⟨m, hm⟩ : ∃ m, (goneOf (ofOf rs)).length = m := ⟨_, rfl⟩
  obtain ⟨bp, hbp⟩ : ∃ bp, playsGo (newT 30) rs = bp := ⟨_, rfl⟩
  have hpq : p + q = n := by
    have := to_sum rs rs.length
    rw [leftTo_all, goneTo_all, ← ofOf_length, hp, hq, h.len] at this; exact this
  have hmle : m ≤ 60 := by
    have := goneTo_le (ofOf rs) (ofOf rs).length
    rw [goneTo_all, hm, hp] at this; omega
  have HP := Lib.hid hp
  have HQ := Lib.hid hq
  have HM := Lib.hid hm
  have HBp := Lib.hid hbp
  clear hl hp hq hm hbp hfit
  have hpq1 : (p : Int) + (q : Int) ≤ n := by omega
  have hpq2 : (n : Int) ≤ (p : Int) + (q : Int) := by omega
  have hpqb : (((p : Int) + (q : Int)) != (n : Int)) = false := by simp; omega
  have HPQ := Lib.hid hpq
  clear hpq
  go_enter Try.func3, Try.ntmps3
  go_wp2_with (first
    | (go_at_call 5; refine (long_no _ _ _ _ _ _ h hn HL.out).mono ?_; rintro e w' ⟨rfl, k0, hw0⟩; have HR0 := Lib.hid (h.drewN k0); have HB0 := Lib.hid (bdn (Below.refl w.heap.size w) k0); rw [hw0] at HR0 HB0; have hz0 := Nat.le_trans hB HB0.out.size; have HW0 := Lib.hid hw0; clear hw0)
    | (go_at_call 7; refine (of_recs _ _ _ _ _ _ HR0.out hz0 (by omega) p HP.out).mono ?_; rintro e w1 ⟨A1, c1, rfl, hr1, hb1⟩; have HRL1 := Lib.hid hr1; have HR1 := Lib.hid (HR0.out.below hb1 hz0 (Nat.le_refl _)); have HB1 := Lib.hid (HB0.out.trans (hb1.mono HB0.out.size)); have hz1 := Nat.le_trans hz0 hb1.size; clear hr1 hb1)
    | (go_at_call 8; refine (gone_ints _ _ _ _ _ _ HR1.out hz1 (by omega) q HQ.out).mono ?_; rintro e w2 ⟨A2, c2, rfl, hi2, hb2⟩; have HI2 := Lib.hid hi2; have HR2 := Lib.hid (HR1.out.below hb2 hz1 (Nat.le_refl _)); have HRL2 := Lib.hid (HRL1.out.below hb2 (Nat.le_refl _) hb2.size); have HB2 := Lib.hid (HB1.out.trans (hb2.mono HB1.out.size)); have hz2 := Nat.le_trans hz1 hb2.size; clear hi2 hb2))
  go_loopw [5, 6] (fun kk i wr => ∃ j : Nat, j ≤ n ∧ i = .int .i64 j ∧ kk = .int .i64 ((goneTo rs j).length : Nat) ∧ Below w2.heap.size w2 wr) (fun _ i _ => n + 1 - (intOf i).toNat)
  case atStart => exact ⟨0, Nat.zero_le _, rfl, rfl, Below.refl _ _⟩
  case round =>
    obtain ⟨j, hj, rfl, rfl, hbw⟩ := hrel
    by_cases hjn : j = n
    · have e1 : (goneTo rs j).length = q := by rw [hjn, ← HLen.out, goneTo_all, HQ.out]
      rw [e1]
      have hlt : ¬ (j : Int) < n := by omega
      have HBw := Lib.hid hbw
      have HRLw := Lib.hid (HRL2.out.below hbw (Nat.le_refl _) hbw.size)
      have HRw := Lib.hid (HR2.out.below hbw hz2 (Nat.le_refl _))
      have HIw := Lib.hid (HI2.out.below hbw (Nat.le_refl _))
      have hzw := Nat.le_trans hz2 hbw.size
      have hzw2 := hbw.size
      have HBo := Lib.hid (HB2.out.trans (hbw.mono HB2.out.size))
      clear e1 hjn hbw
      go_wp2_with (first | (go_at_call 8; refine (gone_ints _ _ _ _ _ _ HRLw.out (Nat.le_refl _) (by omega) m HM.out).mono ?_; rintro e w3 ⟨A3, c3, rfl, hi3, hb3⟩; have HI3 := Lib.hid hi3; have HRL3 := Lib.hid (HRLw.out.below hb3 (Nat.le_refl _) hb3.size); have HR3 := Lib.hid (HRw.out.below hb3 hzw (Nat.le_refl _)); have HIw3 := Lib.hid (HIw.out.below hb3 hzw2); have HB3o := Lib.hid (HBo.out.trans (hb3.mono HBo.out.size)); have hz3 := Nat.le_trans hzw hb3.size; have hz32 := Nat.le_trans hzw2 hb3.size; clear hi3 hb3))
      cases bp with
      | false =>
        go_loopw [8] (fun i wr2 => i = .int .i64 ((0 : Nat) : Int) ∧ Below w3.heap.size w3 wr2) (fun i _ => 1 - (intOf i).toNat)
        case atStart => exact ⟨rfl, Below.refl _ _⟩
        case round =>
          obtain ⟨rfl, hb4⟩ := hrel
          by_cases hm0 : 0 < m
          · have hlt2 : ((0 : Nat) : Int) < (m : Int) := by omega
            have hlt2' : (0 : Int) < (m : Int) := by omega
            have HB4 := Lib.hid hb4
            have HR4 := Lib.hid (HR3.out.below hb4 hz3 (Nat.le_refl _))
            have HI4 := Lib.hid (HIw3.out.below hb4 hz32)
            have hz4 := Nat.le_trans hz3 hb4.size
            have hz42 := Nat.le_trans hz32 hb4.size
            have HBx := Lib.hid (HB3o.out.trans (hb4.mono HB3o.out.size))
            clear hb4 hm0
            go_wp2_with (first | (go_at_call 9; refine (plays_any _ _ _ _ _ _ HR4.out hz4 HFit.out (by omega) _ HBp.out).mono ?_; rintro e w5 ⟨rfl, hb5⟩; have HR5 := Lib.hid (HR4.out.below hb5 hz4 (Nat.le_refl _)); have HI5 := Lib.hid (HI4.out.below hb5 hz42); have hz5 := Nat.le_trans hz4 hb5.size; have hz52 := Nat.le_trans hz42 hb5.size; have HB5 := Lib.hid (HBx.out.trans (hb5.mono HBx.out.size)); clear hb5))
            obtain ⟨wt, hwt⟩ : ∃ wt, w5 = wt := ⟨_, rfl⟩
            rw [hwt] at HB5 HR5 HI5 hz5 hz52 ⊢
            have HBT := HB5
            have HRT := HR5
            have HIT := HI5
            have hzT := hz5
            have hzI := hz52
            clear HB5 HR5 HI5 hz5 hz52 hwt
            go_loopw [9] (fun i wr3 => ∃ j : Nat, j ≤ q ∧ i = .int .i64 j ∧ Below wt.heap.size wt wr3) (fun i _ => q + 1 - (intOf i).toNat)
            case atStart => exact ⟨0, Nat.zero_le _, rfl, Below.refl _ _⟩
            case round =>
              obtain ⟨j3, hj3, rfl, hb3⟩ := hrel
              have HB3 := Lib.hid hb3
              by_cases hjq : j3 = q
              · have hlt3 : ¬ (j3 : Int) < q := by omega
                clear hjq hb3
                go_wp2_with (first | (go_at_call 6; refine (lawAlive_any _).mono ?_; rintro e w9 ⟨rfl, hb9⟩; have HB9 := Lib.hid (HBT.out.trans ((HB3.out.trans (hb9.mono HB3.out.size)).mono HBT.out.size)); clear hb9))
                go_ret
                exact ⟨rfl, HB9.out⟩
              · have hlt3 : (j3 : Int) < q := by omega
                obtain ⟨g, hgg⟩ : ∃ g, (goneOf rs)[j3]? = some g := ⟨_, List.getElem?_eq_getElem (by rw [HQ.out]; omega)⟩
                obtain ⟨b2, rfl, hb2lt, hc2⟩ := (HIT.out.below hb3 hzI).at_ j3 g hgg
                have hgm := List.mem_of_getElem? hgg
                have hgn : g < n := by have := (goneOf_lt hgm).1; rw [HLen.out] at this; exact this
                obtain ⟨bb, o, r, rfl, hbb, hr, hat, hok⟩ := (HRT.out.below hb3 hzT (Nat.le_refl B)).get hgn
                have hfr := gone_freed hr (goneOf_lt hgm).2
                have hsz3 := hb3.size
                have hbl : bb < wr.heap.size := by omega
                have hb2l : b2 < wr.heap.size := by omega
                have hbB : B ≤ wr.heap.size := by omega
                have hgi : (g : Int) < (n : Int) := by omega
                have hRw := HRT.out.below hb3 hzT (Nat.le_refl B)
                have HRw := Lib.hid hRw
                obtain ⟨c0, c1', c2', c3, c4, c5, c6, c7, c8, c9, c10, c11⟩ := hat
                have qg := fun o => alloc_cell (p := ⟨b2, j3, none⟩) hb2l hc2 o
                clear hRw hgm hgg hjq
                cases h6 : (r.act != 6) with
                | false =>
                  clear hfr hr hok hb3
                  go_wp2_with fail
                  go_quiet (fail)
                  go_wp2_with fail
                  go_roundw
                  case rel => exact ⟨j3 + 1, by omega, by go_num, below_dn (HB3.out.alloc HB3.out.size _) _⟩
                  case measure => simp [intOf]; omega
                | true =>
                  have hfb : freedB rs g r.ino = true := hfr.resolve_left (by simpa using h6)
                  have HFb := Lib.hid hfb
                  clear hfr hfb hr hok hb3
                  go_wp2_with fail
                  go_quiet ((go_at_call 10; exact quiet_left' (freed_any _ n c B rs _ (recs_alloc_dn HRw.out _ hbB) hn g (by omega) r.ino true HFb.out)))
                  go_wp2_with fail
                  go_roundw
                  case rel => exact ⟨j3 + 1, by omega, by go_num, below_dn (HB3.out.alloc HB3.out.size _) _⟩
                  case measure => simp [intOf]; omega
          · have hlt2 : ¬ ((0 : Nat) : Int) < (m : Int) := by omega
            have hlt2' : ¬ (0 : Int) < (m : Int) := by omega
            have HR4 := Lib.hid (HR3.out.below hb4 hz3 (Nat.le_refl _))
            have HI4 := Lib.hid (HIw3.out.below hb4 hz32)
            have hz4 := Nat.le_trans hz3 hb4.size
            have hz42 := Nat.le_trans hz32 hb4.size
            have HBx := Lib.hid (HB3o.out.trans (hb4.mono HB3o.out.size))
            clear hb4 hm0
            go_wp2_with fail
            obtain ⟨wt, hwt⟩ : ∃ wt, wr = wt := ⟨_, rfl⟩
            rw [hwt] at HBx HR4 HI4 hz4 hz42 ⊢
            have HBT := HBx
            have HRT := HR4
            have HIT := HI4
            have hzT := hz4
            have hzI := hz42
            clear HBx HR4 HI4 hz4 hz42 hwt
            go_loopw [9] (fun i wr3 => ∃ j : Nat, j ≤ q ∧ i = .int .i64 j ∧ Below wt.heap.size wt wr3) (fun i _ => q + 1 - (intOf i).toNat)
            case atStart => exact ⟨0, Nat.zero_le _, rfl, Below.refl _ _⟩
            case round =>
              obtain ⟨j3, hj3, rfl, hb3⟩ := hrel
              have HB3 := Lib.hid hb3
              by_cases hjq : j3 = q
              · have hlt3 : ¬ (j3 : Int) < q := by omega
                clear hjq hb3
                go_wp2_with (first | (go_at_call 6; refine (lawAlive_any _).mono ?_; rintro e w9 ⟨rfl, hb9⟩; have HB9 := Lib.hid (HBT.out.trans ((HB3.out.trans (hb9.mono HB3.out.size)).mono HBT.out.size)); clear hb9))
                go_ret
                exact ⟨rfl, HB9.out⟩
              · have hlt3 : (j3 : Int) < q := by omega
                obtain ⟨g, hgg⟩ : ∃ g, (goneOf rs)[j3]? = some g := ⟨_, List.getElem?_eq_getElem (by rw [HQ.out]; omega)⟩
                obtain ⟨b2, rfl, hb2lt, hc2⟩ := (HIT.out.below hb3 hzI).at_ j3 g hgg
                have hgm := List.mem_of_getElem? hgg
                have hgn : g < n := by have := (goneOf_lt hgm).1; rw [HLen.out] at this; exact this
                obtain ⟨bb, o, r, rfl, hbb, hr, hat, hok⟩ := (HRT.out.below hb3 hzT (Nat.le_refl B)).get hgn
                have hfr := gone_freed hr (goneOf_lt hgm).2
                have hsz3 := hb3.size
                have hbl : bb < wr.heap.size := by omega
                have hb2l : b2 < wr.heap.size := by omega
                have hbB : B ≤ wr.heap.size := by omega
                have hgi : (g : Int) < (n : Int) := by omega
                have hRw := HRT.out.below hb3 hzT (Nat.le_refl B)
                have HRw := Lib.hid hRw
                obtain ⟨c0, c1', c2', c3, c4, c5, c6, c7, c8, c9, c10, c11⟩ := hat
                have qg := fun o => alloc_cell (p := ⟨b2, j3, none⟩) hb2l hc2 o
                clear hRw hgm hgg hjq
                cases h6 : (r.act != 6) with
                | false =>
                  clear hfr hr hok hb3
                  go_wp2_with fail
                  go_quiet (fail)
                  go_wp2_with fail
                  go_roundw
                  case rel => exact ⟨j3 + 1, by omega, by go_num, below_dn (HB3.out.alloc HB3.out.size _) _⟩
                  case measure => simp [intOf]; omega
                | true =>
                  have hfb : freedB rs g r.ino = true := hfr.resolve_left (by simpa using h6)
                  have HFb := Lib.hid hfb
                  clear hfr hfb hr hok hb3
                  go_wp2_with fail
                  go_quiet ((go_at_call 10; exact quiet_left' (freed_any _ n c B rs _ (recs_alloc_dn HRw.out _ hbB) hn g (by omega) r.ino true HFb.out)))
                  go_wp2_with fail
                  go_roundw
                  case rel => exact ⟨j3 + 1, by omega, by go_num, below_dn (HB3.out.alloc HB3.out.size _) _⟩
                  case measure => simp [intOf]; omega
      | true =>
        go_loopw [8] (fun i wr2 => ∃ j2 : Nat, j2 ≤ m ∧ i = .int .i64 j2 ∧ Below w3.heap.size w3 wr2) (fun i _ => m + 1 - (intOf i).toNat)
        case atStart => exact ⟨0, Nat.zero_le _, rfl, Below.refl _ _⟩
        case round =>
          obtain ⟨j2, hj2, rfl, hb4⟩ := hrel
          have HR4 := Lib.hid (HR3.out.below hb4 hz3 (Nat.le_refl _))
          have HI4 := Lib.hid (HIw3.out.below hb4 hz32)
          have hz4 := Nat.le_trans hz3 hb4.size
          have hz42 := Nat.le_trans hz32 hb4.size
          have HBx := Lib.hid (HB3o.out.trans (hb4.mono HB3o.out.size))
          by_cases hjm : j2 = m
          · have hlt2 : ¬ (j2 : Int) < (m : Int) := by omega
            clear hb4 hjm
            go_wp2_with fail
            obtain ⟨wt, hwt⟩ : ∃ wt, wr = wt := ⟨_, rfl⟩
            rw [hwt] at HBx HR4 HI4 hz4 hz42 ⊢
            have HBT := HBx
            have HRT := HR4
            have HIT := HI4
            have hzT := hz4
            have hzI := hz42
            clear HBx HR4 HI4 hz4 hz42 hwt
            go_loopw [9] (fun i wr3 => ∃ j : Nat, j ≤ q ∧ i = .int .i64 j ∧ Below wt.heap.size wt wr3) (fun i _ => q + 1 - (intOf i).toNat)
            case atStart => exact ⟨0, Nat.zero_le _, rfl, Below.refl _ _⟩
            case round =>
              obtain ⟨j3, hj3, rfl, hb3⟩ := hrel
              have HB3 := Lib.hid hb3
              by_cases hjq : j3 = q
              · have hlt3 : ¬ (j3 : Int) < q := by omega
                clear hjq hb3
                go_wp2_with (first | (go_at_call 6; refine (lawAlive_any _).mono ?_; rintro e w9 ⟨rfl, hb9⟩; have HB9 := Lib.hid (HBT.out.trans ((HB3.out.trans (hb9.mono HB3.out.size)).mono HBT.out.size)); clear hb9))
                go_ret
                exact ⟨rfl, HB9.out⟩
              · have hlt3 : (j3 : Int) < q := by omega
                obtain ⟨g, hgg⟩ : ∃ g, (goneOf rs)[j3]? = some g := ⟨_, List.getElem?_eq_getElem (by rw [HQ.out]; omega)⟩
                obtain ⟨b2, rfl, hb2lt, hc2⟩ := (HIT.out.below hb3 hzI).at_ j3 g hgg
                have hgm := List.mem_of_getElem? hgg
                have hgn : g < n := by have := (goneOf_lt hgm).1; rw [HLen.out] at this; exact this
                obtain ⟨bb, o, r, rfl, hbb, hr, hat, hok⟩ := (HRT.out.below hb3 hzT (Nat.le_refl B)).get hgn
                have hfr := gone_freed hr (goneOf_lt hgm).2
                have hsz3 := hb3.size
                have hbl : bb < wr.heap.size := by omega
                have hb2l : b2 < wr.heap.size := by omega
                have hbB : B ≤ wr.heap.size := by omega
                have hgi : (g : Int) < (n : Int) := by omega
                have hRw := HRT.out.below hb3 hzT (Nat.le_refl B)
                have HRw := Lib.hid hRw
                obtain ⟨c0, c1', c2', c3, c4, c5, c6, c7, c8, c9, c10, c11⟩ := hat
                have qg := fun o => alloc_cell (p := ⟨b2, j3, none⟩) hb2l hc2 o
                clear hRw hgm hgg hjq
                cases h6 : (r.act != 6) with
                | false =>
                  clear hfr hr hok hb3
                  go_wp2_with fail
                  go_quiet (fail)
                  go_wp2_with fail
                  go_roundw
                  case rel => exact ⟨j3 + 1, by omega, by go_num, below_dn (HB3.out.alloc HB3.out.size _) _⟩
                  case measure => simp [intOf]; omega
                | true =>
                  have hfb : freedB rs g r.ino = true := hfr.resolve_left (by simpa using h6)
                  have HFb := Lib.hid hfb
                  clear hfr hfb hr hok hb3
                  go_wp2_with fail
                  go_quiet ((go_at_call 10; exact quiet_left' (freed_any _ n c B rs _ (recs_alloc_dn HRw.out _ hbB) hn g (by omega) r.ino true HFb.out)))
                  go_wp2_with fail
                  go_roundw
                  case rel => exact ⟨j3 + 1, by omega, by go_num, below_dn (HB3.out.alloc HB3.out.size _) _⟩
                  case measure => simp [intOf]; omega
          · have hlt2 : (j2 : Int) < (m : Int) := by omega
            obtain ⟨g, hgg⟩ : ∃ g, (goneOf (ofOf rs))[j2]? = some g := ⟨_, List.getElem?_eq_getElem (by rw [HM.out]; omega)⟩
            have hgm := List.mem_of_getElem? hgg
            have hgp : g < p := by have := (goneOf_lt hgm).1; rw [HP.out] at this; exact this
            have HI34 := Lib.hid (HI3.out.below hb4 (Nat.le_refl _))
            have HRL4 := Lib.hid (HRL3.out.below hb4 (Nat.le_refl _) (Nat.le_refl _))
            have hsz4 := hb4.size
            have HGg := Lib.hid hgg
            have HGm := Lib.hid hgm
            have HB4 := Lib.hid hb4
            clear hb4 hjm hgg hgm
            go_wp2_with (first | (go_at_call 9; refine (plays_any _ _ _ _ _ _ HR4.out hz4 HFit.out (by omega) _ HBp.out).mono ?_; rintro e w5 ⟨rfl, hb5⟩; have HI35 := Lib.hid (HI34.out.below hb5 hsz4); have HRL5 := Lib.hid (HRL4.out.below hb5 hsz4 (Nat.le_refl _)); have HB5 := Lib.hid (HB4.out.trans (hb5.mono HB4.out.size)); obtain ⟨b5, rfl, _, hc5⟩ := HI35.out.at_ j2 g HGg.out; obtain ⟨b6, o6, y, rfl, _, hy, hat6, _⟩ := HRL5.out.get hgp; have d1 := hat6.c1; have h6 : (y.act != 6) = false := (by simpa using of_gone_pages HBp.out HGm.out hy); have g1 : (0 : Int) ≤ (g : Int) := (by omega); have g2 : (g : Int) < (p : Int) := (by omega); clear hb5 hy hat6))
            go_roundw
            case rel => exact ⟨j2 + 1, by omega, by go_num, HB5.out⟩
            case measure => simp [intOf]; omega
    · have hlt : (j : Int) < n := by omega
      have hj1 : j < n := by omega
      have hsum := to_sum rs j
      obtain ⟨gt, hgt⟩ : ∃ gt, (goneTo rs j).length = gt := ⟨_, rfl⟩
      have HGT := Lib.hid hgt
      rw [hgt] at hsum ⊢
      have hLT : (leftTo rs j).length = j - gt := by omega
      have hgj : gt ≤ j := by omega
      have HLT := Lib.hid hLT
      obtain ⟨bb, o, r, rfl, hbb, hr, hat, _⟩ := (HR2.out.below hbw hz2 (Nat.le_refl B)).get hj1
      have hjl : j < rs.length := by rw [HLen.out]; exact hj1
      have HBw := Lib.hid hbw
      cases hg : goneB rs j with
      | true =>
        have hturn := (gone_turn hjl).1 hg
        rw [hgt] at hturn
        have hgq : gt < q := by have := (List.getElem?_eq_some_iff.1 hturn).1; rw [HQ.out] at this; exact this
        have hgq' : (gt : Int) < q := by omega
        obtain ⟨b2, rfl, _, hc2⟩ := (HI2.out.below hbw (Nat.le_refl _)).at_ gt j hturn
        have HN : Hid ((goneTo rs (j + 1)).length = gt + 1) := by show _ = _; rw [goneTo_succ, hg, if_pos rfl, List.length_append, hgt]; rfl
        clear hturn hg hr hat hsum hgt hLT hjn hbw
        go_wp2_with fail
        go_roundw
        case rel => exact ⟨j + 1, by omega, by go_num, by rw [HN.out]; go_num, HBw.out⟩
        case measure => simp [intOf]; omega
      | false =>
        have hN : (goneTo rs (j + 1)).length = gt := by rw [goneTo_succ, hg, hgt.symm]; simp
        have HN := Lib.hid hN
        have hlt2 := left_turn hjl hg
        rw [hLT] at hlt2
        have hjg : j - gt < p := by have := (List.getElem?_eq_some_iff.1 hlt2).1; rw [← ofOf_length, HP.out] at this; exact this
        have hot := of_turn hr hg
        rw [hLT] at hot
        obtain ⟨b3, o3, r3, rfl, _, hr3, hat3, _⟩ := (HRL2.out.below hbw (Nat.le_refl _) (Nat.le_refl _)).get hjg
        obtain rfl : r = r3 := by rw [hot] at hr3; simpa using hr3
        have hne := fun w => neq_self r w
        unfold R.val at hne
        obtain ⟨c0, c1', c2', c3, c4, c5, c6, c7, c8, c9, c10, c11⟩ := hat
        obtain ⟨d0, d1, d2, d3, d4, d5, d6, d7, d8, d9, d10, d11⟩ := hat3
        have i1 : (0 : Int) ≤ (j : Int) - (gt : Int) := by omega
        have i2 : (j : Int) - (gt : Int) < (p : Int) := by omega
        by_cases hgq : gt < q
        · obtain ⟨g, hgg⟩ : ∃ g, (goneOf rs)[gt]? = some g := ⟨_, List.getElem?_eq_getElem (by rw [HQ.out]; exact hgq)⟩
          obtain ⟨b2, rfl, _, hc2⟩ := (HI2.out.below hbw (Nat.le_refl _)).at_ gt g hgg
          have hgne : ((g : Int) == (j : Int)) = false := by
            have : g ≠ j := fun e => by
              subst e
              have := (gone_turn hjl).2 (by rw [hgt]; exact hgg)
              rw [hg] at this; cases this
            simp; omega
          have hgq' : (gt : Int) < q := by omega
          have hd1 : decide ((p : Int) ≤ (j : Int) - (gt : Int)) = false := by simp; omega
          clear hgg hot hr3 hr hg hlt2 hN hgt hsum hLT hjn hbw
          go_wp2_with fail
          go_quiet (fail)
          go_wp2_with fail
          go_roundw
          case rel => exact ⟨j + 1, by omega, by go_num, by rw [HN.out], below_dn HBw.out _⟩
          case measure => simp [intOf]; omega
        · have hgq' : ¬ (gt : Int) < q := by omega
          have hd1 : decide ((p : Int) ≤ (j : Int) - (gt : Int)) = false := by simp; omega
          clear hot hr3 hr hg hlt2 hN hgt hsum hLT hjn hbw
          go_wp2_with fail
          go_quiet (fail)
          go_wp2_with fail
          go_roundw
          case rel => exact ⟨j + 1, by omega, by go_num, by rw [HN.out], below_dn HBw.out _⟩
          case measure => simp [intOf]; omega
end Go.Proofs.Ytnnidgjfjgkdpaa
