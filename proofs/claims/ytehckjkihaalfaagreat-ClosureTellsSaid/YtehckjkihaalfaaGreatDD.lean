/- Whether a record writes an inode, by the document's parts, walked. -/
import Derived.Test.YtehckjkihaalfaaGreatDC
import Derived.Test.YtehckjkihaalfaaGreatCN
namespace Go.Proofs.YtehckjkihaalfaaGreat
open Go.RowKit Go.Maps

/-- A part writes the k first of some inodes. -/
theorem hasI_take {inos : List Int} {k : Nat} {x v : Int} (hx : inos[k]? = some x) (h : hasI (inos.take k) v = false) (hv : (v == x) = false) : hasI (inos.take (k + 1)) v = false := any_take_succ _ _ _ _ hx h hv
set_option maxRecDepth 100000 in
set_option maxHeartbeats 8000000 in
theorem t_lwrites (r : R) (hr : RecOk r) (A : Option Addr) (n c : Nat) (l : List Int) (w : World) (h : InosAt w A l) (hn : l.length = n) (hn2 : n ≤ 60000) :
    Calls Tryz.prog 48 #[r.val, .slice A n c] w fun e w' => e = .returned (.bool (writesB r l)) ∧ Below w.heap.size w w' := by
  have hpt := fun w => t_rparts r hr.1 hr.2.1 hr.2.2.1 hr.2.2.2 w
  unfold R.val at hpt ⊢
  obtain ⟨res, hres⟩ : ∃ b, writesB r l = b := ⟨_, rfl⟩
  rw [hres]
  unfold writesB at hres
  obtain ⟨lp, hlp⟩ : ∃ l, partsL r = l := ⟨_, rfl⟩
  have hp9 := partsL_len r
  rw [hlp] at hres hpt hp9
  obtain ⟨m, hm⟩ : ∃ m, lp.length = m := ⟨_, rfl⟩
  rw [hm] at hpt hp9
  have HRES := Lib.hid hres
  have HM := Lib.hid hm
  have HH := Lib.hid h
  have HN := Lib.hid hn
  have HPT := Lib.hid hpt
  clear hres hlp hm h hn hpt
  go_enter Tryz.func48, Tryz.ntmps48
  go_wp2_with (go_at_call 95; (with_reducible refine (HPT.out _).mono ?_); rintro e w1 ⟨v, rfl, ho, hb⟩; obtain ⟨Ap, cp, rfl⟩ := row_slice ho; have HO := Lib.hid ho; have HB := Lib.hid hb; clear ho hb)
  have HB1 := Lib.hid (ptrans (below_a1' w _) HB.out)
  clear HB HPT
  go_loopw [6] (fun x wr => ∃ i : Nat, x = .int .i64 (i : Int) ∧ i ≤ m ∧ Hid (Below w1.heap.size w1 wr) ∧ Hid ((lp.take i).any (writesPt l) = false)) (fun x _ => m - (intOf x).toNat)
  case atStart => exact ⟨0, rfl, Nat.zero_le _, Below.refl _ _, rfl⟩
  case round =>
    obtain ⟨i, rfl, hi, HW, HF⟩ := hrel
    by_cases he : i = m
    · have hf : Hid (false = res) := by
        have := HF.out
        rw [List.take_of_length_le (by rw [HM.out]; omega), HRES.out] at this
        exact this.symm
      go_wp2
      go_ret
      exact ⟨pret_bool hf.out, ptrans HB1.out HW.out⟩
    · have hi2 : i < m := by omega
      obtain ⟨x, hx⟩ : ∃ x, lp[i]? = some x := ⟨lp[i]'(by rw [HM.out]; omega), List.getElem?_eq_getElem _⟩
      have HX := Lib.hid hx
      clear hx
      go_wp2
      obtain ⟨w0, rfl⟩ : ∃ w0 : World, w0 = wr := ⟨_, rfl⟩
      go_loopw [7] (fun y wr => ∃ k : Nat, y = .int .i64 (k : Int) ∧ k ≤ n ∧ Hid (Below w1.heap.size w1 wr) ∧ Hid ((x.kind == 2 && x.write && hasI (l.take k) x.ino) = false)) (fun y _ => n - (intOf y).toNat)
      case atStart => exact ⟨0, rfl, Nat.zero_le _, HW.out, by show _ = _; unfold hasI; simp⟩
      case round =>
        obtain ⟨k, rfl, hk, HK, HP⟩ := hrel
        by_cases hkn : k = n
        · have hf : Hid ((lp.take (i + 1)).any (writesPt l) = false) := by
            refine any_take_succ _ _ _ _ HX.out HF.out ?_
            have := HP.out
            rw [List.take_of_length_le (by rw [HN.out]; omega)] at this
            exact this
          go_wp2
          go_roundw
          case rel => exact ⟨i + 1, rfl, hi2, HK, hf⟩
          case measure => simp only [intOf]; omega
        · have hk2 : k < n := by omega
          obtain ⟨g, hg, hc⟩ := part_cells HO.out HM.out HK.out hi2
          subst hg
          obtain ⟨c0, c1, c2, c3⟩ := hc x HX.out
          obtain ⟨y, hy⟩ : ∃ y, l[k]? = some y := ⟨l[k]'(by rw [HN.out]; omega), List.getElem?_eq_getElem _⟩
          obtain ⟨bi, oi, rfl, hbi, hci⟩ := ((HH.out.below HB1.out).below HK.out) (fun e => by rw [e] at hy; simp at hy)
          have d0 := hci k y hy
          have HY := Lib.hid hy
          clear hc hci hy hbi
          cases h1 : (x.kind == 2)
          · go_wp2
            go_quiet (fail)
            generalize hw2 : wr.drewN _ = w2
            have HB2 : Hid (Below w1.heap.size w1 w2) := by rw [← hw2]; exact pbelow_drewN HK.out _
            clear hw2
            go_wp2
            go_roundw
            case rel => exact ⟨k + 1, rfl, hk2, HB2, by show _ = _; simp⟩
            case measure => simp only [intOf]; omega
          · cases h2 : x.write
            · rw [h2] at c3
              go_wp2
              go_quiet (fail)
              generalize hw2 : wr.drewN _ = w2
              have HB2 : Hid (Below w1.heap.size w1 w2) := by rw [← hw2]; exact pbelow_drewN HK.out _
              clear hw2
              go_wp2
              go_roundw
              case rel => exact ⟨k + 1, rfl, hk2, HB2, by show _ = _; simp⟩
              case measure => simp only [intOf]; omega
            · rw [h2] at c3
              cases h3 : (x.ino == y)
              · go_wp2
                go_quiet (fail)
                generalize hw2 : wr.drewN _ = w2
                have HB2 : Hid (Below w1.heap.size w1 w2) := by rw [← hw2]; exact pbelow_drewN HK.out _
                clear hw2
                go_wp2
                go_roundw
                case rel =>
                  refine ⟨k + 1, rfl, hk2, HB2, ?_⟩
                  have h5 : hasI (l.take k) x.ino = false := by
                    have := HP.out
                    rw [h1, h2] at this
                    exact this
                  exact hasI_take HY.out h5 h3
                case measure => simp only [intOf]; omega
              · have hf : Hid (true = res) := by
                  show true = res
                  rw [← HRES.out]
                  refine (any_at _ _ _ _ HX.out ?_).symm
                  unfold writesPt
                  rw [h1, h2]
                  exact any_at _ _ _ _ HY.out h3
                go_wp2
                go_quiet (fail)
                generalize hw2 : wr.drewN _ = w2
                have HB2 : Hid (Below w1.heap.size w1 w2) := by rw [← hw2]; exact pbelow_drewN HK.out _
                clear hw2
                go_wp2
                go_ret
                exact ⟨pret_bool hf.out, ptrans HB1.out HB2.out⟩
end Go.Proofs.YtehckjkihaalfaaGreat
