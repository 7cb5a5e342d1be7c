/- Trees as the document has them: a page is written. -/
import Derived.Test.YtnnidgjfjgkdpaaM4
namespace Go.Proofs.Ytnnidgjfjgkdpaa
open Go.RowKit

/-- Write's answer, and the tree behind it. -/
def writeS (s : ByteArray) (p : Nat) (d : ByteArray) : ByteArray :=
  (longS s (max s.size (p * 64 + d.size))).extract 0 (p * 64) ++ d ++ (longS s (max s.size (p * 64 + d.size))).extract (p * 64 + d.size) (max s.size (p * 64 + d.size))
def writeR (t : Tr) (ino page : Int) (d : ByteArray) : Int × Tr :=
  if fileE t ino ≠ 0 then (fileE t ino, t) else if page < 0 ∨ 36 ≤ page ∨ d.size < 1 ∨ 64 < d.size then (2, t)
  else (0, setNd t ino { ndAt t ino with data := writeS (ndAt t ino).data page.toNat d })
set_option maxRecDepth 100000 in
set_option maxHeartbeats 4000000 in
theorem t_write (P G : Nat) (t : Tr) (ino page : Int) (d : ByteArray) (w : World) (h : TreeAt w P G t) (h0 : 0 ≤ ino) (hd : d.size ≤ maxLen) (hds : (ndAt t ino).data.size ≤ 100000) (r : Int) (t' : Tr) (hr : writeR t ino page d = (r, t')) :
    Calls Try.prog 31 #[.pointer (some ⟨P, 0, none⟩), .int .u32 ino, .int .i64 page, .string d] w fun e w' => e = .returned (.int .i64 r) ∧ TreeAt w' P G t' ∧ w.grownBy w' (some G) := by
  unfold maxLen at hd
  unfold writeR at hr
  obtain ⟨f, hf⟩ : ∃ f, fileE t ino = f := ⟨_, rfl⟩
  rw [hf] at hr
  have HF := Lib.hid hf
  by_cases hf0 : f ≠ 0
  · rw [if_pos hf0] at hr
    have hne : (f != 0) = true := by simpa using hf0
    clear hf hf0
    injection hr with e1 e2
    subst e1
    subst e2
    go_enter Try.func31, Try.ntmps31
    go_wp2_with (first | (go_at_call 42; (with_reducible refine (t_file P G t ino _ HF.out _ h h0).mono ?_); rintro e w' ⟨rfl, rfl⟩))
    go_ret
    exact ⟨ret_i64 rfl, h, grown_of_below (Below.refl _ _)⟩
  · rw [if_neg hf0] at hr
    obtain rfl : f = 0 := by omega
    obtain ⟨i1, i2, _⟩ := thereB_bounds (fileE_zero hf).1
    clear hf hf0
    by_cases hp0 : page < 0
    · rw [if_pos (.inl hp0)] at hr
      injection hr with e1 e2
      subst e1
      subst e2
      go_enter Try.func31, Try.ntmps31
      go_wp2_with (first | (go_at_call 42; (with_reducible refine (t_file P G t ino _ HF.out _ h h0).mono ?_); rintro e w' ⟨rfl, rfl⟩))
      go_ret
      exact ⟨ret_i64 rfl, h, grown_of_below (Below.refl _ _)⟩
    · by_cases hp1 : 36 ≤ page
      · rw [if_pos (.inr (.inl hp1))] at hr
        injection hr with e1 e2
        subst e1
        subst e2
        go_enter Try.func31, Try.ntmps31
        go_wp2_with (first | (go_at_call 42; (with_reducible refine (t_file P G t ino _ HF.out _ h h0).mono ?_); rintro e w' ⟨rfl, rfl⟩))
        go_ret
        exact ⟨ret_i64 rfl, h, grown_of_below (Below.refl _ _)⟩
      · by_cases hd0 : d.size < 1
        · rw [if_pos (.inr (.inr (.inl hd0)))] at hr
          injection hr with e1 e2
          subst e1
          subst e2
          go_enter Try.func31, Try.ntmps31
          go_wp2_with (first | (go_at_call 42; (with_reducible refine (t_file P G t ino _ HF.out _ h h0).mono ?_); rintro e w' ⟨rfl, rfl⟩))
          go_ret
          exact ⟨ret_i64 rfl, h, grown_of_below (Below.refl _ _)⟩
        · by_cases hd1 : 64 < d.size
          · rw [if_pos (.inr (.inr (.inr hd1)))] at hr
            injection hr with e1 e2
            subst e1
            subst e2
            go_enter Try.func31, Try.ntmps31
            go_wp2_with (first | (go_at_call 42; (with_reducible refine (t_file P G t ino _ HF.out _ h h0).mono ?_); rintro e w' ⟨rfl, rfl⟩))
            go_ret
            exact ⟨ret_i64 rfl, h, grown_of_below (Below.refl _ _)⟩
          · rw [if_neg (by omega)] at hr
            obtain ⟨p, rfl⟩ : ∃ p : Nat, page = p := ⟨page.toNat, by omega⟩
            rw [Int.toNat_natCast] at hr
            have hsm := h.small
            obtain ⟨c, hc1, hc2, hc⟩ := h.cell0
            unfold maxLen at hc2
            obtain ⟨_, _, g2, _⟩ := h.get (h.idx i1 i2)
            have hds' : (nd t (ino.toNat - 1)).data.size ≤ 1000000 := by show (ndAt t ino).data.size ≤ _; omega
            injection hr with e1 e2
            subst e1
            subst e2
            have ht := h
            have Hst : Hid ((nd t (ino.toNat - 1)).data = (ndAt t ino).data) := rfl
            clear hds
            obtain ⟨n, hnm⟩ : ∃ n, max (nd t (ino.toNat - 1)).data.size (p * 64 + d.size) = n := ⟨_, rfl⟩
            obtain ⟨u, hu⟩ : ∃ u, longS (nd t (ino.toNat - 1)).data n = u := ⟨_, rfl⟩
            have husz : u.size = n := by rw [← hu]; exact longS_size _ _
            have HFin : Hid (u.extract 0 ((p : Int) * 64).toNat ++ d ++ u.extract ((p : Int) * 64 + (d.size : Int)).toNat u.size = writeS (ndAt t ino).data p d) := by
              show _ = _
              rw [show ((p : Int) * 64).toNat = p * 64 by omega, show ((p : Int) * 64 + (d.size : Int)).toNat = p * 64 + d.size by omega]
              unfold writeS
              rw [show (ndAt t ino).data = (nd t (ino.toNat - 1)).data from rfl, hnm, hu, husz]
            have hn6 : n ≤ 1000000 := by omega
            have q1 : (p : Int) * 64 ≤ (u.size : Int) := by omega
            have q2 : (p : Int) * 64 + (d.size : Int) ≤ (u.size : Int) := by omega
            have q3 : u.size ≤ 1000000 := by omega
            have q4 : (0 : Int) ≤ (p : Int) * 64 := by omega
            have q5 : (0 : Int) ≤ (p : Int) * 64 + (d.size : Int) := by omega
            have z1 : (u.extract 0 (p * 64)).size ≤ 1000000 := by rw [ByteArray.size_extract]; omega
            have z2 : (u.extract 0 (p * 64) ++ d).size ≤ 2000000 := by rw [ByteArray.size_append]; omega
            have z3 : (u.extract (p * 64 + d.size) u.size).size ≤ 1000000 := by rw [ByteArray.size_extract]; omega
            have z4 : (u.extract 0 (p * 64)).size + d.size ≤ 9223372036854775807 := by omega
            have z5 : (u.extract 0 (p * 64) ++ d).size + (u.extract (p * 64 + d.size) u.size).size ≤ 9223372036854775807 := by omega
            have z6 : min (p * 64) u.size + d.size ≤ 9223372036854775807 := by omega
            have z7 : min (p * 64) u.size + d.size + (u.size - (p * 64 + d.size)) ≤ 9223372036854775807 := by omega
            have HU := Lib.hid hu
            by_cases hm : ((nd t (ino.toNat - 1)).data.size : Int) < (p : Int) * 64 + (d.size : Int)
            · have hx : (p : Int) * 64 + (d.size : Int) = (n : Nat) := by omega
              have HX := Lib.hid hx
              clear hx hu husz hnm
              go_enter Try.func31, Try.ntmps31
              go_wp2_with (first | (go_at_call 42; (with_reducible refine (t_file P G t ino _ HF.out _ h h0).mono ?_); rintro e w' ⟨rfl, rfl⟩) | (go_at_call 50; refine (t_longI (nd t (ino.toNat - 1)).data n _ HX.out u HU.out _ hds' hn6).mono ?_; rintro e w2 ⟨rfl, hb2⟩; have HB2 := Lib.hid hb2; have HT2 := Lib.hid (ht.below hb2); clear hb2))
              go_still_tail 11, (by kernel_rfl)
              refine wpStill_step (fun K hK => ?_)
              go_simp
              rw [if_neg (by omega)]
              refine ⟨rfl, hK _ ?_⟩
              clear hK K
              repeat still_step
              refine wpStill_step (fun K hK => ?_)
              go_simp
              rw [if_neg (by omega)]
              refine ⟨rfl, hK _ ?_⟩
              clear hK K
              repeat still_step
              refine wpStill_nil ?_
              change wpList _ _ _ _ _ w2.drew
              go_wp2_with (first | (go_at_call 49; refine (t_put P G t ino _ w2.drew HT2.out.drew i1 i2).mono ?_; rintro e w3 ⟨rfl, ht3, hg3⟩; have HT3 := Lib.hid ht3; have HG3 := Lib.hid (grown_trans (grown_of_below HB2.out) (grown_undrew hg3)); clear ht3 hg3))
              go_ret
              exact ⟨ret_i64 rfl, by rw [← HFin.out]; exact HT3.out, HG3.out⟩
            · have hx : ((nd t (ino.toNat - 1)).data.size : Int) = (n : Nat) := by omega
              have HX := Lib.hid hx
              clear hx hu husz hnm
              go_enter Try.func31, Try.ntmps31
              go_wp2_with (first | (go_at_call 42; (with_reducible refine (t_file P G t ino _ HF.out _ h h0).mono ?_); rintro e w' ⟨rfl, rfl⟩) | (go_at_call 50; refine (t_longI (nd t (ino.toNat - 1)).data n _ HX.out u HU.out _ hds' hn6).mono ?_; rintro e w2 ⟨rfl, hb2⟩; have HB2 := Lib.hid hb2; have HT2 := Lib.hid (ht.below hb2); clear hb2))
              go_still_tail 11, (by kernel_rfl)
              refine wpStill_step (fun K hK => ?_)
              go_simp
              rw [if_neg (by omega)]
              refine ⟨rfl, hK _ ?_⟩
              clear hK K
              repeat still_step
              refine wpStill_step (fun K hK => ?_)
              go_simp
              rw [if_neg (by omega)]
              refine ⟨rfl, hK _ ?_⟩
              clear hK K
              repeat still_step
              refine wpStill_nil ?_
              change wpList _ _ _ _ _ w2.drew
              go_wp2_with (first | (go_at_call 49; refine (t_put P G t ino _ w2.drew HT2.out.drew i1 i2).mono ?_; rintro e w3 ⟨rfl, ht3, hg3⟩; have HT3 := Lib.hid ht3; have HG3 := Lib.hid (grown_trans (grown_of_below HB2.out) (grown_undrew hg3)); clear ht3 hg3))
              go_ret
              exact ⟨ret_i64 rfl, by rw [← HFin.out]; exact HT3.out, HG3.out⟩
end Go.Proofs.Ytnnidgjfjgkdpaa
