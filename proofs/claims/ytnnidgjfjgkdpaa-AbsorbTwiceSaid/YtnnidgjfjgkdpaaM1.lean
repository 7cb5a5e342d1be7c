/- Trees as the document has them: what is made, linked, taken away. -/
import Derived.Test.YtnnidgjfjgkdpaaZ
namespace Go.Proofs.Ytnnidgjfjgkdpaa
open Go.RowKit

theorem setNd_length (t : Tr) (ino : Int) (x : Nd) : (setNd t ino x).length = t.length := by unfold setNd; simp
theorem ndAt_set_ne {t : Tr} {a b : Int} (x : Nd) (h1 : 1 ≤ a) (h2 : 1 ≤ b) (h : a ≠ b) : ndAt (setNd t a x) b = ndAt t b := by
  unfold ndAt setNd nd
  rw [List.getD_eq_getElem?_getD, List.getD_eq_getElem?_getD, List.getElem?_set_ne (by omega)]
theorem ndAt_set_self {t : Tr} {a : Int} (x : Nd) (h1 : 1 ≤ a) (h2 : a ≤ t.length) : ndAt (setNd t a x) a = x := by
  unfold ndAt setNd nd
  rw [List.getD_eq_getElem?_getD, List.getElem?_set_self (by omega)]; rfl
theorem Small.set {t : Tr} (h : Small t) (a : Int) (x : Nd) (hx : x.l.length ≤ 100000) : Small (setNd t a x) := by
  intro y hy
  unfold setNd at hy
  rcases List.mem_or_eq_of_mem_set hy with hy | rfl
  · exact h y hy
  · exact hx
theorem Small.at_ {t : Tr} (h : Small t) {ino : Int} (h1 : 1 ≤ ino) (h2 : ino ≤ t.length) : (ndAt t ino).l.length ≤ 100000 := h.nd (by omega)

/-- MakeAt's answer, and the tree behind it. -/
def made (t : Tr) (dir : Int) (s : ByteArray) (kind ino : Int) : Tr :=
  setNd (setNd t ino { noNd with kind := kind }) dir { ndAt (setNd t ino { noNd with kind := kind }) dir with l := addL (ndAt (setNd t ino { noNd with kind := kind }) dir).l ⟨s, ino⟩ }
def makeR (t : Tr) (dir : Int) (s : ByteArray) (kind ino : Int) : Int × Tr :=
  if nameB s = false ∨ (kind ≠ 1 ∧ kind ≠ 2) ∨ ino < 1 ∨ (t.length : Int) < ino then (2, t)
  else if dirE t dir s ≠ 0 then (dirE t dir s, t)
  else if (place (ndAt t dir).l s).isSome = true ∨ thereB t ino = true then (9, t)
  else (0, made t dir s kind ino)
set_option maxHeartbeats 4000000 in
theorem t_make_arg (P G : Nat) (t : Tr) (dir : Int) (s : ByteArray) (kind ino : Int) (w : World) (h : TreeAt w P G t) (h0 : 0 ≤ dir) (hs : s.size ≤ maxLen) (hb : nameB s = false ∨ (kind ≠ 1 ∧ kind ≠ 2) ∨ ino < 1 ∨ (t.length : Int) < ino) :
    Calls Try.prog 25 #[.pointer (some ⟨P, 0, none⟩), .int .u32 dir, .string s, .int .u8 kind, .int .u32 ino] w fun e w' => e = .returned (.int .i64 2) ∧ w = w' := by
  have hsm := h.small
  obtain ⟨c, hc1, hc2, hc⟩ := h.cell0
  unfold maxLen at hc2
  cases hn : nameB s with
  | false =>
    have HN := Lib.hid hn
    clear hn hb
    go_enter Try.func25, Try.ntmps25
    go_wp2_with (first | (go_at_call 24; refine (t_name s _ HN.out _ hs).mono ?_; rintro e w' ⟨rfl, rfl⟩))
    go_ret
    exact ⟨ret_i64 rfl, rfl⟩
  | true =>
    have HN := Lib.hid hn
    rw [hn] at hb
    clear hn
    cases k1 : (kind != 1) with
    | true =>
      cases k2 : (kind != 2) with
      | true =>
        clear hb
        go_enter Try.func25, Try.ntmps25
        go_wp2_with (first | (go_at_call 24; refine (t_name s _ HN.out _ hs).mono ?_; rintro e w' ⟨rfl, rfl⟩))
        go_ret
        exact ⟨ret_i64 rfl, rfl⟩
      | false =>
        have e2 : kind = 2 := by simpa using k2
        by_cases hi : ino < 1
        · clear hb e2
          go_enter Try.func25, Try.ntmps25
          go_wp2_with (first | (go_at_call 24; refine (t_name s _ HN.out _ hs).mono ?_; rintro e w' ⟨rfl, rfl⟩))
          go_ret
          exact ⟨ret_i64 rfl, rfl⟩
        · have hi2 : (t.length : Int) < ino := by
            rcases hb with hb | hb | hb | hb
            · cases hb
            · exact absurd e2 hb.2
            · exact absurd hb hi
            · exact hb
          clear hb e2
          go_enter Try.func25, Try.ntmps25
          go_wp2_with (first | (go_at_call 24; refine (t_name s _ HN.out _ hs).mono ?_; rintro e w' ⟨rfl, rfl⟩))
          go_ret
          exact ⟨ret_i64 rfl, rfl⟩
    | false =>
      have e2 : kind = 1 := by simpa using k1
      by_cases hi : ino < 1
      · clear hb e2
        go_enter Try.func25, Try.ntmps25
        go_wp2_with (first | (go_at_call 24; refine (t_name s _ HN.out _ hs).mono ?_; rintro e w' ⟨rfl, rfl⟩))
        go_ret
        exact ⟨ret_i64 rfl, rfl⟩
      · have hi2 : (t.length : Int) < ino := by
          rcases hb with hb | hb | hb | hb
          · cases hb
          · exact absurd e2 hb.1
          · exact absurd hb hi
          · exact hb
        clear hb e2
        go_enter Try.func25, Try.ntmps25
        go_wp2_with (first | (go_at_call 24; refine (t_name s _ HN.out _ hs).mono ?_; rintro e w' ⟨rfl, rfl⟩))
        go_ret
        exact ⟨ret_i64 rfl, rfl⟩

set_option maxHeartbeats 4000000 in
theorem t_make_dir (P G : Nat) (t : Tr) (dir : Int) (s : ByteArray) (kind ino : Int) (w : World) (h : TreeAt w P G t) (h0 : 0 ≤ dir) (hs : s.size ≤ maxLen) (hn : nameB s = true) (hk : kind = 1 ∨ kind = 2) (i1 : 1 ≤ ino) (i2 : ino ≤ t.length) (r : Int) (hd : dirE t dir s = r) (hr : (r != 0) = true) :
    Calls Try.prog 25 #[.pointer (some ⟨P, 0, none⟩), .int .u32 dir, .string s, .int .u8 kind, .int .u32 ino] w fun e w' => e = .returned (.int .i64 r) ∧ w = w' := by
  have hsm := h.small
  obtain ⟨c, hc1, hc2, hc⟩ := h.cell0
  unfold maxLen at hc2
  have HN := Lib.hid hn
  have HD := Lib.hid hd
  clear hn hd
  rcases hk with rfl | rfl
  · go_enter Try.func25, Try.ntmps25
    go_wp2_with (first | (go_at_call 24; refine (t_name s _ HN.out _ hs).mono ?_; rintro e w' ⟨rfl, rfl⟩) | (go_at_call 38; refine (t_dir P G t dir s _ HD.out _ h h0 hs).mono ?_; rintro e w' ⟨rfl, rfl⟩))
    go_ret
    exact ⟨ret_i64 rfl, rfl⟩
  · go_enter Try.func25, Try.ntmps25
    go_wp2_with (first | (go_at_call 24; refine (t_name s _ HN.out _ hs).mono ?_; rintro e w' ⟨rfl, rfl⟩) | (go_at_call 38; refine (t_dir P G t dir s _ HD.out _ h h0 hs).mono ?_; rintro e w' ⟨rfl, rfl⟩))
    go_ret
    exact ⟨ret_i64 rfl, rfl⟩

set_option maxHeartbeats 4000000 in
theorem t_make_have (P G : Nat) (t : Tr) (dir : Int) (s : ByteArray) (kind ino : Int) (w : World) (h : TreeAt w P G t) (h0 : 0 ≤ dir) (hs : s.size ≤ maxLen) (hn : nameB s = true) (hk : kind = 1 ∨ kind = 2) (i1 : 1 ≤ ino) (i2 : ino ≤ t.length) (hd : dirE t dir s = 0) (hh : (place (ndAt t dir).l s).isSome = true ∨ thereB t ino = true) :
    Calls Try.prog 25 #[.pointer (some ⟨P, 0, none⟩), .int .u32 dir, .string s, .int .u8 kind, .int .u32 ino] w fun e w' => e = .returned (.int .i64 9) ∧ w = w' := by
  have hsm := h.small
  obtain ⟨c, hc1, hc2, hc⟩ := h.cell0
  unfold maxLen at hc2
  obtain ⟨_, ht, _⟩ := dirE_zero hd
  obtain ⟨b1, b2, _⟩ := thereB_bounds ht
  have i0 : 0 ≤ ino := by omega
  have HN := Lib.hid hn
  have HD := Lib.hid hd
  clear hn hd ht
  cases hp : place (ndAt t dir).l s with
  | some k =>
    have HP : Hid (placeI (ndAt t dir).l s = (k : Nat)) := by show _ = _; unfold placeI; rw [hp]
    clear hp hh
    rcases hk with rfl | rfl
    · go_enter Try.func25, Try.ntmps25
      go_wp2_with (first | (go_at_call 24; refine (t_name s _ HN.out _ hs).mono ?_; rintro e w' ⟨rfl, rfl⟩) | (go_at_call 38; refine (t_dir P G t dir s _ HD.out _ h h0 hs).mono ?_; rintro e w' ⟨rfl, rfl⟩) | (go_at_call 39; refine (t_at P G t dir s _ HP.out _ h b1 b2).mono ?_; rintro e w' ⟨rfl, rfl⟩))
      go_ret
      exact ⟨ret_i64 rfl, rfl⟩
    · go_enter Try.func25, Try.ntmps25
      go_wp2_with (first | (go_at_call 24; refine (t_name s _ HN.out _ hs).mono ?_; rintro e w' ⟨rfl, rfl⟩) | (go_at_call 38; refine (t_dir P G t dir s _ HD.out _ h h0 hs).mono ?_; rintro e w' ⟨rfl, rfl⟩) | (go_at_call 39; refine (t_at P G t dir s _ HP.out _ h b1 b2).mono ?_; rintro e w' ⟨rfl, rfl⟩))
      go_ret
      exact ⟨ret_i64 rfl, rfl⟩
  | none =>
    have HP : Hid (placeI (ndAt t dir).l s = -1) := by show _ = _; unfold placeI; rw [hp]
    have HT : Hid (thereB t ino = true) := by rcases hh with hh | hh; (rw [hp] at hh; cases hh); exact hh
    clear hp hh
    rcases hk with rfl | rfl
    · go_enter Try.func25, Try.ntmps25
      go_wp2_with (first | (go_at_call 24; refine (t_name s _ HN.out _ hs).mono ?_; rintro e w' ⟨rfl, rfl⟩) | (go_at_call 38; refine (t_dir P G t dir s _ HD.out _ h h0 hs).mono ?_; rintro e w' ⟨rfl, rfl⟩) | (go_at_call 39; refine (t_at P G t dir s _ HP.out _ h b1 b2).mono ?_; rintro e w' ⟨rfl, rfl⟩) | (go_at_call 40; refine (t_there P G t ino _ HT.out _ h i0).mono ?_; rintro e w' ⟨rfl, rfl⟩))
      go_ret
      exact ⟨ret_i64 rfl, rfl⟩
    · go_enter Try.func25, Try.ntmps25
      go_wp2_with (first | (go_at_call 24; refine (t_name s _ HN.out _ hs).mono ?_; rintro e w' ⟨rfl, rfl⟩) | (go_at_call 38; refine (t_dir P G t dir s _ HD.out _ h h0 hs).mono ?_; rintro e w' ⟨rfl, rfl⟩) | (go_at_call 39; refine (t_at P G t dir s _ HP.out _ h b1 b2).mono ?_; rintro e w' ⟨rfl, rfl⟩) | (go_at_call 40; refine (t_there P G t ino _ HT.out _ h i0).mono ?_; rintro e w' ⟨rfl, rfl⟩))
      go_ret
      exact ⟨ret_i64 rfl, rfl⟩

set_option maxRecDepth 100000 in
set_option maxHeartbeats 4000000 in
theorem t_make_ok (P G : Nat) (t : Tr) (dir : Int) (s : ByteArray) (kind ino : Int) (w : World) (h : TreeAt w P G t) (h0 : 0 ≤ dir) (hs : s.size ≤ maxLen) (hn : nameB s = true) (hk : kind = 1 ∨ kind = 2) (i1 : 1 ≤ ino) (i2 : ino ≤ t.length) (hd : dirE t dir s = 0) (hp : place (ndAt t dir).l s = none) (hnt : thereB t ino = false) (hsl : Small t) :
    Calls Try.prog 25 #[.pointer (some ⟨P, 0, none⟩), .int .u32 dir, .string s, .int .u8 kind, .int .u32 ino] w fun e w' => e = .returned (.int .i64 0) ∧ TreeAt w' P G (made t dir s kind ino) ∧ w.grownBy w' (some G) := by
  have hsm := h.small
  obtain ⟨c, hc1, hc2, hc⟩ := h.cell0
  unfold maxLen at hc2
  obtain ⟨_, ht, _⟩ := dirE_zero hd
  obtain ⟨b1, b2, _⟩ := thereB_bounds ht
  obtain ⟨g0, ⟨v, g1, hv1⟩, g2, g3⟩ := h.get (h.idx i1 i2)
  obtain ⟨A1, c1, rfl, _, _, _⟩ := hv1.get
  have f0 := h.frozenG ((ino.toNat - 1) * 4)
  have f1 := h.frozenG ((ino.toNat - 1) * 4 + 1)
  have f2 := h.frozenG ((ino.toNat - 1) * 4 + 2)
  have f3 := h.frozenG ((ino.toNat - 1) * 4 + 3)
  have i0 : 0 ≤ ino := by omega
  have HN := Lib.hid hn
  have HD := Lib.hid hd
  have HT := Lib.hid hnt
  have HP : Hid (placeI (ndAt t dir).l s = -1) := by show _ = _; unfold placeI; rw [hp]
  clear hn hd ht hnt hp hv1
  rcases hk with rfl | rfl
  · have HT1 : Hid (TreeAt (putW w G (ino.toNat - 1) { noNd with kind := 1 } (.slice none 0 0)) P G (setNd t ino { noNd with kind := 1 })) := h.put (h.idx i1 i2) { noNd with kind := 1 } (.slice none 0 0) (World.ownsRow_nil _ _ _ _)
    have HS1 := Lib.hid (hsl.set ino { noNd with kind := 1 } (Nat.zero_le _))
    clear hsl
    go_enter Try.func25, Try.ntmps25
    go_wp2_with (first | (go_at_call 24; refine (t_name s _ HN.out _ hs).mono ?_; rintro e w' ⟨rfl, rfl⟩) | (go_at_call 38; refine (t_dir P G t dir s _ HD.out _ h h0 hs).mono ?_; rintro e w' ⟨rfl, rfl⟩) | (go_at_call 39; refine (t_at P G t dir s _ HP.out _ h b1 b2).mono ?_; rintro e w' ⟨rfl, rfl⟩) | (go_at_call 40; refine (t_there P G t ino _ HT.out _ h i0).mono ?_; rintro e w' ⟨rfl, rfl⟩) | (go_at_call 41; refine (t_add P G _ dir s ino _ HT1.out b1 (by rw [setNd_length]; exact b2) HS1.out).mono ?_; rintro e w4 ⟨rfl, ht4, hg4⟩; have HT4 := Lib.hid ht4; have HG4 := Lib.hid hg4; clear ht4 hg4))
    go_ret
    exact ⟨rfl, HT4.out, grown_trans (putW_grown w G _ { noNd with kind := 1 } (.slice none 0 0)) HG4.out⟩
  · have HT1 : Hid (TreeAt (putW w G (ino.toNat - 1) { noNd with kind := 2 } (.slice none 0 0)) P G (setNd t ino { noNd with kind := 2 })) := h.put (h.idx i1 i2) { noNd with kind := 2 } (.slice none 0 0) (World.ownsRow_nil _ _ _ _)
    have HS1 := Lib.hid (hsl.set ino { noNd with kind := 2 } (Nat.zero_le _))
    clear hsl
    go_enter Try.func25, Try.ntmps25
    go_wp2_with (first | (go_at_call 24; refine (t_name s _ HN.out _ hs).mono ?_; rintro e w' ⟨rfl, rfl⟩) | (go_at_call 38; refine (t_dir P G t dir s _ HD.out _ h h0 hs).mono ?_; rintro e w' ⟨rfl, rfl⟩) | (go_at_call 39; refine (t_at P G t dir s _ HP.out _ h b1 b2).mono ?_; rintro e w' ⟨rfl, rfl⟩) | (go_at_call 40; refine (t_there P G t ino _ HT.out _ h i0).mono ?_; rintro e w' ⟨rfl, rfl⟩) | (go_at_call 41; refine (t_add P G _ dir s ino _ HT1.out b1 (by rw [setNd_length]; exact b2) HS1.out).mono ?_; rintro e w4 ⟨rfl, ht4, hg4⟩; have HT4 := Lib.hid ht4; have HG4 := Lib.hid hg4; clear ht4 hg4))
    go_ret
    exact ⟨rfl, HT4.out, grown_trans (putW_grown w G _ { noNd with kind := 2 } (.slice none 0 0)) HG4.out⟩

theorem t_make (P G : Nat) (t : Tr) (dir : Int) (s : ByteArray) (kind ino : Int) (w : World) (h : TreeAt w P G t) (h0 : 0 ≤ dir) (hs : s.size ≤ maxLen) (hsl : Small t) (r : Int) (t' : Tr) (hr : makeR t dir s kind ino = (r, t')) :
    Calls Try.prog 25 #[.pointer (some ⟨P, 0, none⟩), .int .u32 dir, .string s, .int .u8 kind, .int .u32 ino] w fun e w' => e = .returned (.int .i64 r) ∧ TreeAt w' P G t' ∧ w.grownBy w' (some G) := by
  unfold makeR at hr
  by_cases hb : nameB s = false ∨ (kind ≠ 1 ∧ kind ≠ 2) ∨ ino < 1 ∨ (t.length : Int) < ino
  · rw [if_pos hb] at hr
    injection hr with e1 e2
    subst e1 e2
    exact (t_make_arg P G t dir s kind ino w h h0 hs hb).mono fun e w' ⟨he, hw⟩ => by subst hw; exact ⟨he, h, grown_of_below (Below.refl _ _)⟩
  · rw [if_neg hb] at hr
    have hn : nameB s = true := by
      cases hn : nameB s with
      | true => rfl
      | false => exact absurd (.inl hn) hb
    have hk : kind = 1 ∨ kind = 2 := by
      by_cases k1 : kind = 1
      · exact .inl k1
      · by_cases k2 : kind = 2
        · exact .inr k2
        · exact absurd (.inr (.inl ⟨k1, k2⟩)) hb
    have i1 : 1 ≤ ino := by
      by_cases hi : ino < 1
      · exact absurd (.inr (.inr (.inl hi))) hb
      · omega
    have i2 : ino ≤ t.length := by
      by_cases hi : (t.length : Int) < ino
      · exact absurd (.inr (.inr (.inr hi))) hb
      · omega
    by_cases hd : dirE t dir s ≠ 0
    · rw [if_pos hd] at hr
      injection hr with e1 e2
      subst e1 e2
      exact (t_make_dir P G t dir s kind ino w h h0 hs hn hk i1 i2 _ rfl (by simpa using hd)).mono fun e w' ⟨he, hw⟩ => by subst hw; exact ⟨he, h, grown_of_below (Below.refl _ _)⟩
    · rw [if_neg hd] at hr
      have hd0 : dirE t dir s = 0 := by omega
      by_cases hh : (place (ndAt t dir).l s).isSome = true ∨ thereB t ino = true
      · rw [if_pos hh] at hr
        injection hr with e1 e2
        subst e1 e2
        exact (t_make_have P G t dir s kind ino w h h0 hs hn hk i1 i2 hd0 hh).mono fun e w' ⟨he, hw⟩ => by subst hw; exact ⟨he, h, grown_of_below (Below.refl _ _)⟩
      · rw [if_neg hh] at hr
        injection hr with e1 e2
        subst e1 e2
        have hp : place (ndAt t dir).l s = none := by
          cases hp : place (ndAt t dir).l s with
          | none => rfl
          | some k => exact absurd (.inl (by rw [hp]; rfl)) hh
        have hnt : thereB t ino = false := by
          cases hnt : thereB t ino with
          | false => rfl
          | true => exact absurd (.inr hnt) hh
        exact t_make_ok P G t dir s kind ino w h h0 hs hn hk i1 i2 hd0 hp hnt hsl
end Go.Proofs.Ytnnidgjfjgkdpaa
