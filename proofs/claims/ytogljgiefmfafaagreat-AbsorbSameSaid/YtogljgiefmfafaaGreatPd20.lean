/- Trees as the document has them: what is made, linked, taken away. -/
import Derived.Test.YtogljgiefmfafaaGreatPd19
namespace Go.Proofs.YtogljgiefmfafaaGreat.D
open Go.RowKit
theorem setNd_length (t : Tr) (ino : Int) (x : Nd) : (setNd t ino x).length = t.length := by unfold setNd; simp
theorem ndAt_set_ne {t : Tr} {a b : Int} (x : Nd) (h1 : 1 ≤ a) (h2 : 1 ≤ b) (h : a ≠ b) : ndAt (setNd t a x) b = ndAt t b := by
 unfold ndAt setNd nd
 rw [List.getD_eq_getElem?_getD, List.getD_eq_getElem?_getD, List.getElem?_set_ne (by omega)]
theorem ndAt_set_self {t : Tr} {a : Int} (x : Nd) (h1 : 1 ≤ a) (h2 : a ≤ t.length) : ndAt (setNd t a x) a = x := by
 unfold ndAt setNd nd
 rw [List.getD_eq_getElem?_getD, List.getElem?_set_self (by omega)]; rfl
theorem Small.set {t : Tr} (h : Small t) (a : Int) (x : Nd) (hx : x.l.length ≤ 100000) : Small (setNd t a x) := by
 intro y hy
 unfold setNd at hy
 rcases List.mem_or_eq_of_mem_set hy with hy | rfl
 · exact h y hy
 · exact hx
theorem Small.at_ {t : Tr} (h : Small t) {ino : Int} (h1 : 1 ≤ ino) (h2 : ino ≤ t.length) : (ndAt t ino).l.length ≤ 100000 := h.nd (by omega)
def made (t : Tr) (dir : Int) (s : ByteArray) (kind ino : Int) : Tr :=
 setNd (setNd t ino { noNd with kind := kind }) dir { ndAt (setNd t ino { noNd with kind := kind }) dir with l := addL (ndAt (setNd t ino { noNd with kind := kind }) dir).l ⟨s, ino⟩ }
def makeR (t : Tr) (dir : Int) (s : ByteArray) (kind ino : Int) : Int × Tr :=
 if nameB s = false ∨ (kind ≠ 1 ∧ kind ≠ 2) ∨ ino < 1 ∨ (t.length : Int) < ino then (2, t)
 else if dirE t dir s ≠ 0 then (dirE t dir s, t)
 else if (place (ndAt t dir).l s).isSome = true ∨ thereB t ino = true then (9, t)
 else (0, made t dir s kind ino)
set_option maxHeartbeats 4000000 in
theorem t_make_arg (P G : Nat) (t : Tr) (dir : Int) (s : ByteArray) (kind ino : Int) (w : World) (h : TreeAt w P G t) (_h0 : 0 ≤ dir) (hs : s.size ≤ maxLen) (hb : nameB s = false ∨ (kind ≠ 1 ∧ kind ≠ 2) ∨ ino < 1 ∨ (t.length : Int) < ino) :
  Calls Tryz.prog 59 #[.pointer (some ⟨P, 0, none⟩), .int .u32 dir, .string s, .int .u8 kind, .int .u32 ino] w fun e w' => e = .returned (.int .i64 2) ∧ w = w' := by
 have hsm := h.small
 obtain ⟨c, hc1, hc2, hc⟩ := h.cell0
 unfold maxLen at hc2
 cases hn : nameB s with
 | false =>
  have HN := Lib.hid hn
  clear hn hb
  go_enter Tryz.func59, Tryz.ntmps59
  go_wp2_with (first | (go_at_call 58; refine (t_name s _ HN.out _ hs).mono ?_; rintro e w' ⟨rfl, rfl⟩))
  go_ret
  exact ⟨ret_i64 rfl, rfl⟩
 | true =>
  have HN := Lib.hid hn
  rw [hn] at hb
  clear hn
  cases k1 : (kind != 1) with
  | true =>
   cases k2 : (kind != 2) with
   | true =>
    clear hb
    go_enter Tryz.func59, Tryz.ntmps59
    go_wp2_with (first | (go_at_call 58; refine (t_name s _ HN.out _ hs).mono ?_; rintro e w' ⟨rfl, rfl⟩))
    go_ret
    exact ⟨ret_i64 rfl, rfl⟩
   | false =>
    have e2 : kind = 2 := by simpa using k2
    by_cases hi : ino < 1
    · clear hb e2
      go_enter Tryz.func59, Tryz.ntmps59
      go_wp2_with (first | (go_at_call 58; refine (t_name s _ HN.out _ hs).mono ?_; rintro e w' ⟨rfl, rfl⟩))
      go_ret
      exact ⟨ret_i64 rfl, rfl⟩
    · have hi2 : (t.length : Int) < ino := by
       rcases hb with hb | hb | hb | hb
       · cases hb
       · exact absurd e2 hb.2
       · exact absurd hb hi
       · exact hb
      clear hb e2
      go_enter Tryz.func59, Tryz.ntmps59
      go_wp2_with (first | (go_at_call 58; refine (t_name s _ HN.out _ hs).mono ?_; rintro e w' ⟨rfl, rfl⟩))
      go_ret
      exact ⟨ret_i64 rfl, rfl⟩
  | false =>
   have e2 : kind = 1 := by simpa using k1
   by_cases hi : ino < 1
   · clear hb e2
     go_enter Tryz.func59, Tryz.ntmps59
     go_wp2_with (first | (go_at_call 58; refine (t_name s _ HN.out _ hs).mono ?_; rintro e w' ⟨rfl, rfl⟩))
     go_ret
     exact ⟨ret_i64 rfl, rfl⟩
   · have hi2 : (t.length : Int) < ino := by
      rcases hb with hb | hb | hb | hb
      · cases hb
      · exact absurd e2 hb.1
      · exact absurd hb hi
      · exact hb
     clear hb e2
     go_enter Tryz.func59, Tryz.ntmps59
     go_wp2_with (first | (go_at_call 58; refine (t_name s _ HN.out _ hs).mono ?_; rintro e w' ⟨rfl, rfl⟩))
     go_ret
     exact ⟨ret_i64 rfl, rfl⟩
set_option maxHeartbeats 4000000 in
theorem t_make_dir (P G : Nat) (t : Tr) (dir : Int) (s : ByteArray) (kind ino : Int) (w : World) (h : TreeAt w P G t) (h0 : 0 ≤ dir) (hs : s.size ≤ maxLen) (hn : nameB s = true) (hk : kind = 1 ∨ kind = 2) (i1 : 1 ≤ ino) (i2 : ino ≤ t.length) (r : Int) (hd : dirE t dir s = r) (hr : (r != 0) = true) :
  Calls Tryz.prog 59 #[.pointer (some ⟨P, 0, none⟩), .int .u32 dir, .string s, .int .u8 kind, .int .u32 ino] w fun e w' => e = .returned (.int .i64 r) ∧ w = w' := by
 have hsm := h.small
 obtain ⟨c, hc1, hc2, hc⟩ := h.cell0
 unfold maxLen at hc2
 have HN := Lib.hid hn
 have HD := Lib.hid hd
 clear hn hd
 rcases hk with rfl | rfl
 · go_enter Tryz.func59, Tryz.ntmps59
   go_wp2_with (first | (go_at_call 58; refine (t_name s _ HN.out _ hs).mono ?_; rintro e w' ⟨rfl, rfl⟩) | (go_at_call 111; refine (t_dir P G t dir s _ HD.out _ h h0 hs).mono ?_; rintro e w' ⟨rfl, rfl⟩))
   go_ret
   exact ⟨ret_i64 rfl, rfl⟩
 · go_enter Tryz.func59, Tryz.ntmps59
   go_wp2_with (first | (go_at_call 58; refine (t_name s _ HN.out _ hs).mono ?_; rintro e w' ⟨rfl, rfl⟩) | (go_at_call 111; refine (t_dir P G t dir s _ HD.out _ h h0 hs).mono ?_; rintro e w' ⟨rfl, rfl⟩))
   go_ret
   exact ⟨ret_i64 rfl, rfl⟩
set_option maxHeartbeats 4000000 in
theorem t_make_have (P G : Nat) (t : Tr) (dir : Int) (s : ByteArray) (kind ino : Int) (w : World) (h : TreeAt w P G t) (h0 : 0 ≤ dir) (hs : s.size ≤ maxLen) (hn : nameB s = true) (hk : kind = 1 ∨ kind = 2) (i1 : 1 ≤ ino) (i2 : ino ≤ t.length) (hd : dirE t dir s = 0) (hh : (place (ndAt t dir).l s).isSome = true ∨ thereB t ino = true) :
  Calls Tryz.prog 59 #[.pointer (some ⟨P, 0, none⟩), .int .u32 dir, .string s, .int .u8 kind, .int .u32 ino] w fun e w' => e = .returned (.int .i64 9) ∧ w = w' := by
 have hsm := h.small
 obtain ⟨c, hc1, hc2, hc⟩ := h.cell0
 unfold maxLen at hc2
 obtain ⟨_, ht, _⟩ := dirE_zero hd
 obtain ⟨b1, b2, _⟩ := thereB_bounds ht
 have i0 : 0 ≤ ino := by omega
 have HN := Lib.hid hn
 have HD := Lib.hid hd
 clear hn hd ht
 cases hp : place (ndAt t dir).l s with
 | some k =>
  have HP : Hid (placeI (ndAt t dir).l s = (k : Nat)) := by show _ = _; unfold placeI; rw [hp]
  clear hp hh
  rcases hk with rfl | rfl
  · go_enter Tryz.func59, Tryz.ntmps59
    go_wp2_with (first | (go_at_call 58; refine (t_name s _ HN.out _ hs).mono ?_; rintro e w' ⟨rfl, rfl⟩) | (go_at_call 111; refine (t_dir P G t dir s _ HD.out _ h h0 hs).mono ?_; rintro e w' ⟨rfl, rfl⟩) | (go_at_call 112; refine (t_at P G t dir s _ HP.out _ h b1 b2).mono ?_; rintro e w' ⟨rfl, rfl⟩))
    go_ret
    exact ⟨ret_i64 rfl, rfl⟩
  · go_enter Tryz.func59, Tryz.ntmps59
    go_wp2_with (first | (go_at_call 58; refine (t_name s _ HN.out _ hs).mono ?_; rintro e w' ⟨rfl, rfl⟩) | (go_at_call 111; refine (t_dir P G t dir s _ HD.out _ h h0 hs).mono ?_; rintro e w' ⟨rfl, rfl⟩) | (go_at_call 112; refine (t_at P G t dir s _ HP.out _ h b1 b2).mono ?_; rintro e w' ⟨rfl, rfl⟩))
    go_ret
    exact ⟨ret_i64 rfl, rfl⟩
 | none =>
  have HP : Hid (placeI (ndAt t dir).l s = -1) := by show _ = _; unfold placeI; rw [hp]
  have HT : Hid (thereB t ino = true) := by rcases hh with hh | hh; (rw [hp] at hh; cases hh); exact hh
  clear hp hh
  rcases hk with rfl | rfl
  · go_enter Tryz.func59, Tryz.ntmps59
    go_wp2_with (first | (go_at_call 58; refine (t_name s _ HN.out _ hs).mono ?_; rintro e w' ⟨rfl, rfl⟩) | (go_at_call 111; refine (t_dir P G t dir s _ HD.out _ h h0 hs).mono ?_; rintro e w' ⟨rfl, rfl⟩) | (go_at_call 112; refine (t_at P G t dir s _ HP.out _ h b1 b2).mono ?_; rintro e w' ⟨rfl, rfl⟩) | (go_at_call 113; refine (t_there P G t ino _ HT.out _ h i0).mono ?_; rintro e w' ⟨rfl, rfl⟩))
    go_ret
    exact ⟨ret_i64 rfl, rfl⟩
  · go_enter Tryz.func59, Tryz.ntmps59
    go_wp2_with (first | (go_at_call 58; refine (t_name s _ HN.out _ hs).mono ?_; rintro e w' ⟨rfl, rfl⟩) | (go_at_call 111; refine (t_dir P G t dir s _ HD.out _ h h0 hs).mono ?_; rintro e w' ⟨rfl, rfl⟩) | (go_at_call 112; refine (t_at P G t dir s _ HP.out _ h b1 b2).mono ?_; rintro e w' ⟨rfl, rfl⟩) | (go_at_call 113; refine (t_there P G t ino _ HT.out _ h i0).mono ?_; rintro e w' ⟨rfl, rfl⟩))
    go_ret
    exact ⟨ret_i64 rfl, rfl⟩
set_option maxRecDepth 100000 in
set_option maxHeartbeats 4000000 in
theorem t_make_ok (P G : Nat) (t : Tr) (dir : Int) (s : ByteArray) (kind ino : Int) (w : World) (h : TreeAt w P G t) (h0 : 0 ≤ dir) (hs : s.size ≤ maxLen) (hn : nameB s = true) (hk : kind = 1 ∨ kind = 2) (i1 : 1 ≤ ino) (i2 : ino ≤ t.length) (hd : dirE t dir s = 0) (hp : place (ndAt t dir).l s = none) (hnt : thereB t ino = false) (hsl : Small t) :
  Calls Tryz.prog 59 #[.pointer (some ⟨P, 0, none⟩), .int .u32 dir, .string s, .int .u8 kind, .int .u32 ino] w fun e w' => e = .returned (.int .i64 0) ∧ TreeAt w' P G (made t dir s kind ino) ∧ w.grownBy w' (some G) := by
 have hsm := h.small
 obtain ⟨c, hc1, hc2, hc⟩ := h.cell0
 unfold maxLen at hc2
 obtain ⟨_, ht, _⟩ := dirE_zero hd
 obtain ⟨b1, b2, _⟩ := thereB_bounds ht
 obtain ⟨g0, ⟨v, g1, hv1⟩, g2, g3⟩ := h.get (h.idx i1 i2)
 obtain ⟨A1, c1, rfl, _, _, _⟩ := hv1.get
 have f0 := h.frozenG ((ino.toNat - 1) * 4)
 have f1 := h.frozenG ((ino.toNat - 1) * 4 + 1)
 have f2 := h.frozenG ((ino.toNat - 1) * 4 + 2)
 have f3 := h.frozenG ((ino.toNat - 1) * 4 + 3)
 have i0 : 0 ≤ ino := by omega
 have HN := Lib.hid hn
 have HD := Lib.hid hd
 have HT := Lib.hid hnt
 have HP : Hid (placeI (ndAt t dir).l s = -1) := by show _ = _; unfold placeI; rw [hp]
 clear hn hd ht hnt hp hv1
 rcases hk with rfl | rfl
 · have HT1 : Hid (TreeAt (putW w G (ino.toNat - 1) { noNd with kind := 1 } (.slice none 0 0)) P G (setNd t ino { noNd with kind := 1 })) := h.put (h.idx i1 i2) { noNd with kind := 1 } (.slice none 0 0) (World.ownsRow_nil _ _ _ _)
   have HS1 := Lib.hid (hsl.set ino { noNd with kind := 1 } (Nat.zero_le _))
   clear hsl
   go_enter Tryz.func59, Tryz.ntmps59
   go_wp2_with (first | (go_at_call 58; refine (t_name s _ HN.out _ hs).mono ?_; rintro e w' ⟨rfl, rfl⟩) | (go_at_call 111; refine (t_dir P G t dir s _ HD.out _ h h0 hs).mono ?_; rintro e w' ⟨rfl, rfl⟩) | (go_at_call 112; refine (t_at P G t dir s _ HP.out _ h b1 b2).mono ?_; rintro e w' ⟨rfl, rfl⟩) | (go_at_call 113; refine (t_there P G t ino _ HT.out _ h i0).mono ?_; rintro e w' ⟨rfl, rfl⟩) | (go_at_call 114; refine (t_add P G _ dir s ino _ HT1.out b1 (by rw [setNd_length]; exact b2) HS1.out).mono ?_; rintro e w4 ⟨rfl, ht4, hg4⟩; have HT4 := Lib.hid ht4; have HG4 := Lib.hid hg4; clear ht4 hg4))
   go_ret
   exact ⟨rfl, HT4.out, grown_trans (putW_grown w G _ { noNd with kind := 1 } (.slice none 0 0)) HG4.out⟩
 · have HT1 : Hid (TreeAt (putW w G (ino.toNat - 1) { noNd with kind := 2 } (.slice none 0 0)) P G (setNd t ino { noNd with kind := 2 })) := h.put (h.idx i1 i2) { noNd with kind := 2 } (.slice none 0 0) (World.ownsRow_nil _ _ _ _)
   have HS1 := Lib.hid (hsl.set ino { noNd with kind := 2 } (Nat.zero_le _))
   clear hsl
   go_enter Tryz.func59, Tryz.ntmps59
   go_wp2_with (first | (go_at_call 58; refine (t_name s _ HN.out _ hs).mono ?_; rintro e w' ⟨rfl, rfl⟩) | (go_at_call 111; refine (t_dir P G t dir s _ HD.out _ h h0 hs).mono ?_; rintro e w' ⟨rfl, rfl⟩) | (go_at_call 112; refine (t_at P G t dir s _ HP.out _ h b1 b2).mono ?_; rintro e w' ⟨rfl, rfl⟩) | (go_at_call 113; refine (t_there P G t ino _ HT.out _ h i0).mono ?_; rintro e w' ⟨rfl, rfl⟩) | (go_at_call 114; refine (t_add P G _ dir s ino _ HT1.out b1 (by rw [setNd_length]; exact b2) HS1.out).mono ?_; rintro e w4 ⟨rfl, ht4, hg4⟩; have HT4 := Lib.hid ht4; have HG4 := Lib.hid hg4; clear ht4 hg4))
   go_ret
   exact ⟨rfl, HT4.out, grown_trans (putW_grown w G _ { noNd with kind := 2 } (.slice none 0 0)) HG4.out⟩
theorem t_make (P G : Nat) (t : Tr) (dir : Int) (s : ByteArray) (kind ino : Int) (w : World) (h : TreeAt w P G t) (h0 : 0 ≤ dir) (hs : s.size ≤ maxLen) (hsl : Small t) (r : Int) (t' : Tr) (hr : makeR t dir s kind ino = (r, t')) :
  Calls Tryz.prog 59 #[.pointer (some ⟨P, 0, none⟩), .int .u32 dir, .string s, .int .u8 kind, .int .u32 ino] w fun e w' => e = .returned (.int .i64 r) ∧ TreeAt w' P G t' ∧ w.grownBy w' (some G) := by
 unfold makeR at hr
 by_cases hb : nameB s = false ∨ (kind ≠ 1 ∧ kind ≠ 2) ∨ ino < 1 ∨ (t.length : Int) < ino
 · rw [if_pos hb] at hr
   injection hr with e1 e2
   subst e1 e2
   exact (t_make_arg P G t dir s kind ino w h h0 hs hb).mono fun e w' ⟨he, hw⟩ => by subst hw; exact ⟨he, h, grown_of_below (Below.refl _ _)⟩
 · rw [if_neg hb] at hr
   have hn : nameB s = true := by
    cases hn : nameB s with
    | true => rfl
    | false => exact absurd (.inl hn) hb
   have hk : kind = 1 ∨ kind = 2 := by
    by_cases k1 : kind = 1
    · exact .inl k1
    · by_cases k2 : kind = 2
      · exact .inr k2
      · exact absurd (.inr (.inl ⟨k1, k2⟩)) hb
   have i1 : 1 ≤ ino := by
    by_cases hi : ino < 1
    · exact absurd (.inr (.inr (.inl hi))) hb
    · omega
   have i2 : ino ≤ t.length := by
    by_cases hi : (t.length : Int) < ino
    · exact absurd (.inr (.inr (.inr hi))) hb
    · omega
   by_cases hd : dirE t dir s ≠ 0
   · rw [if_pos hd] at hr
     injection hr with e1 e2
     subst e1 e2
     exact (t_make_dir P G t dir s kind ino w h h0 hs hn hk i1 i2 _ rfl (by simpa using hd)).mono fun e w' ⟨he, hw⟩ => by subst hw; exact ⟨he, h, grown_of_below (Below.refl _ _)⟩
   · rw [if_neg hd] at hr
     have hd0 : dirE t dir s = 0 := by omega
     by_cases hh : (place (ndAt t dir).l s).isSome = true ∨ thereB t ino = true
     · rw [if_pos hh] at hr
       injection hr with e1 e2
       subst e1 e2
       exact (t_make_have P G t dir s kind ino w h h0 hs hn hk i1 i2 hd0 hh).mono fun e w' ⟨he, hw⟩ => by subst hw; exact ⟨he, h, grown_of_below (Below.refl _ _)⟩
     · rw [if_neg hh] at hr
       injection hr with e1 e2
       subst e1 e2
       have hp : place (ndAt t dir).l s = none := by
        cases hp : place (ndAt t dir).l s with
        | none => rfl
        | some k => exact absurd (.inl (by rw [hp]; rfl)) hh
       have hnt : thereB t ino = false := by
        cases hnt : thereB t ino with
        | false => rfl
        | true => exact absurd (.inr hnt) hh
       exact t_make_ok P G t dir s kind ino w h h0 hs hn hk i1 i2 hd0 hp hnt hsl
end Go.Proofs.YtogljgiefmfafaaGreat.D
namespace Go.Proofs.YtogljgiefmfafaaGreat.D
open Go.RowKit
def addT (t : Tr) (dir : Int) (e : Ent) : Tr := setNd t dir { ndAt t dir with l := addL (ndAt t dir).l e }
def delS (t : Tr) (dir : Int) (s : ByteArray) : Tr := match place (ndAt t dir).l s with | some k => setNd t dir { ndAt t dir with l := delAt (ndAt t dir).l k } | none => t
theorem delS_length (t : Tr) (dir : Int) (s : ByteArray) : (delS t dir s).length = t.length := by
 unfold delS; split
 · exact setNd_length _ _ _
 · rfl
theorem freeT_length (t : Tr) (ino : Int) : (freeT t ino).length = t.length := by
 unfold freeT; split
 · exact setNd_length _ _ _
 · rfl
theorem delAt_length {l : List Ent} {k : Nat} (hk : k < l.length) : (delAt l k).length = l.length - 1 := by unfold delAt; simp; omega
theorem Small.del {t : Tr} (h : Small t) {dir : Int} (h1 : 1 ≤ dir) (h2 : dir ≤ t.length) (s : ByteArray) : Small (delS t dir s) := by
 unfold delS; split
 · rename_i k hk
   obtain ⟨e, he, _⟩ := place_get hk
   have := (List.getElem?_eq_some_iff.1 he).1
   exact h.set _ _ (by show (delAt _ _).length ≤ _; rw [delAt_length this]; have := h.at_ h1 h2; omega)
 · exact h
theorem Small.free {t : Tr} (h : Small t) (ino : Int) : Small (freeT t ino) := by
 unfold freeT; split
 · exact h.set _ _ (Nat.zero_le _)
 · exact h
theorem t_dels (P G : Nat) (t : Tr) (ino : Int) (s : ByteArray) (hk : (place (ndAt t ino).l s).isSome = true) (w : World) (h : TreeAt w P G t) (h1 : 1 ≤ ino) (h2 : ino ≤ t.length) (hsm : Small t) :
  Calls Tryz.prog 166 #[.pointer (some ⟨P, 0, none⟩), .int .u32 ino, .string s] w fun e w' => e = .returned (.tuple #[]) ∧ TreeAt w' P G (delS t ino s) ∧ w.grownBy w' (some G) := by
 cases hp : place (ndAt t ino).l s with
 | none => rw [hp] at hk; cases hk
 | some k =>
  have : delS t ino s = setNd t ino { ndAt t ino with l := delAt (ndAt t ino).l k } := by unfold delS; rw [hp]
  rw [this]
  exact t_del P G t ino s k hp w h h1 h2 hsm
theorem look_ok {t : Tr} {dir : Int} {s : ByteArray} {ino : Int} (h : lookR t dir s = (ino, 0)) : dirE t dir s = 0 ∧ ∃ k e, place (ndAt t dir).l s = some k ∧ (ndAt t dir).l[k]? = some e ∧ e.ino = ino := by
 unfold lookR at h
 by_cases hd : dirE t dir s ≠ 0
 · rw [if_pos hd] at h
   injection h with _ h; exact absurd h hd
 · rw [if_neg hd] at h
   cases hp : place (ndAt t dir).l s with
   | none => rw [hp] at h; simp at h
   | some k =>
    obtain ⟨e, he, _⟩ := place_get hp
    rw [hp] at h
    simp only [he, Option.map_some, Option.getD_some, Prod.mk.injEq, and_true] at h
    exact ⟨by omega, k, e, rfl, he, h⟩
theorem ndAt_mem {t : Tr} {ino : Int} (h1 : 1 ≤ ino) (h2 : ino ≤ t.length) : ndAt t ino ∈ t := List.mem_of_getElem? (nd_get (t := t) (k := ino.toNat - 1) (by omega))
theorem look_good {t : Tr} {dir : Int} {s : ByteArray} {ino : Int} (hg : GoodE t) (h : lookR t dir s = (ino, 0)) : 1 ≤ ino ∧ ino ≤ t.length := by
 obtain ⟨hd, k, e, _, he, rfl⟩ := look_ok h
 obtain ⟨_, ht, _⟩ := dirE_zero hd
 obtain ⟨b1, b2, _⟩ := thereB_bounds ht
 exact hg _ (ndAt_mem b1 b2) _ (List.mem_of_getElem? he)
def linkR (t : Tr) (dir : Int) (s : ByteArray) (ino : Int) : Int × Tr :=
 if nameB s = false then (2, t) else if thereB t dir = false ∨ thereB t ino = false then (3, t) else if ((ndAt t dir).kind != 2) = true then (180, t)
 else if ((ndAt t ino).kind == 2) = true then (181, t) else if (place (ndAt t dir).l s).isSome = true then (9, t) else if 200 ≤ linksV t ino then (184, t)
 else (0, addT t dir ⟨s, ino⟩)
set_option maxHeartbeats 4000000 in
theorem t_link (P G : Nat) (t : Tr) (dir : Int) (s : ByteArray) (ino : Int) (w : World) (h : TreeAt w P G t) (h0 : 0 ≤ dir) (i0 : 0 ≤ ino) (hs : s.size ≤ maxLen) (hsl : Small t) (r : Int) (t' : Tr) (hr : linkR t dir s ino = (r, t')) :
  Calls Tryz.prog 61 #[.pointer (some ⟨P, 0, none⟩), .int .u32 dir, .string s, .int .u32 ino] w fun e w' => e = .returned (.int .i64 r) ∧ TreeAt w' P G t' ∧ w.grownBy w' (some G) := by
 unfold linkR at hr
 cases hn : nameB s with
 | false =>
  rw [if_pos hn] at hr
  have HN := Lib.hid hn
  clear hn
  injection hr with e1 e2
  subst e1
  subst e2
  go_enter Tryz.func61, Tryz.ntmps61
  go_wp2_with (first | (go_at_call 58; (with_reducible refine (t_name s _ HN.out _ hs).mono ?_); rintro e w' ⟨rfl, rfl⟩))
  go_ret
  exact ⟨ret_i64 rfl, h, grown_of_below (Below.refl _ _)⟩
 | true =>
  rw [if_neg (by rw [hn]; simp)] at hr
  have HN := Lib.hid hn
  clear hn
  cases htd : thereB t dir with
  | false =>
   rw [if_pos (.inl htd)] at hr
   have HTD := Lib.hid htd
   clear htd
   injection hr with e1 e2
   subst e1
   subst e2
   go_enter Tryz.func61, Tryz.ntmps61
   go_wp2_with (first | (go_at_call 58; (with_reducible refine (t_name s _ HN.out _ hs).mono ?_); rintro e w' ⟨rfl, rfl⟩) | (go_at_call 113; (with_reducible refine (t_there P G t dir _ HTD.out _ h h0).mono ?_); rintro e w' ⟨rfl, rfl⟩))
   go_ret
   exact ⟨ret_i64 rfl, h, grown_of_below (Below.refl _ _)⟩
  | true =>
   cases hti : thereB t ino with
   | false =>
    rw [if_pos (.inr hti)] at hr
    have HTD := Lib.hid htd
    have HTI := Lib.hid hti
    clear htd hti
    injection hr with e1 e2
    subst e1
    subst e2
    go_enter Tryz.func61, Tryz.ntmps61
    go_wp2_with (first | (go_at_call 58; (with_reducible refine (t_name s _ HN.out _ hs).mono ?_); rintro e w' ⟨rfl, rfl⟩) | (go_at_call 113; (with_reducible refine (t_there P G t dir _ HTD.out _ h h0).mono ?_); rintro e w' ⟨rfl, rfl⟩) | (go_at_call 113; (with_reducible refine (t_there P G t ino _ HTI.out _ h i0).mono ?_); rintro e w' ⟨rfl, rfl⟩))
    go_ret
    exact ⟨ret_i64 rfl, h, grown_of_below (Below.refl _ _)⟩
   | true =>
    rw [if_neg (fun hh => by rcases hh with hh | hh; (rw [htd] at hh; cases hh); (rw [hti] at hh; cases hh))] at hr
    obtain ⟨b1, b2, _⟩ := thereB_bounds htd
    obtain ⟨i1, i2, _⟩ := thereB_bounds hti
    have HTD := Lib.hid htd
    have HTI := Lib.hid hti
    clear htd hti
    cases hk : ((ndAt t dir).kind != 2) with
    | true =>
     rw [if_pos hk] at hr
     injection hr with e1 e2
     subst e1
     subst e2
     go_enter Tryz.func61, Tryz.ntmps61
     go_wp2_with (first | (go_at_call 58; (with_reducible refine (t_name s _ HN.out _ hs).mono ?_); rintro e w' ⟨rfl, rfl⟩) | (go_at_call 113; (with_reducible refine (t_there P G t dir _ HTD.out _ h h0).mono ?_); rintro e w' ⟨rfl, rfl⟩) | (go_at_call 113; (with_reducible refine (t_there P G t ino _ HTI.out _ h i0).mono ?_); rintro e w' ⟨rfl, rfl⟩) | (go_at_call 116; (with_reducible refine (t_kind P G t dir _ h b1 b2).mono ?_); rintro e w' ⟨rfl, rfl⟩))
     go_ret
     exact ⟨ret_i64 rfl, h, grown_of_below (Below.refl _ _)⟩
    | false =>
     rw [if_neg (by rw [hk]; simp)] at hr
     cases hk2 : ((ndAt t ino).kind == 2) with
     | true =>
      rw [if_pos hk2] at hr
      injection hr with e1 e2
      subst e1
      subst e2
      go_enter Tryz.func61, Tryz.ntmps61
      go_wp2_with (first | (go_at_call 58; (with_reducible refine (t_name s _ HN.out _ hs).mono ?_); rintro e w' ⟨rfl, rfl⟩) | (go_at_call 113; (with_reducible refine (t_there P G t dir _ HTD.out _ h h0).mono ?_); rintro e w' ⟨rfl, rfl⟩) | (go_at_call 113; (with_reducible refine (t_there P G t ino _ HTI.out _ h i0).mono ?_); rintro e w' ⟨rfl, rfl⟩) | (go_at_call 116; (with_reducible refine (t_kind P G t dir _ h b1 b2).mono ?_); rintro e w' ⟨rfl, rfl⟩) | (go_at_call 116; (with_reducible refine (t_kind P G t ino _ h i1 i2).mono ?_); rintro e w' ⟨rfl, rfl⟩))
      go_ret
      exact ⟨ret_i64 rfl, h, grown_of_below (Below.refl _ _)⟩
     | false =>
      rw [if_neg (by rw [hk2]; simp)] at hr
      cases hp : place (ndAt t dir).l s with
      | some k =>
       rw [if_pos (by rw [hp]; rfl)] at hr
       have HP : Hid (placeI (ndAt t dir).l s = (k : Nat)) := by show _ = _; unfold placeI; rw [hp]
       clear hp
       injection hr with e1 e2
       subst e1
       subst e2
       go_enter Tryz.func61, Tryz.ntmps61
       go_wp2_with (first | (go_at_call 58; (with_reducible refine (t_name s _ HN.out _ hs).mono ?_); rintro e w' ⟨rfl, rfl⟩) | (go_at_call 113; (with_reducible refine (t_there P G t dir _ HTD.out _ h h0).mono ?_); rintro e w' ⟨rfl, rfl⟩) | (go_at_call 113; (with_reducible refine (t_there P G t ino _ HTI.out _ h i0).mono ?_); rintro e w' ⟨rfl, rfl⟩) | (go_at_call 116; (with_reducible refine (t_kind P G t dir _ h b1 b2).mono ?_); rintro e w' ⟨rfl, rfl⟩) | (go_at_call 116; (with_reducible refine (t_kind P G t ino _ h i1 i2).mono ?_); rintro e w' ⟨rfl, rfl⟩) | (go_at_call 112; (with_reducible refine (t_at P G t dir s _ HP.out _ h b1 b2).mono ?_); rintro e w' ⟨rfl, rfl⟩))
       go_ret
       exact ⟨ret_i64 rfl, h, grown_of_below (Below.refl _ _)⟩
      | none =>
       rw [if_neg (by rw [hp]; simp)] at hr
       have HP : Hid (placeI (ndAt t dir).l s = -1) := by show _ = _; unfold placeI; rw [hp]
       clear hp
       obtain ⟨v, hv⟩ : ∃ v, linksV t ino = v := ⟨_, rfl⟩
       rw [hv] at hr
       have HV := Lib.hid hv
       clear hv
       by_cases hl : 200 ≤ v
       · rw [if_pos hl] at hr
         injection hr with e1 e2
         subst e1
         subst e2
         go_enter Tryz.func61, Tryz.ntmps61
         go_wp2_with (first | (go_at_call 58; (with_reducible refine (t_name s _ HN.out _ hs).mono ?_); rintro e w' ⟨rfl, rfl⟩) | (go_at_call 113; (with_reducible refine (t_there P G t dir _ HTD.out _ h h0).mono ?_); rintro e w' ⟨rfl, rfl⟩) | (go_at_call 113; (with_reducible refine (t_there P G t ino _ HTI.out _ h i0).mono ?_); rintro e w' ⟨rfl, rfl⟩) | (go_at_call 116; (with_reducible refine (t_kind P G t dir _ h b1 b2).mono ?_); rintro e w' ⟨rfl, rfl⟩) | (go_at_call 116; (with_reducible refine (t_kind P G t ino _ h i1 i2).mono ?_); rintro e w' ⟨rfl, rfl⟩) | (go_at_call 112; (with_reducible refine (t_at P G t dir s _ HP.out _ h b1 b2).mono ?_); rintro e w' ⟨rfl, rfl⟩) | (go_at_call 117; (with_reducible refine (t_links P G t ino _ HV.out _ h i1 i2 hsl).mono ?_); rintro e w' ⟨rfl, rfl⟩))
         go_ret
         exact ⟨ret_i64 rfl, h, grown_of_below (Below.refl _ _)⟩
       · rw [if_neg hl] at hr
         injection hr with e1 e2
         subst e1
         subst e2
         go_enter Tryz.func61, Tryz.ntmps61
         go_wp2_with (first | (go_at_call 58; (with_reducible refine (t_name s _ HN.out _ hs).mono ?_); rintro e w' ⟨rfl, rfl⟩) | (go_at_call 113; (with_reducible refine (t_there P G t dir _ HTD.out _ h h0).mono ?_); rintro e w' ⟨rfl, rfl⟩) | (go_at_call 113; (with_reducible refine (t_there P G t ino _ HTI.out _ h i0).mono ?_); rintro e w' ⟨rfl, rfl⟩) | (go_at_call 116; (with_reducible refine (t_kind P G t dir _ h b1 b2).mono ?_); rintro e w' ⟨rfl, rfl⟩) | (go_at_call 116; (with_reducible refine (t_kind P G t ino _ h i1 i2).mono ?_); rintro e w' ⟨rfl, rfl⟩) | (go_at_call 112; (with_reducible refine (t_at P G t dir s _ HP.out _ h b1 b2).mono ?_); rintro e w' ⟨rfl, rfl⟩) | (go_at_call 117; (with_reducible refine (t_links P G t ino _ HV.out _ h i1 i2 hsl).mono ?_); rintro e w' ⟨rfl, rfl⟩) | (go_at_call 114; refine (t_add P G t dir s ino _ h b1 b2 hsl).mono ?_; rintro e w4 ⟨rfl, ht4, hg4⟩; have HT4 := Lib.hid ht4; have HG4 := Lib.hid hg4; clear ht4 hg4))
         go_ret
         exact ⟨ret_i64 rfl, HT4.out, HG4.out⟩
def unlinkR (t : Tr) (dir : Int) (s : ByteArray) : Int × Int × Tr :=
 if (lookR t dir s).2 ≠ 0 then (0, (lookR t dir s).2, t) else if ((ndAt t (lookR t dir s).1).kind == 2) = true then (0, 181, t)
 else ((lookR t dir s).1, 0, freeT (delS t dir s) (lookR t dir s).1)
def rmdirR (t : Tr) (dir : Int) (s : ByteArray) : Int × Int × Tr :=
 if (lookR t dir s).2 ≠ 0 then (0, (lookR t dir s).2, t) else if ((ndAt t (lookR t dir s).1).kind != 2) = true then (0, 180, t)
 else if 0 < (ndAt t (lookR t dir s).1).l.length then (0, 182, t)
 else ((lookR t dir s).1, 0, freeT (delS t dir s) (lookR t dir s).1)
set_option maxHeartbeats 4000000 in
theorem t_unlink (P G : Nat) (t : Tr) (dir : Int) (s : ByteArray) (w : World) (h : TreeAt w P G t) (h0 : 0 ≤ dir) (hs : s.size ≤ maxLen) (hsl : Small t) (hge : GoodE t) (r e0 : Int) (t' : Tr) (hr : unlinkR t dir s = (r, e0, t')) :
  Calls Tryz.prog 120 #[.pointer (some ⟨P, 0, none⟩), .int .u32 dir, .string s] w fun e w' => e = .returned (.tuple #[.int .u32 r, .int .i64 e0]) ∧ TreeAt w' P G t' ∧ w.grownBy w' (some G) := by
 unfold unlinkR at hr
 obtain ⟨ino, e, hl⟩ : ∃ ino e, lookR t dir s = (ino, e) := ⟨_, _, rfl⟩
 rw [hl] at hr
 simp only [] at hr
 have HL := Lib.hid hl
 by_cases he : e ≠ 0
 · rw [if_pos he] at hr
   have hne : (e != 0) = true := by simpa using he
   clear he hl
   injection hr with e1 e2
   injection e2 with e2 e3
   subst e1
   subst e2
   subst e3
   go_enter Tryz.func120, Tryz.ntmps120
   go_wp2_with (first | (go_at_call 118; (with_reducible refine (t_look P G t dir s _ _ HL.out _ h h0 hs).mono ?_); rintro e w' ⟨rfl, rfl⟩))
   go_ret2
   exact ⟨ret2_i _ _ rfl rfl, h, grown_of_below (Below.refl _ _)⟩
 · rw [if_neg he] at hr
   obtain rfl : e = 0 := by omega
   obtain ⟨i1, i2⟩ := look_good hge hl
   obtain ⟨hd, k, x, hp, _, _⟩ := look_ok hl
   obtain ⟨_, ht, _⟩ := dirE_zero hd
   obtain ⟨b1, b2, _⟩ := thereB_bounds ht
   have HS : Hid ((place (ndAt t dir).l s).isSome = true) := by show _ = _; rw [hp]; rfl
   clear he hl hd hp ht
   cases hk : ((ndAt t ino).kind == 2) with
   | true =>
    rw [if_pos hk] at hr
    injection hr with e1 e2
    injection e2 with e2 e3
    subst e1
    subst e2
    subst e3
    go_enter Tryz.func120, Tryz.ntmps120
    go_wp2_with (first | (go_at_call 118; (with_reducible refine (t_look P G t dir s _ _ HL.out _ h h0 hs).mono ?_); rintro e w' ⟨rfl, rfl⟩) | (go_at_call 116; (with_reducible refine (t_kind P G t ino _ h i1 i2).mono ?_); rintro e w' ⟨rfl, rfl⟩))
    go_ret2
    exact ⟨ret2_i _ _ rfl rfl, h, grown_of_below (Below.refl _ _)⟩
   | false =>
    rw [if_neg (by rw [hk]; simp)] at hr
    injection hr with e1 e2
    injection e2 with e2 e3
    subst e1
    subst e2
    subst e3
    go_enter Tryz.func120, Tryz.ntmps120
    go_wp2_with (first | (go_at_call 118; (with_reducible refine (t_look P G t dir s _ _ HL.out _ h h0 hs).mono ?_); rintro e w' ⟨rfl, rfl⟩) | (go_at_call 116; (with_reducible refine (t_kind P G t ino _ h i1 i2).mono ?_); rintro e w' ⟨rfl, rfl⟩) | (go_at_call 166; refine (t_dels P G t dir s HS.out _ h b1 b2 hsl).mono ?_; rintro e w3 ⟨rfl, ht3, hg3⟩; have HT3 := Lib.hid ht3; have HG3 := Lib.hid hg3; clear ht3 hg3) | (go_at_call 124; refine (t_free P G _ ino _ HT3.out i1 (by rw [delS_length]; exact i2)).mono ?_; rintro e w4 ⟨rfl, ht4, hg4⟩; have HT4 := Lib.hid ht4; have HG4 := Lib.hid (grown_trans HG3.out hg4); clear ht4 hg4))
    go_ret2
    exact ⟨ret2_i _ _ rfl rfl, HT4.out, HG4.out⟩
set_option maxHeartbeats 4000000 in
theorem t_rmdir (P G : Nat) (t : Tr) (dir : Int) (s : ByteArray) (w : World) (h : TreeAt w P G t) (h0 : 0 ≤ dir) (hs : s.size ≤ maxLen) (hsl : Small t) (hge : GoodE t) (r e0 : Int) (t' : Tr) (hr : rmdirR t dir s = (r, e0, t')) :
  Calls Tryz.prog 119 #[.pointer (some ⟨P, 0, none⟩), .int .u32 dir, .string s] w fun e w' => e = .returned (.tuple #[.int .u32 r, .int .i64 e0]) ∧ TreeAt w' P G t' ∧ w.grownBy w' (some G) := by
 unfold rmdirR at hr
 obtain ⟨ino, e, hl⟩ : ∃ ino e, lookR t dir s = (ino, e) := ⟨_, _, rfl⟩
 rw [hl] at hr
 simp only [] at hr
 have HL := Lib.hid hl
 by_cases he : e ≠ 0
 · rw [if_pos he] at hr
   have hne : (e != 0) = true := by simpa using he
   clear he hl
   injection hr with e1 e2
   injection e2 with e2 e3
   subst e1
   subst e2
   subst e3
   go_enter Tryz.func119, Tryz.ntmps119
   go_wp2_with (first | (go_at_call 118; (with_reducible refine (t_look P G t dir s _ _ HL.out _ h h0 hs).mono ?_); rintro e w' ⟨rfl, rfl⟩))
   go_ret2
   exact ⟨ret2_i _ _ rfl rfl, h, grown_of_below (Below.refl _ _)⟩
 · rw [if_neg he] at hr
   obtain rfl : e = 0 := by omega
   obtain ⟨i1, i2⟩ := look_good hge hl
   obtain ⟨hd, k, x, hp, _, _⟩ := look_ok hl
   obtain ⟨_, ht, _⟩ := dirE_zero hd
   obtain ⟨b1, b2, _⟩ := thereB_bounds ht
   have HS : Hid ((place (ndAt t dir).l s).isSome = true) := by show _ = _; rw [hp]; rfl
   clear he hl hd hp ht
   cases hk : ((ndAt t ino).kind != 2) with
   | true =>
    rw [if_pos hk] at hr
    injection hr with e1 e2
    injection e2 with e2 e3
    subst e1
    subst e2
    subst e3
    go_enter Tryz.func119, Tryz.ntmps119
    go_wp2_with (first | (go_at_call 118; (with_reducible refine (t_look P G t dir s _ _ HL.out _ h h0 hs).mono ?_); rintro e w' ⟨rfl, rfl⟩) | (go_at_call 116; (with_reducible refine (t_kind P G t ino _ h i1 i2).mono ?_); rintro e w' ⟨rfl, rfl⟩))
    go_ret2
    exact ⟨ret2_i _ _ rfl rfl, h, grown_of_below (Below.refl _ _)⟩
   | false =>
    rw [if_neg (by rw [hk]; simp)] at hr
    have hsm := h.small
    obtain ⟨c, hc1, hc2, hc⟩ := h.cell0
    unfold maxLen at hc2
    obtain ⟨_, ⟨v, g1, hv1⟩, _⟩ := h.get (h.idx i1 i2)
    obtain ⟨A1, c1, rfl, _, hc3, _⟩ := hv1.get
    have hll : (nd t (ino.toNat - 1)).l.length ≤ 100000 := hsl.at_ i1 i2
    have hd : (ndAt t ino).l.length = (nd t (ino.toNat - 1)).l.length := rfl
    rw [hd] at hr
    clear hd hv1
    by_cases hz : 0 < (nd t (ino.toNat - 1)).l.length
    · rw [if_pos hz] at hr
      injection hr with e1 e2
      injection e2 with e2 e3
      subst e1
      subst e2
      subst e3
      go_enter Tryz.func119, Tryz.ntmps119
      go_wp2_with (first | (go_at_call 118; (with_reducible refine (t_look P G t dir s _ _ HL.out _ h h0 hs).mono ?_); rintro e w' ⟨rfl, rfl⟩) | (go_at_call 116; (with_reducible refine (t_kind P G t ino _ h i1 i2).mono ?_); rintro e w' ⟨rfl, rfl⟩))
      go_ret2
      exact ⟨ret2_i _ _ rfl rfl, h, grown_of_below (Below.refl _ _)⟩
    · rw [if_neg hz] at hr
      injection hr with e1 e2
      injection e2 with e2 e3
      subst e1
      subst e2
      subst e3
      go_enter Tryz.func119, Tryz.ntmps119
      go_wp2_with (first | (go_at_call 118; (with_reducible refine (t_look P G t dir s _ _ HL.out _ h h0 hs).mono ?_); rintro e w' ⟨rfl, rfl⟩) | (go_at_call 116; (with_reducible refine (t_kind P G t ino _ h i1 i2).mono ?_); rintro e w' ⟨rfl, rfl⟩) | (go_at_call 166; refine (t_dels P G t dir s HS.out _ h b1 b2 hsl).mono ?_; rintro e w3 ⟨rfl, ht3, hg3⟩; have HT3 := Lib.hid ht3; have HG3 := Lib.hid hg3; clear ht3 hg3) | (go_at_call 124; refine (t_free P G _ ino _ HT3.out i1 (by rw [delS_length]; exact i2)).mono ?_; rintro e w4 ⟨rfl, ht4, hg4⟩; have HT4 := Lib.hid ht4; have HG4 := Lib.hid (grown_trans HG3.out hg4); clear ht4 hg4))
      go_ret2
      exact ⟨ret2_i _ _ rfl rfl, HT4.out, HG4.out⟩
end Go.Proofs.YtogljgiefmfafaaGreat.D
namespace Go.Proofs.YtogljgiefmfafaaGreat.D
open Go.RowKit
noncomputable def underB (t : Tr) (d top : Int) : Bool := @decide (Under t d top) (Classical.propDecidable _)
theorem underB_iff {t : Tr} {d top : Int} : underB t d top = true ↔ Under t d top := by unfold underB; exact @decide_eq_true_iff _ (Classical.propDecidable _)
def renameC (t : Tr) (dir : Int) (s : ByteArray) (to : Int) (q : ByteArray) (ino old : Int) : Int × Tr :=
 if (old == ino) = true then (0, t) else if ((ndAt t old).kind == 2) = true ∧ ((ndAt t ino).kind == 2) = false then (181, t)
 else if ((ndAt t old).kind == 2) = false ∧ ((ndAt t ino).kind == 2) = true then (180, t) else if ((ndAt t old).kind == 2) = true ∧ 0 < (ndAt t old).l.length then (182, t)
 else (0, addT (delS (freeT (delS t to q) old) dir s) to ⟨q, ino⟩)
noncomputable def renameB (t : Tr) (dir : Int) (s : ByteArray) (to : Int) (q : ByteArray) (ino : Int) : Int × Tr :=
 if ((ndAt t ino).kind == 2) = true ∧ underB t to ino = true then (183, t)
 else if (lookR t to q).2 = 0 then renameC t dir s to q ino (lookR t to q).1
 else (0, addT (delS t dir s) to ⟨q, ino⟩)
noncomputable def renameR (t : Tr) (dir : Int) (s : ByteArray) (to : Int) (q : ByteArray) : Int × Tr :=
 if nameB s = false ∨ nameB q = false then (2, t) else if thereB t dir = false ∨ thereB t to = false then (3, t)
 else if ((ndAt t dir).kind != 2) = true ∨ ((ndAt t to).kind != 2) = true then (180, t)
 else if (lookR t dir s).2 ≠ 0 then ((lookR t dir s).2, t)
 else renameB t dir s to q (lookR t dir s).1
theorem place_some_iff {l : List Ent} {s : ByteArray} : (place l s).isSome = true ↔ ∃ e ∈ l, isN e.name s = true := by
 unfold place
 rw [List.findIdx?_isSome, List.any_eq_true]
theorem mem_delAt {l : List Ent} {k j : Nat} {e : Ent} (h : l[j]? = some e) (hne : j ≠ k) : e ∈ delAt l k := by
 unfold delAt
 rw [List.mem_append]
 by_cases hj : j < k
 · exact .inl (List.mem_of_getElem? (i := j) (by rw [List.getElem?_take_of_lt hj]; exact h))
 · exact .inr (List.mem_of_getElem? (i := j - (k + 1)) (by rw [List.getElem?_drop, show k + 1 + (j - (k + 1)) = j by omega]; exact h))
theorem ndAt_free_ne {t : Tr} {a b : Int} (h1 : 1 ≤ a) (h2 : 1 ≤ b) (h : a ≠ b) : ndAt (freeT t a) b = ndAt t b := by
 unfold freeT; split
 · exact ndAt_set_ne _ h1 h2 h
 · rfl
theorem still_there {t : Tr} {dir to ino old : Int} {s q : ByteArray} (hl : lookR t dir s = (ino, 0)) (hq : lookR t to q = (old, 0)) (hne : old ≠ ino) (h1 : 1 ≤ old) (hk : (ndAt t dir).kind = 2) (he : (ndAt t old).kind = 2 → (ndAt t old).l.length = 0) :
  (place (ndAt (freeT (delS t to q) old) dir).l s).isSome = true := by
 obtain ⟨hd, k, e, hp, hek, rfl⟩ := look_ok hl
 obtain ⟨hd', k', e', hp', hek', rfl⟩ := look_ok hq
 obtain ⟨_, ht, _⟩ := dirE_zero hd
 obtain ⟨b1, b2, _⟩ := thereB_bounds ht
 obtain ⟨_, ht', _⟩ := dirE_zero hd'
 obtain ⟨c1, c2, _⟩ := thereB_bounds ht'
 have hkl := (List.getElem?_eq_some_iff.1 hek).1
 have hdo : e'.ino ≠ dir := fun hh => by
  rw [hh] at he
  have := he hk; omega
 have hn : isN e.name s = true := by
  obtain ⟨x, hx, hxn⟩ := place_get hp
  rw [hek] at hx; cases hx; exact hxn
 rw [ndAt_free_ne h1 b1 hdo, place_some_iff]
 refine ⟨e, ?_, hn⟩
 unfold delS
 rw [hp']
 simp only []
 by_cases hdt : to = dir
 · subst hdt
   rw [ndAt_set_self _ b1 b2]
   refine mem_delAt hek (fun hh => ?_)
   subst hh
   rw [hek] at hek'
   cases hek'
   exact hne rfl
 · rw [ndAt_set_ne _ c1 b1 hdt]
   exact List.mem_of_getElem? hek
set_option maxRecDepth 100000 in
set_option maxHeartbeats 8000000 in
theorem t_renameC (P G : Nat) (t : Tr) (dir : Int) (s : ByteArray) (to : Int) (q : ByteArray) (w : World) (h : TreeAt w P G t) (h0 : 0 ≤ dir) (q0 : 0 ≤ to) (hs : s.size ≤ maxLen) (hq : q.size ≤ maxLen) (hsl : Small t) (hge : GoodE t) (hacc : ∀ x, Acc (Child t) x) (hn : nameB s = true) (hnq : nameB q = true) (htd : thereB t dir = true) (htt : thereB t to = true) (hk : ((ndAt t dir).kind != 2) = false) (hk2 : ((ndAt t to).kind != 2) = false) (ino old : Int) (hl : lookR t dir s = (ino, 0)) (i1 : 1 ≤ ino) (i2 : ino ≤ t.length) (hl2 : lookR t to q = (old, 0)) (o1 : 1 ≤ old) (o2 : old ≤ t.length) (bu : Bool) (hu : bu = true ↔ Under t to ino) (hnu : ((ndAt t ino).kind == 2) = true → bu = false) (r : Int) (t' : Tr) (hr : renameC t dir s to q ino old = (r, t')) :
  Calls Tryz.prog 121 #[.pointer (some ⟨P, 0, none⟩), .int .u32 dir, .string s, .int .u32 to, .string q] w fun e w' => e = .returned (.int .i64 r) ∧ TreeAt w' P G t' ∧ w.grownBy w' (some G) := by
 obtain ⟨b1, b2, _⟩ := thereB_bounds htd
 obtain ⟨c1, c2, _⟩ := thereB_bounds htt
 have HN := Lib.hid hn
 have HQ := Lib.hid hnq
 have HTD := Lib.hid htd
 have HTT := Lib.hid htt
 clear hn hnq htd htt
 unfold renameC at hr
 have hll : (nd t (old.toNat - 1)).l.length ≤ 100000 := hsl.at_ o1 o2
 have hsm := h.small
 obtain ⟨c, hc1, hc2, hc⟩ := h.cell0
 unfold maxLen at hc2
 obtain ⟨_, ⟨v, g1, hv1⟩, _⟩ := h.get (h.idx o1 o2)
 obtain ⟨A1, cc1, rfl, _, hc3, _⟩ := hv1.get
 have hdl : (ndAt t old).l.length = (nd t (old.toNat - 1)).l.length := rfl
 rw [hdl] at hr
 have HDL := Lib.hid hdl
 have HL := Lib.hid hl
 have HL2 := Lib.hid hl2
 clear hdl hv1
 have HS2 : Hid ((place (ndAt t to).l q).isSome = true) := by obtain ⟨_, k, x, hp, _⟩ := look_ok hl2; show _ = _; rw [hp]; rfl
 clear hl hl2
 have HU := Lib.hid hu
 clear hu
 cases hio : (old == ino) with
 | true =>
  rw [if_pos hio] at hr
  cases hki : ((ndAt t ino).kind == 2) with
  | true =>
   obtain rfl := hnu hki
   injection hr with e1 e2
   subst e1
   subst e2
   go_enter Tryz.func121, Tryz.ntmps121
   go_wp2_with (first | (go_at_call 58; (with_reducible refine (t_name s _ HN.out _ hs).mono ?_); rintro e w' ⟨rfl, rfl⟩) | (go_at_call 58; (with_reducible refine (t_name q _ HQ.out _ hq).mono ?_); rintro e w' ⟨rfl, rfl⟩) | (go_at_call 113; (with_reducible refine (t_there P G t dir _ HTD.out _ h h0).mono ?_); rintro e w' ⟨rfl, rfl⟩) | (go_at_call 113; (with_reducible refine (t_there P G t to _ HTT.out _ h q0).mono ?_); rintro e w' ⟨rfl, rfl⟩) | (go_at_call 116; (with_reducible refine (t_kind P G t dir _ h b1 b2).mono ?_); rintro e w' ⟨rfl, rfl⟩) | (go_at_call 116; (with_reducible refine (t_kind P G t to _ h c1 c2).mono ?_); rintro e w' ⟨rfl, rfl⟩) | (go_at_call 118; (with_reducible refine (t_look P G t dir s _ _ HL.out _ h h0 hs).mono ?_); rintro e w' ⟨rfl, rfl⟩) | (go_at_call 116; (with_reducible refine (t_kind P G t ino _ h i1 i2).mono ?_); rintro e w' ⟨rfl, rfl⟩) | (go_at_call 167; (with_reducible refine (t_below P G t to _ h hge ino (hacc ino) _ HU.out i1 i2).mono ?_); rintro e w' ⟨rfl, rfl⟩) | (go_at_call 118; (with_reducible refine (t_look P G t to q _ _ HL2.out _ h q0 hq).mono ?_); rintro e w' ⟨rfl, rfl⟩) | (go_at_call 116; (with_reducible refine (t_kind P G t old _ h o1 o2).mono ?_); rintro e w' ⟨rfl, rfl⟩))
   go_ret
   exact ⟨ret_i64 rfl, h, grown_of_below (Below.refl _ _)⟩
  | false =>
   clear hnu
   injection hr with e1 e2
   subst e1
   subst e2
   go_enter Tryz.func121, Tryz.ntmps121
   go_wp2_with (first | (go_at_call 58; (with_reducible refine (t_name s _ HN.out _ hs).mono ?_); rintro e w' ⟨rfl, rfl⟩) | (go_at_call 58; (with_reducible refine (t_name q _ HQ.out _ hq).mono ?_); rintro e w' ⟨rfl, rfl⟩) | (go_at_call 113; (with_reducible refine (t_there P G t dir _ HTD.out _ h h0).mono ?_); rintro e w' ⟨rfl, rfl⟩) | (go_at_call 113; (with_reducible refine (t_there P G t to _ HTT.out _ h q0).mono ?_); rintro e w' ⟨rfl, rfl⟩) | (go_at_call 116; (with_reducible refine (t_kind P G t dir _ h b1 b2).mono ?_); rintro e w' ⟨rfl, rfl⟩) | (go_at_call 116; (with_reducible refine (t_kind P G t to _ h c1 c2).mono ?_); rintro e w' ⟨rfl, rfl⟩) | (go_at_call 118; (with_reducible refine (t_look P G t dir s _ _ HL.out _ h h0 hs).mono ?_); rintro e w' ⟨rfl, rfl⟩) | (go_at_call 116; (with_reducible refine (t_kind P G t ino _ h i1 i2).mono ?_); rintro e w' ⟨rfl, rfl⟩) | (go_at_call 167; (with_reducible refine (t_below P G t to _ h hge ino (hacc ino) _ HU.out i1 i2).mono ?_); rintro e w' ⟨rfl, rfl⟩) | (go_at_call 118; (with_reducible refine (t_look P G t to q _ _ HL2.out _ h q0 hq).mono ?_); rintro e w' ⟨rfl, rfl⟩) | (go_at_call 116; (with_reducible refine (t_kind P G t old _ h o1 o2).mono ?_); rintro e w' ⟨rfl, rfl⟩))
   go_ret
   exact ⟨ret_i64 rfl, h, grown_of_below (Below.refl _ _)⟩
 | false =>
  rw [if_neg (by rw [hio]; simp)] at hr
  have HIO : Hid (old ≠ ino) := by show _ ≠ _; simpa using hio
  cases hko : ((ndAt t old).kind == 2) with
  | true =>
   cases hki : ((ndAt t ino).kind == 2) with
   | false =>
    rw [if_pos ⟨hko, hki⟩] at hr
    clear hnu
    injection hr with e1 e2
    subst e1
    subst e2
    go_enter Tryz.func121, Tryz.ntmps121
    go_wp2_with (first | (go_at_call 58; (with_reducible refine (t_name s _ HN.out _ hs).mono ?_); rintro e w' ⟨rfl, rfl⟩) | (go_at_call 58; (with_reducible refine (t_name q _ HQ.out _ hq).mono ?_); rintro e w' ⟨rfl, rfl⟩) | (go_at_call 113; (with_reducible refine (t_there P G t dir _ HTD.out _ h h0).mono ?_); rintro e w' ⟨rfl, rfl⟩) | (go_at_call 113; (with_reducible refine (t_there P G t to _ HTT.out _ h q0).mono ?_); rintro e w' ⟨rfl, rfl⟩) | (go_at_call 116; (with_reducible refine (t_kind P G t dir _ h b1 b2).mono ?_); rintro e w' ⟨rfl, rfl⟩) | (go_at_call 116; (with_reducible refine (t_kind P G t to _ h c1 c2).mono ?_); rintro e w' ⟨rfl, rfl⟩) | (go_at_call 118; (with_reducible refine (t_look P G t dir s _ _ HL.out _ h h0 hs).mono ?_); rintro e w' ⟨rfl, rfl⟩) | (go_at_call 116; (with_reducible refine (t_kind P G t ino _ h i1 i2).mono ?_); rintro e w' ⟨rfl, rfl⟩) | (go_at_call 167; (with_reducible refine (t_below P G t to _ h hge ino (hacc ino) _ HU.out i1 i2).mono ?_); rintro e w' ⟨rfl, rfl⟩) | (go_at_call 118; (with_reducible refine (t_look P G t to q _ _ HL2.out _ h q0 hq).mono ?_); rintro e w' ⟨rfl, rfl⟩) | (go_at_call 116; (with_reducible refine (t_kind P G t old _ h o1 o2).mono ?_); rintro e w' ⟨rfl, rfl⟩))
    go_ret
    exact ⟨ret_i64 rfl, h, grown_of_below (Below.refl _ _)⟩
   | true =>
    rw [if_neg (fun hh => by rw [hki] at hh; cases hh.2), if_neg (fun hh => by rw [hko] at hh; cases hh.1)] at hr
    obtain rfl := hnu hki
    clear hnu
    by_cases hz : 0 < (nd t (old.toNat - 1)).l.length
    · rw [if_pos ⟨hko, hz⟩] at hr
      injection hr with e1 e2
      subst e1
      subst e2
      go_enter Tryz.func121, Tryz.ntmps121
      go_wp2_with (first | (go_at_call 58; (with_reducible refine (t_name s _ HN.out _ hs).mono ?_); rintro e w' ⟨rfl, rfl⟩) | (go_at_call 58; (with_reducible refine (t_name q _ HQ.out _ hq).mono ?_); rintro e w' ⟨rfl, rfl⟩) | (go_at_call 113; (with_reducible refine (t_there P G t dir _ HTD.out _ h h0).mono ?_); rintro e w' ⟨rfl, rfl⟩) | (go_at_call 113; (with_reducible refine (t_there P G t to _ HTT.out _ h q0).mono ?_); rintro e w' ⟨rfl, rfl⟩) | (go_at_call 116; (with_reducible refine (t_kind P G t dir _ h b1 b2).mono ?_); rintro e w' ⟨rfl, rfl⟩) | (go_at_call 116; (with_reducible refine (t_kind P G t to _ h c1 c2).mono ?_); rintro e w' ⟨rfl, rfl⟩) | (go_at_call 118; (with_reducible refine (t_look P G t dir s _ _ HL.out _ h h0 hs).mono ?_); rintro e w' ⟨rfl, rfl⟩) | (go_at_call 116; (with_reducible refine (t_kind P G t ino _ h i1 i2).mono ?_); rintro e w' ⟨rfl, rfl⟩) | (go_at_call 167; (with_reducible refine (t_below P G t to _ h hge ino (hacc ino) _ HU.out i1 i2).mono ?_); rintro e w' ⟨rfl, rfl⟩) | (go_at_call 118; (with_reducible refine (t_look P G t to q _ _ HL2.out _ h q0 hq).mono ?_); rintro e w' ⟨rfl, rfl⟩) | (go_at_call 116; (with_reducible refine (t_kind P G t old _ h o1 o2).mono ?_); rintro e w' ⟨rfl, rfl⟩))
      go_ret
      exact ⟨ret_i64 rfl, h, grown_of_below (Below.refl _ _)⟩
    · rw [if_neg (fun hh => hz hh.2)] at hr
      have HK2 : Hid ((ndAt t dir).kind = 2) := by show _ = _; simpa using hk
      have HS3 : Hid ((place (ndAt (freeT (delS t to q) old) dir).l s).isSome = true) := still_there HL.out HL2.out HIO.out o1 HK2.out (fun _ => by rw [HDL.out]; omega)
      have HSM := Lib.hid ((hsl.del c1 c2 q).free old)
      have HSM2 := Lib.hid (HSM.out.del b1 (by rw [freeT_length, delS_length]; exact b2) s)
      injection hr with e1 e2
      subst e1
      subst e2
      go_enter Tryz.func121, Tryz.ntmps121
      go_wp2_with (first | (go_at_call 58; (with_reducible refine (t_name s _ HN.out _ hs).mono ?_); rintro e w' ⟨rfl, rfl⟩) | (go_at_call 58; (with_reducible refine (t_name q _ HQ.out _ hq).mono ?_); rintro e w' ⟨rfl, rfl⟩) | (go_at_call 113; (with_reducible refine (t_there P G t dir _ HTD.out _ h h0).mono ?_); rintro e w' ⟨rfl, rfl⟩) | (go_at_call 113; (with_reducible refine (t_there P G t to _ HTT.out _ h q0).mono ?_); rintro e w' ⟨rfl, rfl⟩) | (go_at_call 116; (with_reducible refine (t_kind P G t dir _ h b1 b2).mono ?_); rintro e w' ⟨rfl, rfl⟩) | (go_at_call 116; (with_reducible refine (t_kind P G t to _ h c1 c2).mono ?_); rintro e w' ⟨rfl, rfl⟩) | (go_at_call 118; (with_reducible refine (t_look P G t dir s _ _ HL.out _ h h0 hs).mono ?_); rintro e w' ⟨rfl, rfl⟩) | (go_at_call 116; (with_reducible refine (t_kind P G t ino _ h i1 i2).mono ?_); rintro e w' ⟨rfl, rfl⟩) | (go_at_call 167; (with_reducible refine (t_below P G t to _ h hge ino (hacc ino) _ HU.out i1 i2).mono ?_); rintro e w' ⟨rfl, rfl⟩) | (go_at_call 118; (with_reducible refine (t_look P G t to q _ _ HL2.out _ h q0 hq).mono ?_); rintro e w' ⟨rfl, rfl⟩) | (go_at_call 116; (with_reducible refine (t_kind P G t old _ h o1 o2).mono ?_); rintro e w' ⟨rfl, rfl⟩) | (go_at_call 166; (with_reducible refine (t_dels P G t to q HS2.out _ h c1 c2 hsl).mono ?_); rintro e w3 ⟨rfl, ht3, hg3⟩; have HT3 := Lib.hid ht3; have HG3 := Lib.hid hg3; clear ht3 hg3) | (go_at_call 124; refine (t_free P G _ old _ HT3.out o1 (by rw [delS_length]; exact o2)).mono ?_; rintro e w4 ⟨rfl, ht4, hg4⟩; have HT4 := Lib.hid ht4; have HG4 := Lib.hid (grown_trans HG3.out hg4); clear ht4 hg4) | (go_at_call 166; refine (t_dels P G _ dir s HS3.out _ HT4.out b1 (by rw [freeT_length, delS_length]; exact b2) HSM.out).mono ?_; rintro e w5 ⟨rfl, ht5, hg5⟩; have HT5 := Lib.hid ht5; have HG5 := Lib.hid (grown_trans HG4.out hg5); clear ht5 hg5) | (go_at_call 114; refine (t_add P G _ to q ino _ HT5.out c1 (by rw [delS_length, freeT_length, delS_length]; exact c2) HSM2.out).mono ?_; rintro e w6 ⟨rfl, ht6, hg6⟩; have HT6 := Lib.hid ht6; have HG6 := Lib.hid (grown_trans HG5.out hg6); clear ht6 hg6))
      go_ret
      exact ⟨ret_i64 rfl, HT6.out, HG6.out⟩
  | false =>
   cases hki : ((ndAt t ino).kind == 2) with
   | true =>
    rw [if_neg (fun hh => by rw [hko] at hh; cases hh.1), if_pos ⟨hko, hki⟩] at hr
    obtain rfl := hnu hki
    clear hnu
    injection hr with e1 e2
    subst e1
    subst e2
    go_enter Tryz.func121, Tryz.ntmps121
    go_wp2_with (first | (go_at_call 58; (with_reducible refine (t_name s _ HN.out _ hs).mono ?_); rintro e w' ⟨rfl, rfl⟩) | (go_at_call 58; (with_reducible refine (t_name q _ HQ.out _ hq).mono ?_); rintro e w' ⟨rfl, rfl⟩) | (go_at_call 113; (with_reducible refine (t_there P G t dir _ HTD.out _ h h0).mono ?_); rintro e w' ⟨rfl, rfl⟩) | (go_at_call 113; (with_reducible refine (t_there P G t to _ HTT.out _ h q0).mono ?_); rintro e w' ⟨rfl, rfl⟩) | (go_at_call 116; (with_reducible refine (t_kind P G t dir _ h b1 b2).mono ?_); rintro e w' ⟨rfl, rfl⟩) | (go_at_call 116; (with_reducible refine (t_kind P G t to _ h c1 c2).mono ?_); rintro e w' ⟨rfl, rfl⟩) | (go_at_call 118; (with_reducible refine (t_look P G t dir s _ _ HL.out _ h h0 hs).mono ?_); rintro e w' ⟨rfl, rfl⟩) | (go_at_call 116; (with_reducible refine (t_kind P G t ino _ h i1 i2).mono ?_); rintro e w' ⟨rfl, rfl⟩) | (go_at_call 167; (with_reducible refine (t_below P G t to _ h hge ino (hacc ino) _ HU.out i1 i2).mono ?_); rintro e w' ⟨rfl, rfl⟩) | (go_at_call 118; (with_reducible refine (t_look P G t to q _ _ HL2.out _ h q0 hq).mono ?_); rintro e w' ⟨rfl, rfl⟩) | (go_at_call 116; (with_reducible refine (t_kind P G t old _ h o1 o2).mono ?_); rintro e w' ⟨rfl, rfl⟩))
    go_ret
    exact ⟨ret_i64 rfl, h, grown_of_below (Below.refl _ _)⟩
   | false =>
    rw [if_neg (fun hh => by rw [hko] at hh; cases hh.1), if_neg (fun hh => by rw [hki] at hh; cases hh.2), if_neg (fun hh => by rw [hko] at hh; cases hh.1)] at hr
    clear hnu
    have HK2 : Hid ((ndAt t dir).kind = 2) := by show _ = _; simpa using hk
    have HKO : Hid ((ndAt t old).kind ≠ 2) := by show _ ≠ _; simpa using hko
    have HS3 : Hid ((place (ndAt (freeT (delS t to q) old) dir).l s).isSome = true) := still_there HL.out HL2.out HIO.out o1 HK2.out (fun hh => absurd hh HKO.out)
    have HSM := Lib.hid ((hsl.del c1 c2 q).free old)
    have HSM2 := Lib.hid (HSM.out.del b1 (by rw [freeT_length, delS_length]; exact b2) s)
    injection hr with e1 e2
    subst e1
    subst e2
    go_enter Tryz.func121, Tryz.ntmps121
    go_wp2_with (first | (go_at_call 58; (with_reducible refine (t_name s _ HN.out _ hs).mono ?_); rintro e w' ⟨rfl, rfl⟩) | (go_at_call 58; (with_reducible refine (t_name q _ HQ.out _ hq).mono ?_); rintro e w' ⟨rfl, rfl⟩) | (go_at_call 113; (with_reducible refine (t_there P G t dir _ HTD.out _ h h0).mono ?_); rintro e w' ⟨rfl, rfl⟩) | (go_at_call 113; (with_reducible refine (t_there P G t to _ HTT.out _ h q0).mono ?_); rintro e w' ⟨rfl, rfl⟩) | (go_at_call 116; (with_reducible refine (t_kind P G t dir _ h b1 b2).mono ?_); rintro e w' ⟨rfl, rfl⟩) | (go_at_call 116; (with_reducible refine (t_kind P G t to _ h c1 c2).mono ?_); rintro e w' ⟨rfl, rfl⟩) | (go_at_call 118; (with_reducible refine (t_look P G t dir s _ _ HL.out _ h h0 hs).mono ?_); rintro e w' ⟨rfl, rfl⟩) | (go_at_call 116; (with_reducible refine (t_kind P G t ino _ h i1 i2).mono ?_); rintro e w' ⟨rfl, rfl⟩) | (go_at_call 167; (with_reducible refine (t_below P G t to _ h hge ino (hacc ino) _ HU.out i1 i2).mono ?_); rintro e w' ⟨rfl, rfl⟩) | (go_at_call 118; (with_reducible refine (t_look P G t to q _ _ HL2.out _ h q0 hq).mono ?_); rintro e w' ⟨rfl, rfl⟩) | (go_at_call 116; (with_reducible refine (t_kind P G t old _ h o1 o2).mono ?_); rintro e w' ⟨rfl, rfl⟩) | (go_at_call 166; (with_reducible refine (t_dels P G t to q HS2.out _ h c1 c2 hsl).mono ?_); rintro e w3 ⟨rfl, ht3, hg3⟩; have HT3 := Lib.hid ht3; have HG3 := Lib.hid hg3; clear ht3 hg3) | (go_at_call 124; refine (t_free P G _ old _ HT3.out o1 (by rw [delS_length]; exact o2)).mono ?_; rintro e w4 ⟨rfl, ht4, hg4⟩; have HT4 := Lib.hid ht4; have HG4 := Lib.hid (grown_trans HG3.out hg4); clear ht4 hg4) | (go_at_call 166; refine (t_dels P G _ dir s HS3.out _ HT4.out b1 (by rw [freeT_length, delS_length]; exact b2) HSM.out).mono ?_; rintro e w5 ⟨rfl, ht5, hg5⟩; have HT5 := Lib.hid ht5; have HG5 := Lib.hid (grown_trans HG4.out hg5); clear ht5 hg5) | (go_at_call 114; refine (t_add P G _ to q ino _ HT5.out c1 (by rw [delS_length, freeT_length, delS_length]; exact c2) HSM2.out).mono ?_; rintro e w6 ⟨rfl, ht6, hg6⟩; have HT6 := Lib.hid ht6; have HG6 := Lib.hid (grown_trans HG5.out hg6); clear ht6 hg6))
    go_ret
    exact ⟨ret_i64 rfl, HT6.out, HG6.out⟩
set_option maxRecDepth 100000 in
set_option maxHeartbeats 8000000 in
theorem t_renameB (P G : Nat) (t : Tr) (dir : Int) (s : ByteArray) (to : Int) (q : ByteArray) (w : World) (h : TreeAt w P G t) (h0 : 0 ≤ dir) (q0 : 0 ≤ to) (hs : s.size ≤ maxLen) (hq : q.size ≤ maxLen) (hsl : Small t) (hge : GoodE t) (hacc : ∀ x, Acc (Child t) x) (hn : nameB s = true) (hnq : nameB q = true) (htd : thereB t dir = true) (htt : thereB t to = true) (hk : ((ndAt t dir).kind != 2) = false) (hk2 : ((ndAt t to).kind != 2) = false) (ino : Int) (hl : lookR t dir s = (ino, 0)) (r : Int) (t' : Tr) (hr : renameB t dir s to q ino = (r, t')) :
  Calls Tryz.prog 121 #[.pointer (some ⟨P, 0, none⟩), .int .u32 dir, .string s, .int .u32 to, .string q] w fun e w' => e = .returned (.int .i64 r) ∧ TreeAt w' P G t' ∧ w.grownBy w' (some G) := by
 obtain ⟨i1, i2⟩ := look_good hge hl
 unfold renameB at hr
 by_cases hu : ((ndAt t ino).kind == 2) = true ∧ underB t to ino = true
 · rw [if_pos hu] at hr
   obtain ⟨hki, hub⟩ := hu
   have HU : Hid (Under t to ino) := underB_iff.1 hub
   have HL := Lib.hid hl
   clear hub hl
   obtain ⟨b1, b2, _⟩ := thereB_bounds htd
   obtain ⟨c1, c2, _⟩ := thereB_bounds htt
   have HN := Lib.hid hn
   have HQ := Lib.hid hnq
   have HTD := Lib.hid htd
   have HTT := Lib.hid htt
   clear hn hnq htd htt
   injection hr with e1 e2
   subst e1
   subst e2
   go_enter Tryz.func121, Tryz.ntmps121
   go_wp2_with (first | (go_at_call 58; (with_reducible refine (t_name s _ HN.out _ hs).mono ?_); rintro e w' ⟨rfl, rfl⟩) | (go_at_call 58; (with_reducible refine (t_name q _ HQ.out _ hq).mono ?_); rintro e w' ⟨rfl, rfl⟩) | (go_at_call 113; (with_reducible refine (t_there P G t dir _ HTD.out _ h h0).mono ?_); rintro e w' ⟨rfl, rfl⟩) | (go_at_call 113; (with_reducible refine (t_there P G t to _ HTT.out _ h q0).mono ?_); rintro e w' ⟨rfl, rfl⟩) | (go_at_call 116; (with_reducible refine (t_kind P G t dir _ h b1 b2).mono ?_); rintro e w' ⟨rfl, rfl⟩) | (go_at_call 116; (with_reducible refine (t_kind P G t to _ h c1 c2).mono ?_); rintro e w' ⟨rfl, rfl⟩) | (go_at_call 118; (with_reducible refine (t_look P G t dir s _ _ HL.out _ h h0 hs).mono ?_); rintro e w' ⟨rfl, rfl⟩) | (go_at_call 116; (with_reducible refine (t_kind P G t ino _ h i1 i2).mono ?_); rintro e w' ⟨rfl, rfl⟩) | (go_at_call 167; (with_reducible refine (t_below P G t to _ h hge ino (hacc ino) true ⟨fun _ => HU.out, fun _ => rfl⟩ i1 i2).mono ?_); rintro e w' ⟨rfl, rfl⟩))
   go_ret
   exact ⟨ret_i64 rfl, h, grown_of_below (Below.refl _ _)⟩
 · rw [if_neg hu] at hr
   have hnu : ((ndAt t ino).kind == 2) = true → underB t to ino = false := fun hh => by
    cases hb : underB t to ino with
    | false => rfl
    | true => exact absurd ⟨hh, hb⟩ hu
   obtain ⟨old, f, hl2⟩ : ∃ old f, lookR t to q = (old, f) := ⟨_, _, rfl⟩
   rw [hl2] at hr
   simp only [] at hr
   by_cases hf : f = 0
   · subst hf
     rw [if_pos rfl] at hr
     obtain ⟨o1, o2⟩ := look_good hge hl2
     exact t_renameC P G t dir s to q w h h0 q0 hs hq hsl hge hacc hn hnq htd htt hk hk2 ino old hl i1 i2 hl2 o1 o2 _ underB_iff hnu r t' hr
   · rw [if_neg hf] at hr
     have hne : (f == 0) = false := by simpa using hf
     have HS1 : Hid ((place (ndAt t dir).l s).isSome = true) := by obtain ⟨_, k, x, hp, _⟩ := look_ok hl; show _ = _; rw [hp]; rfl
     have HL := Lib.hid hl
     have HL2 := Lib.hid hl2
     have HU : Hid (underB t to ino = true ↔ Under t to ino) := underB_iff
     clear hl hl2 hf hu
     obtain ⟨b1, b2, _⟩ := thereB_bounds htd
     obtain ⟨c1, c2, _⟩ := thereB_bounds htt
     have HN := Lib.hid hn
     have HQ := Lib.hid hnq
     have HTD := Lib.hid htd
     have HTT := Lib.hid htt
     clear hn hnq htd htt
     have HSM2 := Lib.hid (hsl.del b1 b2 s)
     obtain ⟨bu, hbu⟩ : ∃ bu, underB t to ino = bu := ⟨_, rfl⟩
     rw [hbu] at hnu HU
     clear hbu
     cases hki : ((ndAt t ino).kind == 2) with
     | true =>
      obtain rfl := hnu hki
      clear hnu
      injection hr with e1 e2
      subst e1
      subst e2
      go_enter Tryz.func121, Tryz.ntmps121
      go_wp2_with (first | (go_at_call 58; (with_reducible refine (t_name s _ HN.out _ hs).mono ?_); rintro e w' ⟨rfl, rfl⟩) | (go_at_call 58; (with_reducible refine (t_name q _ HQ.out _ hq).mono ?_); rintro e w' ⟨rfl, rfl⟩) | (go_at_call 113; (with_reducible refine (t_there P G t dir _ HTD.out _ h h0).mono ?_); rintro e w' ⟨rfl, rfl⟩) | (go_at_call 113; (with_reducible refine (t_there P G t to _ HTT.out _ h q0).mono ?_); rintro e w' ⟨rfl, rfl⟩) | (go_at_call 116; (with_reducible refine (t_kind P G t dir _ h b1 b2).mono ?_); rintro e w' ⟨rfl, rfl⟩) | (go_at_call 116; (with_reducible refine (t_kind P G t to _ h c1 c2).mono ?_); rintro e w' ⟨rfl, rfl⟩) | (go_at_call 118; (with_reducible refine (t_look P G t dir s _ _ HL.out _ h h0 hs).mono ?_); rintro e w' ⟨rfl, rfl⟩) | (go_at_call 116; (with_reducible refine (t_kind P G t ino _ h i1 i2).mono ?_); rintro e w' ⟨rfl, rfl⟩) | (go_at_call 167; (with_reducible refine (t_below P G t to _ h hge ino (hacc ino) _ HU.out i1 i2).mono ?_); rintro e w' ⟨rfl, rfl⟩) | (go_at_call 118; (with_reducible refine (t_look P G t to q _ _ HL2.out _ h q0 hq).mono ?_); rintro e w' ⟨rfl, rfl⟩) | (go_at_call 166; (with_reducible refine (t_dels P G t dir s HS1.out _ h b1 b2 hsl).mono ?_); rintro e w5 ⟨rfl, ht5, hg5⟩; have HT5 := Lib.hid ht5; have HG5 := Lib.hid hg5; clear ht5 hg5) | (go_at_call 114; refine (t_add P G _ to q ino _ HT5.out c1 (by rw [delS_length]; exact c2) HSM2.out).mono ?_; rintro e w6 ⟨rfl, ht6, hg6⟩; have HT6 := Lib.hid ht6; have HG6 := Lib.hid (grown_trans HG5.out hg6); clear ht6 hg6))
      go_ret
      exact ⟨ret_i64 rfl, HT6.out, HG6.out⟩
     | false =>
      clear hnu
      injection hr with e1 e2
      subst e1
      subst e2
      go_enter Tryz.func121, Tryz.ntmps121
      go_wp2_with (first | (go_at_call 58; (with_reducible refine (t_name s _ HN.out _ hs).mono ?_); rintro e w' ⟨rfl, rfl⟩) | (go_at_call 58; (with_reducible refine (t_name q _ HQ.out _ hq).mono ?_); rintro e w' ⟨rfl, rfl⟩) | (go_at_call 113; (with_reducible refine (t_there P G t dir _ HTD.out _ h h0).mono ?_); rintro e w' ⟨rfl, rfl⟩) | (go_at_call 113; (with_reducible refine (t_there P G t to _ HTT.out _ h q0).mono ?_); rintro e w' ⟨rfl, rfl⟩) | (go_at_call 116; (with_reducible refine (t_kind P G t dir _ h b1 b2).mono ?_); rintro e w' ⟨rfl, rfl⟩) | (go_at_call 116; (with_reducible refine (t_kind P G t to _ h c1 c2).mono ?_); rintro e w' ⟨rfl, rfl⟩) | (go_at_call 118; (with_reducible refine (t_look P G t dir s _ _ HL.out _ h h0 hs).mono ?_); rintro e w' ⟨rfl, rfl⟩) | (go_at_call 116; (with_reducible refine (t_kind P G t ino _ h i1 i2).mono ?_); rintro e w' ⟨rfl, rfl⟩) | (go_at_call 167; (with_reducible refine (t_below P G t to _ h hge ino (hacc ino) _ HU.out i1 i2).mono ?_); rintro e w' ⟨rfl, rfl⟩) | (go_at_call 118; (with_reducible refine (t_look P G t to q _ _ HL2.out _ h q0 hq).mono ?_); rintro e w' ⟨rfl, rfl⟩) | (go_at_call 166; (with_reducible refine (t_dels P G t dir s HS1.out _ h b1 b2 hsl).mono ?_); rintro e w5 ⟨rfl, ht5, hg5⟩; have HT5 := Lib.hid ht5; have HG5 := Lib.hid hg5; clear ht5 hg5) | (go_at_call 114; refine (t_add P G _ to q ino _ HT5.out c1 (by rw [delS_length]; exact c2) HSM2.out).mono ?_; rintro e w6 ⟨rfl, ht6, hg6⟩; have HT6 := Lib.hid ht6; have HG6 := Lib.hid (grown_trans HG5.out hg6); clear ht6 hg6))
      go_ret
      exact ⟨ret_i64 rfl, HT6.out, HG6.out⟩
set_option maxRecDepth 100000 in
set_option maxHeartbeats 8000000 in
theorem t_rename (P G : Nat) (t : Tr) (dir : Int) (s : ByteArray) (to : Int) (q : ByteArray) (w : World) (h : TreeAt w P G t) (h0 : 0 ≤ dir) (q0 : 0 ≤ to) (hs : s.size ≤ maxLen) (hq : q.size ≤ maxLen) (hsl : Small t) (hge : GoodE t) (hacc : ∀ x, Acc (Child t) x) (r : Int) (t' : Tr) (hr : renameR t dir s to q = (r, t')) :
  Calls Tryz.prog 121 #[.pointer (some ⟨P, 0, none⟩), .int .u32 dir, .string s, .int .u32 to, .string q] w fun e w' => e = .returned (.int .i64 r) ∧ TreeAt w' P G t' ∧ w.grownBy w' (some G) := by
 unfold renameR at hr
 cases hn : nameB s with
 | false =>
  rw [if_pos (.inl hn)] at hr
  have HN := Lib.hid hn
  clear hn
  injection hr with e1 e2
  subst e1
  subst e2
  go_enter Tryz.func121, Tryz.ntmps121
  go_wp2_with (first | (go_at_call 58; (with_reducible refine (t_name s _ HN.out _ hs).mono ?_); rintro e w' ⟨rfl, rfl⟩))
  go_ret
  exact ⟨ret_i64 rfl, h, grown_of_below (Below.refl _ _)⟩
 | true =>
  cases hnq : nameB q with
  | false =>
   rw [if_pos (.inr hnq)] at hr
   have HN := Lib.hid hn
   have HQ := Lib.hid hnq
   clear hn hnq
   injection hr with e1 e2
   subst e1
   subst e2
   go_enter Tryz.func121, Tryz.ntmps121
   go_wp2_with (first | (go_at_call 58; (with_reducible refine (t_name s _ HN.out _ hs).mono ?_); rintro e w' ⟨rfl, rfl⟩) | (go_at_call 58; (with_reducible refine (t_name q _ HQ.out _ hq).mono ?_); rintro e w' ⟨rfl, rfl⟩))
   go_ret
   exact ⟨ret_i64 rfl, h, grown_of_below (Below.refl _ _)⟩
  | true =>
   rw [if_neg (fun hh => by rcases hh with hh | hh; (rw [hn] at hh; cases hh); (rw [hnq] at hh; cases hh))] at hr
   cases htd : thereB t dir with
   | false =>
    rw [if_pos (.inl htd)] at hr
    have HN := Lib.hid hn
    have HQ := Lib.hid hnq
    have HTD := Lib.hid htd
    clear hn hnq htd
    injection hr with e1 e2
    subst e1
    subst e2
    go_enter Tryz.func121, Tryz.ntmps121
    go_wp2_with (first | (go_at_call 58; (with_reducible refine (t_name s _ HN.out _ hs).mono ?_); rintro e w' ⟨rfl, rfl⟩) | (go_at_call 58; (with_reducible refine (t_name q _ HQ.out _ hq).mono ?_); rintro e w' ⟨rfl, rfl⟩) | (go_at_call 113; (with_reducible refine (t_there P G t dir _ HTD.out _ h h0).mono ?_); rintro e w' ⟨rfl, rfl⟩))
    go_ret
    exact ⟨ret_i64 rfl, h, grown_of_below (Below.refl _ _)⟩
   | true =>
    cases htt : thereB t to with
    | false =>
     rw [if_pos (.inr htt)] at hr
     have HN := Lib.hid hn
     have HQ := Lib.hid hnq
     have HTD := Lib.hid htd
     have HTT := Lib.hid htt
     clear hn hnq htd htt
     injection hr with e1 e2
     subst e1
     subst e2
     go_enter Tryz.func121, Tryz.ntmps121
     go_wp2_with (first | (go_at_call 58; (with_reducible refine (t_name s _ HN.out _ hs).mono ?_); rintro e w' ⟨rfl, rfl⟩) | (go_at_call 58; (with_reducible refine (t_name q _ HQ.out _ hq).mono ?_); rintro e w' ⟨rfl, rfl⟩) | (go_at_call 113; (with_reducible refine (t_there P G t dir _ HTD.out _ h h0).mono ?_); rintro e w' ⟨rfl, rfl⟩) | (go_at_call 113; (with_reducible refine (t_there P G t to _ HTT.out _ h q0).mono ?_); rintro e w' ⟨rfl, rfl⟩))
     go_ret
     exact ⟨ret_i64 rfl, h, grown_of_below (Below.refl _ _)⟩
    | true =>
     rw [if_neg (fun hh => by rcases hh with hh | hh; (rw [htd] at hh; cases hh); (rw [htt] at hh; cases hh))] at hr
     cases hk : ((ndAt t dir).kind != 2) with
     | true =>
      rw [if_pos (.inl hk)] at hr
      obtain ⟨b1, b2, _⟩ := thereB_bounds htd
      obtain ⟨c1, c2, _⟩ := thereB_bounds htt
      have HN := Lib.hid hn
      have HQ := Lib.hid hnq
      have HTD := Lib.hid htd
      have HTT := Lib.hid htt
      clear hn hnq htd htt
      injection hr with e1 e2
      subst e1
      subst e2
      go_enter Tryz.func121, Tryz.ntmps121
      go_wp2_with (first | (go_at_call 58; (with_reducible refine (t_name s _ HN.out _ hs).mono ?_); rintro e w' ⟨rfl, rfl⟩) | (go_at_call 58; (with_reducible refine (t_name q _ HQ.out _ hq).mono ?_); rintro e w' ⟨rfl, rfl⟩) | (go_at_call 113; (with_reducible refine (t_there P G t dir _ HTD.out _ h h0).mono ?_); rintro e w' ⟨rfl, rfl⟩) | (go_at_call 113; (with_reducible refine (t_there P G t to _ HTT.out _ h q0).mono ?_); rintro e w' ⟨rfl, rfl⟩) | (go_at_call 116; (with_reducible refine (t_kind P G t dir _ h b1 b2).mono ?_); rintro e w' ⟨rfl, rfl⟩))
      go_ret
      exact ⟨ret_i64 rfl, h, grown_of_below (Below.refl _ _)⟩
     | false =>
      cases hk2 : ((ndAt t to).kind != 2) with
      | true =>
       rw [if_pos (.inr hk2)] at hr
       obtain ⟨b1, b2, _⟩ := thereB_bounds htd
       obtain ⟨c1, c2, _⟩ := thereB_bounds htt
       have HN := Lib.hid hn
       have HQ := Lib.hid hnq
       have HTD := Lib.hid htd
       have HTT := Lib.hid htt
       clear hn hnq htd htt
       injection hr with e1 e2
       subst e1
       subst e2
       go_enter Tryz.func121, Tryz.ntmps121
       go_wp2_with (first | (go_at_call 58; (with_reducible refine (t_name s _ HN.out _ hs).mono ?_); rintro e w' ⟨rfl, rfl⟩) | (go_at_call 58; (with_reducible refine (t_name q _ HQ.out _ hq).mono ?_); rintro e w' ⟨rfl, rfl⟩) | (go_at_call 113; (with_reducible refine (t_there P G t dir _ HTD.out _ h h0).mono ?_); rintro e w' ⟨rfl, rfl⟩) | (go_at_call 113; (with_reducible refine (t_there P G t to _ HTT.out _ h q0).mono ?_); rintro e w' ⟨rfl, rfl⟩) | (go_at_call 116; (with_reducible refine (t_kind P G t dir _ h b1 b2).mono ?_); rintro e w' ⟨rfl, rfl⟩) | (go_at_call 116; (with_reducible refine (t_kind P G t to _ h c1 c2).mono ?_); rintro e w' ⟨rfl, rfl⟩))
       go_ret
       exact ⟨ret_i64 rfl, h, grown_of_below (Below.refl _ _)⟩
      | false =>
       rw [if_neg (fun hh => by rcases hh with hh | hh; (rw [hk] at hh; cases hh); (rw [hk2] at hh; cases hh))] at hr
       obtain ⟨ino, e, hl⟩ : ∃ ino e, lookR t dir s = (ino, e) := ⟨_, _, rfl⟩
       rw [hl] at hr
       simp only [] at hr
       by_cases he : e ≠ 0
       · rw [if_pos he] at hr
         have hne : (e != 0) = true := by simpa using he
         have HL := Lib.hid hl
         clear he hl
         obtain ⟨b1, b2, _⟩ := thereB_bounds htd
         obtain ⟨c1, c2, _⟩ := thereB_bounds htt
         have HN := Lib.hid hn
         have HQ := Lib.hid hnq
         have HTD := Lib.hid htd
         have HTT := Lib.hid htt
         clear hn hnq htd htt
         injection hr with e1 e2
         subst e1
         subst e2
         go_enter Tryz.func121, Tryz.ntmps121
         go_wp2_with (first | (go_at_call 58; (with_reducible refine (t_name s _ HN.out _ hs).mono ?_); rintro e w' ⟨rfl, rfl⟩) | (go_at_call 58; (with_reducible refine (t_name q _ HQ.out _ hq).mono ?_); rintro e w' ⟨rfl, rfl⟩) | (go_at_call 113; (with_reducible refine (t_there P G t dir _ HTD.out _ h h0).mono ?_); rintro e w' ⟨rfl, rfl⟩) | (go_at_call 113; (with_reducible refine (t_there P G t to _ HTT.out _ h q0).mono ?_); rintro e w' ⟨rfl, rfl⟩) | (go_at_call 116; (with_reducible refine (t_kind P G t dir _ h b1 b2).mono ?_); rintro e w' ⟨rfl, rfl⟩) | (go_at_call 116; (with_reducible refine (t_kind P G t to _ h c1 c2).mono ?_); rintro e w' ⟨rfl, rfl⟩) | (go_at_call 118; (with_reducible refine (t_look P G t dir s _ _ HL.out _ h h0 hs).mono ?_); rintro e w' ⟨rfl, rfl⟩))
         go_ret
         exact ⟨ret_i64 rfl, h, grown_of_below (Below.refl _ _)⟩
       · rw [if_neg he] at hr
         obtain rfl : e = 0 := by omega
         exact t_renameB P G t dir s to q w h h0 q0 hs hq hsl hge hacc hn hnq htd htt hk hk2 ino hl r t' hr
end Go.Proofs.YtogljgiefmfafaaGreat.D
