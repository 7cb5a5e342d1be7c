/- Trees as the document has them: what is renamed. -/
import Derived.Test.YtnnidgjfjgkdpaaM2
namespace Go.Proofs.Ytnnidgjfjgkdpaa
open Go.RowKit

noncomputable def underB (t : Tr) (d top : Int) : Bool := @decide (Under t d top) (Classical.propDecidable _)
theorem underB_iff {t : Tr} {d top : Int} : underB t d top = true ↔ Under t d top := by unfold underB; exact @decide_eq_true_iff _ (Classical.propDecidable _)

/-- Rename's answer, and the tree behind it: in three steps. -/
def renameC (t : Tr) (dir : Int) (s : ByteArray) (to : Int) (q : ByteArray) (ino old : Int) : Int × Tr :=
  if (old == ino) = true then (0, t) else if ((ndAt t old).kind == 2) = true ∧ ((ndAt t ino).kind == 2) = false then (181, t)
  else if ((ndAt t old).kind == 2) = false ∧ ((ndAt t ino).kind == 2) = true then (180, t) else if ((ndAt t old).kind == 2) = true ∧ 0 < (ndAt t old).l.length then (182, t)
  else (0, addT (delS (freeT (delS t to q) old) dir s) to ⟨q, ino⟩)
noncomputable def renameB (t : Tr) (dir : Int) (s : ByteArray) (to : Int) (q : ByteArray) (ino : Int) : Int × Tr :=
  if ((ndAt t ino).kind == 2) = true ∧ underB t to ino = true then (183, t)
  else if (lookR t to q).2 = 0 then renameC t dir s to q ino (lookR t to q).1
  else (0, addT (delS t dir s) to ⟨q, ino⟩)
noncomputable def renameR (t : Tr) (dir : Int) (s : ByteArray) (to : Int) (q : ByteArray) : Int × Tr :=
  if nameB s = false ∨ nameB q = false then (2, t) else if thereB t dir = false ∨ thereB t to = false then (3, t)
  else if ((ndAt t dir).kind != 2) = true ∨ ((ndAt t to).kind != 2) = true then (180, t)
  else if (lookR t dir s).2 ≠ 0 then ((lookR t dir s).2, t)
  else renameB t dir s to q (lookR t dir s).1

theorem place_some_iff {l : List Ent} {s : ByteArray} : (place l s).isSome = true ↔ ∃ e ∈ l, isN e.name s = true := by
  unfold place
  rw [List.findIdx?_isSome, List.any_eq_true]
theorem mem_delAt {l : List Ent} {k j : Nat} {e : Ent} (h : l[j]? = some e) (hne : j ≠ k) : e ∈ delAt l k := by
  unfold delAt
  rw [List.mem_append]
  by_cases hj : j < k
  · exact .inl (List.mem_of_getElem? (i := j) (by rw [List.getElem?_take_of_lt hj]; exact h))
  · exact .inr (List.mem_of_getElem? (i := j - (k + 1)) (by rw [List.getElem?_drop, show k + 1 + (j - (k + 1)) = j by omega]; exact h))
theorem ndAt_free_ne {t : Tr} {a b : Int} (h1 : 1 ≤ a) (h2 : 1 ≤ b) (h : a ≠ b) : ndAt (freeT t a) b = ndAt t b := by
  unfold freeT; split
  · exact ndAt_set_ne _ h1 h2 h
  · rfl
/-- What is renamed is still there where another entry went. -/
theorem still_there {t : Tr} {dir to ino old : Int} {s q : ByteArray} (hl : lookR t dir s = (ino, 0)) (hq : lookR t to q = (old, 0)) (hne : old ≠ ino) (h1 : 1 ≤ old) (hk : (ndAt t dir).kind = 2) (he : (ndAt t old).kind = 2 → (ndAt t old).l.length = 0) :
    (place (ndAt (freeT (delS t to q) old) dir).l s).isSome = true := by
  obtain ⟨hd, k, e, hp, hek, rfl⟩ := look_ok hl
  obtain ⟨hd', k', e', hp', hek', rfl⟩ := look_ok hq
  obtain ⟨_, ht, _⟩ := dirE_zero hd
  obtain ⟨b1, b2, _⟩ := thereB_bounds ht
  obtain ⟨_, ht', _⟩ := dirE_zero hd'
  obtain ⟨c1, c2, _⟩ := thereB_bounds ht'
  have hkl := (List.getElem?_eq_some_iff.1 hek).1
  have hdo : e'.ino ≠ dir := fun hh => by
    rw [hh] at he
    have := he hk; omega
  have hn : isN e.name s = true := by
    obtain ⟨x, hx, hxn⟩ := place_get hp
    rw [hek] at hx; cases hx; exact hxn
  rw [ndAt_free_ne h1 b1 hdo, place_some_iff]
  refine ⟨e, ?_, hn⟩
  unfold delS
  rw [hp']
  simp only []
  by_cases hdt : to = dir
  · subst hdt
    rw [ndAt_set_self _ b1 b2]
    refine mem_delAt hek (fun hh => ?_)
    subst hh
    rw [hek] at hek'
    cases hek'
    exact hne rfl
  · rw [ndAt_set_ne _ c1 b1 hdt]
    exact List.mem_of_getElem? hek

set_option maxRecDepth 100000 in
set_option maxHeartbeats 8000000 in
theorem t_renameC (P G : Nat) (t : Tr) (dir : Int) (s : ByteArray) (to : Int) (q : ByteArray) (w : World) (h : TreeAt w P G t) (h0 : 0 ≤ dir) (q0 : 0 ≤ to) (hs : s.size ≤ maxLen) (hq : q.size ≤ maxLen) (hsl : Small t) (hge : GoodE t) (hacc : ∀ x, Acc (Child t) x) (hn : nameB s = true) (hnq : nameB q = true) (htd : thereB t dir = true) (htt : thereB t to = true) (hk : ((ndAt t dir).kind != 2) = false) (hk2 : ((ndAt t to).kind != 2) = false) (ino old : Int) (hl : lookR t dir s = (ino, 0)) (i1 : 1 ≤ ino) (i2 : ino ≤ t.length) (hl2 : lookR t to q = (old, 0)) (o1 : 1 ≤ old) (o2 : old ≤ t.length) (bu : Bool) (hu : bu = true ↔ Under t to ino) (hnu : ((ndAt t ino).kind == 2) = true → bu = false) (r : Int) (t' : Tr) (hr : renameC t dir s to q ino old = (r, t')) :
    Calls Try.prog 48 #[.pointer (some ⟨P, 0, none⟩), .int .u32 dir, .string s, .int .u32 to, .string q] w fun e w' => e = .returned (.int .i64 r) ∧ TreeAt w' P G t' ∧ w.grownBy w' (some G) := by
  obtain ⟨b1, b2, _⟩ := thereB_bounds htd
  obtain ⟨c1, c2, _⟩ := thereB_bounds htt
  have HN := Lib.hid hn
  have HQ := Lib.hid hnq
  have HTD := Lib.hid htd
  have HTT := Lib.hid htt
  clear hn hnq htd htt
  unfold renameC at hr
  have hll : (nd t (old.toNat - 1)).l.length ≤ 100000 := hsl.at_ o1 o2
  have hsm := h.small
  obtain ⟨c, hc1, hc2, hc⟩ := h.cell0
  unfold maxLen at hc2
  obtain ⟨_, ⟨v, g1, hv1⟩, _⟩ := h.get (h.idx o1 o2)
  obtain ⟨A1, cc1, rfl, _, hc3, _⟩ := hv1.get
  have hdl : (ndAt t old).l.length = (nd t (old.toNat - 1)).l.length := rfl
  rw [hdl] at hr
  have HDL := Lib.hid hdl
  have HL := Lib.hid hl
  have HL2 := Lib.hid hl2
  clear hdl hv1
  have HS2 : Hid ((place (ndAt t to).l q).isSome = true) := by obtain ⟨_, k, x, hp, _⟩ := look_ok hl2; show _ = _; rw [hp]; rfl
  clear hl hl2
  have HU := Lib.hid hu
  clear hu
  cases hio : (old == ino) with
  | true =>
    rw [if_pos hio] at hr
    cases hki : ((ndAt t ino).kind == 2) with
    | true =>
      obtain rfl := hnu hki
      injection hr with e1 e2
      subst e1
      subst e2
      go_enter Try.func48, Try.ntmps48
      go_wp2_with (first | (go_at_call 24; (with_reducible refine (t_name s _ HN.out _ hs).mono ?_); rintro e w' ⟨rfl, rfl⟩) | (go_at_call 24; (with_reducible refine (t_name q _ HQ.out _ hq).mono ?_); rintro e w' ⟨rfl, rfl⟩) | (go_at_call 40; (with_reducible refine (t_there P G t dir _ HTD.out _ h h0).mono ?_); rintro e w' ⟨rfl, rfl⟩) | (go_at_call 40; (with_reducible refine (t_there P G t to _ HTT.out _ h q0).mono ?_); rintro e w' ⟨rfl, rfl⟩) | (go_at_call 43; (with_reducible refine (t_kind P G t dir _ h b1 b2).mono ?_); rintro e w' ⟨rfl, rfl⟩) | (go_at_call 43; (with_reducible refine (t_kind P G t to _ h c1 c2).mono ?_); rintro e w' ⟨rfl, rfl⟩) | (go_at_call 45; (with_reducible refine (t_look P G t dir s _ _ HL.out _ h h0 hs).mono ?_); rintro e w' ⟨rfl, rfl⟩) | (go_at_call 43; (with_reducible refine (t_kind P G t ino _ h i1 i2).mono ?_); rintro e w' ⟨rfl, rfl⟩) | (go_at_call 54; (with_reducible refine (t_below P G t to _ h hge ino (hacc ino) _ HU.out i1 i2).mono ?_); rintro e w' ⟨rfl, rfl⟩) | (go_at_call 45; (with_reducible refine (t_look P G t to q _ _ HL2.out _ h q0 hq).mono ?_); rintro e w' ⟨rfl, rfl⟩) | (go_at_call 43; (with_reducible refine (t_kind P G t old _ h o1 o2).mono ?_); rintro e w' ⟨rfl, rfl⟩))
      go_ret
      exact ⟨ret_i64 rfl, h, grown_of_below (Below.refl _ _)⟩
    | false =>
      clear hnu
      injection hr with e1 e2
      subst e1
      subst e2
      go_enter Try.func48, Try.ntmps48
      go_wp2_with (first | (go_at_call 24; (with_reducible refine (t_name s _ HN.out _ hs).mono ?_); rintro e w' ⟨rfl, rfl⟩) | (go_at_call 24; (with_reducible refine (t_name q _ HQ.out _ hq).mono ?_); rintro e w' ⟨rfl, rfl⟩) | (go_at_call 40; (with_reducible refine (t_there P G t dir _ HTD.out _ h h0).mono ?_); rintro e w' ⟨rfl, rfl⟩) | (go_at_call 40; (with_reducible refine (t_there P G t to _ HTT.out _ h q0).mono ?_); rintro e w' ⟨rfl, rfl⟩) | (go_at_call 43; (with_reducible refine (t_kind P G t dir _ h b1 b2).mono ?_); rintro e w' ⟨rfl, rfl⟩) | (go_at_call 43; (with_reducible refine (t_kind P G t to _ h c1 c2).mono ?_); rintro e w' ⟨rfl, rfl⟩) | (go_at_call 45; (with_reducible refine (t_look P G t dir s _ _ HL.out _ h h0 hs).mono ?_); rintro e w' ⟨rfl, rfl⟩) | (go_at_call 43; (with_reducible refine (t_kind P G t ino _ h i1 i2).mono ?_); rintro e w' ⟨rfl, rfl⟩) | (go_at_call 54; (with_reducible refine (t_below P G t to _ h hge ino (hacc ino) _ HU.out i1 i2).mono ?_); rintro e w' ⟨rfl, rfl⟩) | (go_at_call 45; (with_reducible refine (t_look P G t to q _ _ HL2.out _ h q0 hq).mono ?_); rintro e w' ⟨rfl, rfl⟩) | (go_at_call 43; (with_reducible refine (t_kind P G t old _ h o1 o2).mono ?_); rintro e w' ⟨rfl, rfl⟩))
      go_ret
      exact ⟨ret_i64 rfl, h, grown_of_below (Below.refl _ _)⟩
  | false =>
    rw [if_neg (by rw [hio]; simp)] at hr
    have HIO : Hid (old ≠ ino) := by show _ ≠ _; simpa using hio
    cases hko : ((ndAt t old).kind == 2) with
    | true =>
      cases hki : ((ndAt t ino).kind == 2) with
      | false =>
        rw [if_pos ⟨hko, hki⟩] at hr
        clear hnu
        injection hr with e1 e2
        subst e1
        subst e2
        go_enter Try.func48, Try.ntmps48
        go_wp2_with (first | (go_at_call 24; (with_reducible refine (t_name s _ HN.out _ hs).mono ?_); rintro e w' ⟨rfl, rfl⟩) | (go_at_call 24; (with_reducible refine (t_name q _ HQ.out _ hq).mono ?_); rintro e w' ⟨rfl, rfl⟩) | (go_at_call 40; (with_reducible refine (t_there P G t dir _ HTD.out _ h h0).mono ?_); rintro e w' ⟨rfl, rfl⟩) | (go_at_call 40; (with_reducible refine (t_there P G t to _ HTT.out _ h q0).mono ?_); rintro e w' ⟨rfl, rfl⟩) | (go_at_call 43; (with_reducible refine (t_kind P G t dir _ h b1 b2).mono ?_); rintro e w' ⟨rfl, rfl⟩) | (go_at_call 43; (with_reducible refine (t_kind P G t to _ h c1 c2).mono ?_); rintro e w' ⟨rfl, rfl⟩) | (go_at_call 45; (with_reducible refine (t_look P G t dir s _ _ HL.out _ h h0 hs).mono ?_); rintro e w' ⟨rfl, rfl⟩) | (go_at_call 43; (with_reducible refine (t_kind P G t ino _ h i1 i2).mono ?_); rintro e w' ⟨rfl, rfl⟩) | (go_at_call 54; (with_reducible refine (t_below P G t to _ h hge ino (hacc ino) _ HU.out i1 i2).mono ?_); rintro e w' ⟨rfl, rfl⟩) | (go_at_call 45; (with_reducible refine (t_look P G t to q _ _ HL2.out _ h q0 hq).mono ?_); rintro e w' ⟨rfl, rfl⟩) | (go_at_call 43; (with_reducible refine (t_kind P G t old _ h o1 o2).mono ?_); rintro e w' ⟨rfl, rfl⟩))
        go_ret
        exact ⟨ret_i64 rfl, h, grown_of_below (Below.refl _ _)⟩
      | true =>
        rw [if_neg (fun hh => by rw [hki] at hh; cases hh.2), if_neg (fun hh => by rw [hko] at hh; cases hh.1)] at hr
        obtain rfl := hnu hki
        clear hnu
        by_cases hz : 0 < (nd t (old.toNat - 1)).l.length
        · rw [if_pos ⟨hko, hz⟩] at hr
          injection hr with e1 e2
          subst e1
          subst e2
          go_enter Try.func48, Try.ntmps48
          go_wp2_with (first | (go_at_call 24; (with_reducible refine (t_name s _ HN.out _ hs).mono ?_); rintro e w' ⟨rfl, rfl⟩) | (go_at_call 24; (with_reducible refine (t_name q _ HQ.out _ hq).mono ?_); rintro e w' ⟨rfl, rfl⟩) | (go_at_call 40; (with_reducible refine (t_there P G t dir _ HTD.out _ h h0).mono ?_); rintro e w' ⟨rfl, rfl⟩) | (go_at_call 40; (with_reducible refine (t_there P G t to _ HTT.out _ h q0).mono ?_); rintro e w' ⟨rfl, rfl⟩) | (go_at_call 43; (with_reducible refine (t_kind P G t dir _ h b1 b2).mono ?_); rintro e w' ⟨rfl, rfl⟩) | (go_at_call 43; (with_reducible refine (t_kind P G t to _ h c1 c2).mono ?_); rintro e w' ⟨rfl, rfl⟩) | (go_at_call 45; (with_reducible refine (t_look P G t dir s _ _ HL.out _ h h0 hs).mono ?_); rintro e w' ⟨rfl, rfl⟩) | (go_at_call 43; (with_reducible refine (t_kind P G t ino _ h i1 i2).mono ?_); rintro e w' ⟨rfl, rfl⟩) | (go_at_call 54; (with_reducible refine (t_below P G t to _ h hge ino (hacc ino) _ HU.out i1 i2).mono ?_); rintro e w' ⟨rfl, rfl⟩) | (go_at_call 45; (with_reducible refine (t_look P G t to q _ _ HL2.out _ h q0 hq).mono ?_); rintro e w' ⟨rfl, rfl⟩) | (go_at_call 43; (with_reducible refine (t_kind P G t old _ h o1 o2).mono ?_); rintro e w' ⟨rfl, rfl⟩))
          go_ret
          exact ⟨ret_i64 rfl, h, grown_of_below (Below.refl _ _)⟩
        · rw [if_neg (fun hh => hz hh.2)] at hr
          have HK2 : Hid ((ndAt t dir).kind = 2) := by show _ = _; simpa using hk
          have HS3 : Hid ((place (ndAt (freeT (delS t to q) old) dir).l s).isSome = true) := still_there HL.out HL2.out HIO.out o1 HK2.out (fun _ => by rw [HDL.out]; omega)
          have HSM := Lib.hid ((hsl.del c1 c2 q).free old)
          have HSM2 := Lib.hid (HSM.out.del b1 (by rw [freeT_length, delS_length]; exact b2) s)
          injection hr with e1 e2
          subst e1
          subst e2
          go_enter Try.func48, Try.ntmps48
          go_wp2_with (first | (go_at_call 24; (with_reducible refine (t_name s _ HN.out _ hs).mono ?_); rintro e w' ⟨rfl, rfl⟩) | (go_at_call 24; (with_reducible refine (t_name q _ HQ.out _ hq).mono ?_); rintro e w' ⟨rfl, rfl⟩) | (go_at_call 40; (with_reducible refine (t_there P G t dir _ HTD.out _ h h0).mono ?_); rintro e w' ⟨rfl, rfl⟩) | (go_at_call 40; (with_reducible refine (t_there P G t to _ HTT.out _ h q0).mono ?_); rintro e w' ⟨rfl, rfl⟩) | (go_at_call 43; (with_reducible refine (t_kind P G t dir _ h b1 b2).mono ?_); rintro e w' ⟨rfl, rfl⟩) | (go_at_call 43; (with_reducible refine (t_kind P G t to _ h c1 c2).mono ?_); rintro e w' ⟨rfl, rfl⟩) | (go_at_call 45; (with_reducible refine (t_look P G t dir s _ _ HL.out _ h h0 hs).mono ?_); rintro e w' ⟨rfl, rfl⟩) | (go_at_call 43; (with_reducible refine (t_kind P G t ino _ h i1 i2).mono ?_); rintro e w' ⟨rfl, rfl⟩) | (go_at_call 54; (with_reducible refine (t_below P G t to _ h hge ino (hacc ino) _ HU.out i1 i2).mono ?_); rintro e w' ⟨rfl, rfl⟩) | (go_at_call 45; (with_reducible refine (t_look P G t to q _ _ HL2.out _ h q0 hq).mono ?_); rintro e w' ⟨rfl, rfl⟩) | (go_at_call 43; (with_reducible refine (t_kind P G t old _ h o1 o2).mono ?_); rintro e w' ⟨rfl, rfl⟩) | (go_at_call 53; (with_reducible refine (t_dels P G t to q HS2.out _ h c1 c2 hsl).mono ?_); rintro e w3 ⟨rfl, ht3, hg3⟩; have HT3 := Lib.hid ht3; have HG3 := Lib.hid hg3; clear ht3 hg3) | (go_at_call 51; refine (t_free P G _ old _ HT3.out o1 (by rw [delS_length]; exact o2)).mono ?_; rintro e w4 ⟨rfl, ht4, hg4⟩; have HT4 := Lib.hid ht4; have HG4 := Lib.hid (grown_trans HG3.out hg4); clear ht4 hg4) | (go_at_call 53; refine (t_dels P G _ dir s HS3.out _ HT4.out b1 (by rw [freeT_length, delS_length]; exact b2) HSM.out).mono ?_; rintro e w5 ⟨rfl, ht5, hg5⟩; have HT5 := Lib.hid ht5; have HG5 := Lib.hid (grown_trans HG4.out hg5); clear ht5 hg5) | (go_at_call 41; refine (t_add P G _ to q ino _ HT5.out c1 (by rw [delS_length, freeT_length, delS_length]; exact c2) HSM2.out).mono ?_; rintro e w6 ⟨rfl, ht6, hg6⟩; have HT6 := Lib.hid ht6; have HG6 := Lib.hid (grown_trans HG5.out hg6); clear ht6 hg6))
          go_ret
          exact ⟨ret_i64 rfl, HT6.out, HG6.out⟩
    | false =>
      cases hki : ((ndAt t ino).kind == 2) with
      | true =>
        rw [if_neg (fun hh => by rw [hko] at hh; cases hh.1), if_pos ⟨hko, hki⟩] at hr
        obtain rfl := hnu hki
        clear hnu
        injection hr with e1 e2
        subst e1
        subst e2
        go_enter Try.func48, Try.ntmps48
        go_wp2_with (first | (go_at_call 24; (with_reducible refine (t_name s _ HN.out _ hs).mono ?_); rintro e w' ⟨rfl, rfl⟩) | (go_at_call 24; (with_reducible refine (t_name q _ HQ.out _ hq).mono ?_); rintro e w' ⟨rfl, rfl⟩) | (go_at_call 40; (with_reducible refine (t_there P G t dir _ HTD.out _ h h0).mono ?_); rintro e w' ⟨rfl, rfl⟩) | (go_at_call 40; (with_reducible refine (t_there P G t to _ HTT.out _ h q0).mono ?_); rintro e w' ⟨rfl, rfl⟩) | (go_at_call 43; (with_reducible refine (t_kind P G t dir _ h b1 b2).mono ?_); rintro e w' ⟨rfl, rfl⟩) | (go_at_call 43; (with_reducible refine (t_kind P G t to _ h c1 c2).mono ?_); rintro e w' ⟨rfl, rfl⟩) | (go_at_call 45; (with_reducible refine (t_look P G t dir s _ _ HL.out _ h h0 hs).mono ?_); rintro e w' ⟨rfl, rfl⟩) | (go_at_call 43; (with_reducible refine (t_kind P G t ino _ h i1 i2).mono ?_); rintro e w' ⟨rfl, rfl⟩) | (go_at_call 54; (with_reducible refine (t_below P G t to _ h hge ino (hacc ino) _ HU.out i1 i2).mono ?_); rintro e w' ⟨rfl, rfl⟩) | (go_at_call 45; (with_reducible refine (t_look P G t to q _ _ HL2.out _ h q0 hq).mono ?_); rintro e w' ⟨rfl, rfl⟩) | (go_at_call 43; (with_reducible refine (t_kind P G t old _ h o1 o2).mono ?_); rintro e w' ⟨rfl, rfl⟩))
        go_ret
        exact ⟨ret_i64 rfl, h, grown_of_below (Below.refl _ _)⟩
      | false =>
        rw [if_neg (fun hh => by rw [hko] at hh; cases hh.1), if_neg (fun hh => by rw [hki] at hh; cases hh.2), if_neg (fun hh => by rw [hko] at hh; cases hh.1)] at hr
        clear hnu
        have HK2 : Hid ((ndAt t dir).kind = 2) := by show _ = _; simpa using hk
        have HKO : Hid ((ndAt t old).kind ≠ 2) := by show _ ≠ _; simpa using hko
        have HS3 : Hid ((place (ndAt (freeT (delS t to q) old) dir).l s).isSome = true) := still_there HL.out HL2.out HIO.out o1 HK2.out (fun hh => absurd hh HKO.out)
        have HSM := Lib.hid ((hsl.del c1 c2 q).free old)
        have HSM2 := Lib.hid (HSM.out.del b1 (by rw [freeT_length, delS_length]; exact b2) s)
        injection hr with e1 e2
        subst e1
        subst e2
        go_enter Try.func48, Try.ntmps48
        go_wp2_with (first | (go_at_call 24; (with_reducible refine (t_name s _ HN.out _ hs).mono ?_); rintro e w' ⟨rfl, rfl⟩) | (go_at_call 24; (with_reducible refine (t_name q _ HQ.out _ hq).mono ?_); rintro e w' ⟨rfl, rfl⟩) | (go_at_call 40; (with_reducible refine (t_there P G t dir _ HTD.out _ h h0).mono ?_); rintro e w' ⟨rfl, rfl⟩) | (go_at_call 40; (with_reducible refine (t_there P G t to _ HTT.out _ h q0).mono ?_); rintro e w' ⟨rfl, rfl⟩) | (go_at_call 43; (with_reducible refine (t_kind P G t dir _ h b1 b2).mono ?_); rintro e w' ⟨rfl, rfl⟩) | (go_at_call 43; (with_reducible refine (t_kind P G t to _ h c1 c2).mono ?_); rintro e w' ⟨rfl, rfl⟩) | (go_at_call 45; (with_reducible refine (t_look P G t dir s _ _ HL.out _ h h0 hs).mono ?_); rintro e w' ⟨rfl, rfl⟩) | (go_at_call 43; (with_reducible refine (t_kind P G t ino _ h i1 i2).mono ?_); rintro e w' ⟨rfl, rfl⟩) | (go_at_call 54; (with_reducible refine (t_below P G t to _ h hge ino (hacc ino) _ HU.out i1 i2).mono ?_); rintro e w' ⟨rfl, rfl⟩) | (go_at_call 45; (with_reducible refine (t_look P G t to q _ _ HL2.out _ h q0 hq).mono ?_); rintro e w' ⟨rfl, rfl⟩) | (go_at_call 43; (with_reducible refine (t_kind P G t old _ h o1 o2).mono ?_); rintro e w' ⟨rfl, rfl⟩) | (go_at_call 53; (with_reducible refine (t_dels P G t to q HS2.out _ h c1 c2 hsl).mono ?_); rintro e w3 ⟨rfl, ht3, hg3⟩; have HT3 := Lib.hid ht3; have HG3 := Lib.hid hg3; clear ht3 hg3) | (go_at_call 51; refine (t_free P G _ old _ HT3.out o1 (by rw [delS_length]; exact o2)).mono ?_; rintro e w4 ⟨rfl, ht4, hg4⟩; have HT4 := Lib.hid ht4; have HG4 := Lib.hid (grown_trans HG3.out hg4); clear ht4 hg4) | (go_at_call 53; refine (t_dels P G _ dir s HS3.out _ HT4.out b1 (by rw [freeT_length, delS_length]; exact b2) HSM.out).mono ?_; rintro e w5 ⟨rfl, ht5, hg5⟩; have HT5 := Lib.hid ht5; have HG5 := Lib.hid (grown_trans HG4.out hg5); clear ht5 hg5) | (go_at_call 41; refine (t_add P G _ to q ino _ HT5.out c1 (by rw [delS_length, freeT_length, delS_length]; exact c2) HSM2.out).mono ?_; rintro e w6 ⟨rfl, ht6, hg6⟩; have HT6 := Lib.hid ht6; have HG6 := Lib.hid (grown_trans HG5.out hg6); clear ht6 hg6))
        go_ret
        exact ⟨ret_i64 rfl, HT6.out, HG6.out⟩

set_option maxRecDepth 100000 in
set_option maxHeartbeats 8000000 in
theorem t_renameB (P G : Nat) (t : Tr) (dir : Int) (s : ByteArray) (to : Int) (q : ByteArray) (w : World) (h : TreeAt w P G t) (h0 : 0 ≤ dir) (q0 : 0 ≤ to) (hs : s.size ≤ maxLen) (hq : q.size ≤ maxLen) (hsl : Small t) (hge : GoodE t) (hacc : ∀ x, Acc (Child t) x) (hn : nameB s = true) (hnq : nameB q = true) (htd : thereB t dir = true) (htt : thereB t to = true) (hk : ((ndAt t dir).kind != 2) = false) (hk2 : ((ndAt t to).kind != 2) = false) (ino : Int) (hl : lookR t dir s = (ino, 0)) (r : Int) (t' : Tr) (hr : renameB t dir s to q ino = (r, t')) :
    Calls Try.prog 48 #[.pointer (some ⟨P, 0, none⟩), .int .u32 dir, .string s, .int .u32 to, .string q] w fun e w' => e = .returned (.int .i64 r) ∧ TreeAt w' P G t' ∧ w.grownBy w' (some G) := by
  obtain ⟨i1, i2⟩ := look_good hge hl
  unfold renameB at hr
  by_cases hu : ((ndAt t ino).kind == 2) = true ∧ underB t to ino = true
  · rw [if_pos hu] at hr
    obtain ⟨hki, hub⟩ := hu
    have HU : Hid (Under t to ino) := underB_iff.1 hub
    have HL := Lib.hid hl
    clear hub hl
    obtain ⟨b1, b2, _⟩ := thereB_bounds htd
    obtain ⟨c1, c2, _⟩ := thereB_bounds htt
    have HN := Lib.hid hn
    have HQ := Lib.hid hnq
    have HTD := Lib.hid htd
    have HTT := Lib.hid htt
    clear hn hnq htd htt
    injection hr with e1 e2
    subst e1
    subst e2
    go_enter Try.func48, Try.ntmps48
    go_wp2_with (first | (go_at_call 24; (with_reducible refine (t_name s _ HN.out _ hs).mono ?_); rintro e w' ⟨rfl, rfl⟩) | (go_at_call 24; (with_reducible refine (t_name q _ HQ.out _ hq).mono ?_); rintro e w' ⟨rfl, rfl⟩) | (go_at_call 40; (with_reducible refine (t_there P G t dir _ HTD.out _ h h0).mono ?_); rintro e w' ⟨rfl, rfl⟩) | (go_at_call 40; (with_reducible refine (t_there P G t to _ HTT.out _ h q0).mono ?_); rintro e w' ⟨rfl, rfl⟩) | (go_at_call 43; (with_reducible refine (t_kind P G t dir _ h b1 b2).mono ?_); rintro e w' ⟨rfl, rfl⟩) | (go_at_call 43; (with_reducible refine (t_kind P G t to _ h c1 c2).mono ?_); rintro e w' ⟨rfl, rfl⟩) | (go_at_call 45; (with_reducible refine (t_look P G t dir s _ _ HL.out _ h h0 hs).mono ?_); rintro e w' ⟨rfl, rfl⟩) | (go_at_call 43; (with_reducible refine (t_kind P G t ino _ h i1 i2).mono ?_); rintro e w' ⟨rfl, rfl⟩) | (go_at_call 54; (with_reducible refine (t_below P G t to _ h hge ino (hacc ino) true ⟨fun _ => HU.out, fun _ => rfl⟩ i1 i2).mono ?_); rintro e w' ⟨rfl, rfl⟩))
    go_ret
    exact ⟨ret_i64 rfl, h, grown_of_below (Below.refl _ _)⟩
  · rw [if_neg hu] at hr
    have hnu : ((ndAt t ino).kind == 2) = true → underB t to ino = false := fun hh => by
      cases hb : underB t to ino with
      | false => rfl
      | true => exact absurd ⟨hh, hb⟩ hu
    obtain ⟨old, f, hl2⟩ : ∃ old f, lookR t to q = (old, f) := ⟨_, _, rfl⟩
    rw [hl2] at hr
    simp only [] at hr
    by_cases hf : f = 0
    · subst hf
      rw [if_pos rfl] at hr
      obtain ⟨o1, o2⟩ := look_good hge hl2
      exact t_renameC P G t dir s to q w h h0 q0 hs hq hsl hge hacc hn hnq htd htt hk hk2 ino old hl i1 i2 hl2 o1 o2 _ underB_iff hnu r t' hr
    · rw [if_neg hf] at hr
      have hne : (f == 0) = false := by simpa using hf
      have HS1 : Hid ((place (ndAt t dir).l s).isSome = true) := by obtain ⟨_, k, x, hp, _⟩ := look_ok hl; show _ = _; rw [hp]; rfl
      have HL := Lib.hid hl
      have HL2 := Lib.hid hl2
      have HU : Hid (underB t to ino = true ↔ Under t to ino) := underB_iff
      clear hl hl2 hf hu
      obtain ⟨b1, b2, _⟩ := thereB_bounds htd
      obtain ⟨c1, c2, _⟩ := thereB_bounds htt
      have HN := Lib.hid hn
      have HQ := Lib.hid hnq
      have HTD := Lib.hid htd
      have HTT := Lib.hid htt
      clear hn hnq htd htt
      have HSM2 := Lib.hid (hsl.del b1 b2 s)
      obtain ⟨bu, hbu⟩ : ∃ bu, underB t to ino = bu := ⟨_, rfl⟩
      rw [hbu] at hnu HU
      clear hbu
      cases hki : ((ndAt t ino).kind == 2) with
      | true =>
        obtain rfl := hnu hki
        clear hnu
        injection hr with e1 e2
        subst e1
        subst e2
        go_enter Try.func48, Try.ntmps48
        go_wp2_with (first | (go_at_call 24; (with_reducible refine (t_name s _ HN.out _ hs).mono ?_); rintro e w' ⟨rfl, rfl⟩) | (go_at_call 24; (with_reducible refine (t_name q _ HQ.out _ hq).mono ?_); rintro e w' ⟨rfl, rfl⟩) | (go_at_call 40; (with_reducible refine (t_there P G t dir _ HTD.out _ h h0).mono ?_); rintro e w' ⟨rfl, rfl⟩) | (go_at_call 40; (with_reducible refine (t_there P G t to _ HTT.out _ h q0).mono ?_); rintro e w' ⟨rfl, rfl⟩) | (go_at_call 43; (with_reducible refine (t_kind P G t dir _ h b1 b2).mono ?_); rintro e w' ⟨rfl, rfl⟩) | (go_at_call 43; (with_reducible refine (t_kind P G t to _ h c1 c2).mono ?_); rintro e w' ⟨rfl, rfl⟩) | (go_at_call 45; (with_reducible refine (t_look P G t dir s _ _ HL.out _ h h0 hs).mono ?_); rintro e w' ⟨rfl, rfl⟩) | (go_at_call 43; (with_reducible refine (t_kind P G t ino _ h i1 i2).mono ?_); rintro e w' ⟨rfl, rfl⟩) | (go_at_call 54; (with_reducible refine (t_below P G t to _ h hge ino (hacc ino) _ HU.out i1 i2).mono ?_); rintro e w' ⟨rfl, rfl⟩) | (go_at_call 45; (with_reducible refine (t_look P G t to q _ _ HL2.out _ h q0 hq).mono ?_); rintro e w' ⟨rfl, rfl⟩) | (go_at_call 53; (with_reducible refine (t_dels P G t dir s HS1.out _ h b1 b2 hsl).mono ?_); rintro e w5 ⟨rfl, ht5, hg5⟩; have HT5 := Lib.hid ht5; have HG5 := Lib.hid hg5; clear ht5 hg5) | (go_at_call 41; refine (t_add P G _ to q ino _ HT5.out c1 (by rw [delS_length]; exact c2) HSM2.out).mono ?_; rintro e w6 ⟨rfl, ht6, hg6⟩; have HT6 := Lib.hid ht6; have HG6 := Lib.hid (grown_trans HG5.out hg6); clear ht6 hg6))
        go_ret
        exact ⟨ret_i64 rfl, HT6.out, HG6.out⟩
      | false =>
        clear hnu
        injection hr with e1 e2
        subst e1
        subst e2
        go_enter Try.func48, Try.ntmps48
        go_wp2_with (first | (go_at_call 24; (with_reducible refine (t_name s _ HN.out _ hs).mono ?_); rintro e w' ⟨rfl, rfl⟩) | (go_at_call 24; (with_reducible refine (t_name q _ HQ.out _ hq).mono ?_); rintro e w' ⟨rfl, rfl⟩) | (go_at_call 40; (with_reducible refine (t_there P G t dir _ HTD.out _ h h0).mono ?_); rintro e w' ⟨rfl, rfl⟩) | (go_at_call 40; (with_reducible refine (t_there P G t to _ HTT.out _ h q0).mono ?_); rintro e w' ⟨rfl, rfl⟩) | (go_at_call 43; (with_reducible refine (t_kind P G t dir _ h b1 b2).mono ?_); rintro e w' ⟨rfl, rfl⟩) | (go_at_call 43; (with_reducible refine (t_kind P G t to _ h c1 c2).mono ?_); rintro e w' ⟨rfl, rfl⟩) | (go_at_call 45; (with_reducible refine (t_look P G t dir s _ _ HL.out _ h h0 hs).mono ?_); rintro e w' ⟨rfl, rfl⟩) | (go_at_call 43; (with_reducible refine (t_kind P G t ino _ h i1 i2).mono ?_); rintro e w' ⟨rfl, rfl⟩) | (go_at_call 54; (with_reducible refine (t_below P G t to _ h hge ino (hacc ino) _ HU.out i1 i2).mono ?_); rintro e w' ⟨rfl, rfl⟩) | (go_at_call 45; (with_reducible refine (t_look P G t to q _ _ HL2.out _ h q0 hq).mono ?_); rintro e w' ⟨rfl, rfl⟩) | (go_at_call 53; (with_reducible refine (t_dels P G t dir s HS1.out _ h b1 b2 hsl).mono ?_); rintro e w5 ⟨rfl, ht5, hg5⟩; have HT5 := Lib.hid ht5; have HG5 := Lib.hid hg5; clear ht5 hg5) | (go_at_call 41; refine (t_add P G _ to q ino _ HT5.out c1 (by rw [delS_length]; exact c2) HSM2.out).mono ?_; rintro e w6 ⟨rfl, ht6, hg6⟩; have HT6 := Lib.hid ht6; have HG6 := Lib.hid (grown_trans HG5.out hg6); clear ht6 hg6))
        go_ret
        exact ⟨ret_i64 rfl, HT6.out, HG6.out⟩

set_option maxRecDepth 100000 in
set_option maxHeartbeats 8000000 in
theorem t_rename (P G : Nat) (t : Tr) (dir : Int) (s : ByteArray) (to : Int) (q : ByteArray) (w : World) (h : TreeAt w P G t) (h0 : 0 ≤ dir) (q0 : 0 ≤ to) (hs : s.size ≤ maxLen) (hq : q.size ≤ maxLen) (hsl : Small t) (hge : GoodE t) (hacc : ∀ x, Acc (Child t) x) (r : Int) (t' : Tr) (hr : renameR t dir s to q = (r, t')) :
    Calls Try.prog 48 #[.pointer (some ⟨P, 0, none⟩), .int .u32 dir, .string s, .int .u32 to, .string q] w fun e w' => e = .returned (.int .i64 r) ∧ TreeAt w' P G t' ∧ w.grownBy w' (some G) := by
  unfold renameR at hr
  cases hn : nameB s with
  | false =>
    rw [if_pos (.inl hn)] at hr
    have HN := Lib.hid hn
    clear hn
    injection hr with e1 e2
    subst e1
    subst e2
    go_enter Try.func48, Try.ntmps48
    go_wp2_with (first | (go_at_call 24; (with_reducible refine (t_name s _ HN.out _ hs).mono ?_); rintro e w' ⟨rfl, rfl⟩))
    go_ret
    exact ⟨ret_i64 rfl, h, grown_of_below (Below.refl _ _)⟩
  | true =>
    cases hnq : nameB q with
    | false =>
      rw [if_pos (.inr hnq)] at hr
      have HN := Lib.hid hn
      have HQ := Lib.hid hnq
      clear hn hnq
      injection hr with e1 e2
      subst e1
      subst e2
      go_enter Try.func48, Try.ntmps48
      go_wp2_with (first | (go_at_call 24; (with_reducible refine (t_name s _ HN.out _ hs).mono ?_); rintro e w' ⟨rfl, rfl⟩) | (go_at_call 24; (with_reducible refine (t_name q _ HQ.out _ hq).mono ?_); rintro e w' ⟨rfl, rfl⟩))
      go_ret
      exact ⟨ret_i64 rfl, h, grown_of_below (Below.refl _ _)⟩
    | true =>
      rw [if_neg (fun hh => by rcases hh with hh | hh; (rw [hn] at hh; cases hh); (rw [hnq] at hh; cases hh))] at hr
      cases htd : thereB t dir with
      | false =>
        rw [if_pos (.inl htd)] at hr
        have HN := Lib.hid hn
        have HQ := Lib.hid hnq
        have HTD := Lib.hid htd
        clear hn hnq htd
        injection hr with e1 e2
        subst e1
        subst e2
        go_enter Try.func48, Try.ntmps48
        go_wp2_with (first | (go_at_call 24; (with_reducible refine (t_name s _ HN.out _ hs).mono ?_); rintro e w' ⟨rfl, rfl⟩) | (go_at_call 24; (with_reducible refine (t_name q _ HQ.out _ hq).mono ?_); rintro e w' ⟨rfl, rfl⟩) | (go_at_call 40; (with_reducible refine (t_there P G t dir _ HTD.out _ h h0).mono ?_); rintro e w' ⟨rfl, rfl⟩))
        go_ret
        exact ⟨ret_i64 rfl, h, grown_of_below (Below.refl _ _)⟩
      | true =>
        cases htt : thereB t to with
        | false =>
          rw [if_pos (.inr htt)] at hr
          have HN := Lib.hid hn
          have HQ := Lib.hid hnq
          have HTD := Lib.hid htd
          have HTT := Lib.hid htt
          clear hn hnq htd htt
          injection hr with e1 e2
          subst e1
          subst e2
          go_enter Try.func48, Try.ntmps48
          go_wp2_with (first | (go_at_call 24; (with_reducible refine (t_name s _ HN.out _ hs).mono ?_); rintro e w' ⟨rfl, rfl⟩) | (go_at_call 24; (with_reducible refine (t_name q _ HQ.out _ hq).mono ?_); rintro e w' ⟨rfl, rfl⟩) | (go_at_call 40; (with_reducible refine (t_there P G t dir _ HTD.out _ h h0).mono ?_); rintro e w' ⟨rfl, rfl⟩) | (go_at_call 40; (with_reducible refine (t_there P G t to _ HTT.out _ h q0).mono ?_); rintro e w' ⟨rfl, rfl⟩))
          go_ret
          exact ⟨ret_i64 rfl, h, grown_of_below (Below.refl _ _)⟩
        | true =>
          rw [if_neg (fun hh => by rcases hh with hh | hh; (rw [htd] at hh; cases hh); (rw [htt] at hh; cases hh))] at hr
          cases hk : ((ndAt t dir).kind != 2) with
          | true =>
            rw [if_pos (.inl hk)] at hr
            obtain ⟨b1, b2, _⟩ := thereB_bounds htd
            obtain ⟨c1, c2, _⟩ := thereB_bounds htt
            have HN := Lib.hid hn
            have HQ := Lib.hid hnq
            have HTD := Lib.hid htd
            have HTT := Lib.hid htt
            clear hn hnq htd htt
            injection hr with e1 e2
            subst e1
            subst e2
            go_enter Try.func48, Try.ntmps48
            go_wp2_with (first | (go_at_call 24; (with_reducible refine (t_name s _ HN.out _ hs).mono ?_); rintro e w' ⟨rfl, rfl⟩) | (go_at_call 24; (with_reducible refine (t_name q _ HQ.out _ hq).mono ?_); rintro e w' ⟨rfl, rfl⟩) | (go_at_call 40; (with_reducible refine (t_there P G t dir _ HTD.out _ h h0).mono ?_); rintro e w' ⟨rfl, rfl⟩) | (go_at_call 40; (with_reducible refine (t_there P G t to _ HTT.out _ h q0).mono ?_); rintro e w' ⟨rfl, rfl⟩) | (go_at_call 43; (with_reducible refine (t_kind P G t dir _ h b1 b2).mono ?_); rintro e w' ⟨rfl, rfl⟩))
            go_ret
            exact ⟨ret_i64 rfl, h, grown_of_below (Below.refl _ _)⟩
          | false =>
            cases hk2 : ((ndAt t to).kind != 2) with
            | true =>
              rw [if_pos (.inr hk2)] at hr
              obtain ⟨b1, b2, _⟩ := thereB_bounds htd
              obtain ⟨c1, c2, _⟩ := thereB_bounds htt
              have HN := Lib.hid hn
              have HQ := Lib.hid hnq
              have HTD := Lib.hid htd
              have HTT := Lib.hid htt
              clear hn hnq htd htt
              injection hr with e1 e2
              subst e1
              subst e2
              go_enter Try.func48, Try.ntmps48
              go_wp2_with (first | (go_at_call 24; (with_reducible refine (t_name s _ HN.out _ hs).mono ?_); rintro e w' ⟨rfl, rfl⟩) | (go_at_call 24; (with_reducible refine (t_name q _ HQ.out _ hq).mono ?_); rintro e w' ⟨rfl, rfl⟩) | (go_at_call 40; (with_reducible refine (t_there P G t dir _ HTD.out _ h h0).mono ?_); rintro e w' ⟨rfl, rfl⟩) | (go_at_call 40; (with_reducible refine (t_there P G t to _ HTT.out _ h q0).mono ?_); rintro e w' ⟨rfl, rfl⟩) | (go_at_call 43; (with_reducible refine (t_kind P G t dir _ h b1 b2).mono ?_); rintro e w' ⟨rfl, rfl⟩) | (go_at_call 43; (with_reducible refine (t_kind P G t to _ h c1 c2).mono ?_); rintro e w' ⟨rfl, rfl⟩))
              go_ret
              exact ⟨ret_i64 rfl, h, grown_of_below (Below.refl _ _)⟩
            | false =>
              rw [if_neg (fun hh => by rcases hh with hh | hh; (rw [hk] at hh; cases hh); (rw [hk2] at hh; cases hh))] at hr
              obtain ⟨ino, e, hl⟩ : ∃ ino e, lookR t dir s = (ino, e) := ⟨_, _, rfl⟩
              rw [hl] at hr
              simp only [] at hr
              by_cases he : e ≠ 0
              · rw [if_pos he] at hr
                have hne : (e != 0) = true := by simpa using he
                have HL := Lib.hid hl
                clear he hl
                obtain ⟨b1, b2, _⟩ := thereB_bounds htd
                obtain ⟨c1, c2, _⟩ := thereB_bounds htt
                have HN := Lib.hid hn
                have HQ := Lib.hid hnq
                have HTD := Lib.hid htd
                have HTT := Lib.hid htt
                clear hn hnq htd htt
                injection hr with e1 e2
                subst e1
                subst e2
                go_enter Try.func48, Try.ntmps48
                go_wp2_with (first | (go_at_call 24; (with_reducible refine (t_name s _ HN.out _ hs).mono ?_); rintro e w' ⟨rfl, rfl⟩) | (go_at_call 24; (with_reducible refine (t_name q _ HQ.out _ hq).mono ?_); rintro e w' ⟨rfl, rfl⟩) | (go_at_call 40; (with_reducible refine (t_there P G t dir _ HTD.out _ h h0).mono ?_); rintro e w' ⟨rfl, rfl⟩) | (go_at_call 40; (with_reducible refine (t_there P G t to _ HTT.out _ h q0).mono ?_); rintro e w' ⟨rfl, rfl⟩) | (go_at_call 43; (with_reducible refine (t_kind P G t dir _ h b1 b2).mono ?_); rintro e w' ⟨rfl, rfl⟩) | (go_at_call 43; (with_reducible refine (t_kind P G t to _ h c1 c2).mono ?_); rintro e w' ⟨rfl, rfl⟩) | (go_at_call 45; (with_reducible refine (t_look P G t dir s _ _ HL.out _ h h0 hs).mono ?_); rintro e w' ⟨rfl, rfl⟩))
                go_ret
                exact ⟨ret_i64 rfl, h, grown_of_below (Below.refl _ _)⟩
              · rw [if_neg he] at hr
                obtain rfl : e = 0 := by omega
                exact t_renameB P G t dir s to q w h h0 q0 hs hq hsl hge hacc hn hnq htd htt hk hk2 ino hl r t' hr
end Go.Proofs.Ytnnidgjfjgkdpaa
