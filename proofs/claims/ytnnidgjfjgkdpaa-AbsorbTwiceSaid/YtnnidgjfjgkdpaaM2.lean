/- Trees as the document has them: links, what is taken away. -/
import Derived.Test.YtnnidgjfjgkdpaaM1
namespace Go.Proofs.Ytnnidgjfjgkdpaa
open Go.RowKit

def addT (t : Tr) (dir : Int) (e : Ent) : Tr := setNd t dir { ndAt t dir with l := addL (ndAt t dir).l e }
/-- An entry is taken out. -/
def delS (t : Tr) (dir : Int) (s : ByteArray) : Tr := match place (ndAt t dir).l s with | some k => setNd t dir { ndAt t dir with l := delAt (ndAt t dir).l k } | none => t
theorem delS_length (t : Tr) (dir : Int) (s : ByteArray) : (delS t dir s).length = t.length := by
  unfold delS; split
  · exact setNd_length _ _ _
  · rfl
theorem freeT_length (t : Tr) (ino : Int) : (freeT t ino).length = t.length := by
  unfold freeT; split
  · exact setNd_length _ _ _
  · rfl
theorem delAt_length {l : List Ent} {k : Nat} (hk : k < l.length) : (delAt l k).length = l.length - 1 := by unfold delAt; simp; omega
theorem Small.del {t : Tr} (h : Small t) {dir : Int} (h1 : 1 ≤ dir) (h2 : dir ≤ t.length) (s : ByteArray) : Small (delS t dir s) := by
  unfold delS; split
  · rename_i k hk
    obtain ⟨e, he, _⟩ := place_get hk
    have := (List.getElem?_eq_some_iff.1 he).1
    exact h.set _ _ (by show (delAt _ _).length ≤ _; rw [delAt_length this]; have := h.at_ h1 h2; omega)
  · exact h
theorem Small.free {t : Tr} (h : Small t) (ino : Int) : Small (freeT t ino) := by
  unfold freeT; split
  · exact h.set _ _ (Nat.zero_le _)
  · exact h
/-- del, by the name. -/
theorem t_dels (P G : Nat) (t : Tr) (ino : Int) (s : ByteArray) (hk : (place (ndAt t ino).l s).isSome = true) (w : World) (h : TreeAt w P G t) (h1 : 1 ≤ ino) (h2 : ino ≤ t.length) (hsm : Small t) :
    Calls Try.prog 53 #[.pointer (some ⟨P, 0, none⟩), .int .u32 ino, .string s] w fun e w' => e = .returned (.tuple #[]) ∧ TreeAt w' P G (delS t ino s) ∧ w.grownBy w' (some G) := by
  cases hp : place (ndAt t ino).l s with
  | none => rw [hp] at hk; cases hk
  | some k =>
    have : delS t ino s = setNd t ino { ndAt t ino with l := delAt (ndAt t ino).l k } := by unfold delS; rw [hp]
    rw [this]
    exact t_del P G t ino s k hp w h h1 h2 hsm
theorem look_ok {t : Tr} {dir : Int} {s : ByteArray} {ino : Int} (h : lookR t dir s = (ino, 0)) : dirE t dir s = 0 ∧ ∃ k e, place (ndAt t dir).l s = some k ∧ (ndAt t dir).l[k]? = some e ∧ e.ino = ino := by
  unfold lookR at h
  by_cases hd : dirE t dir s ≠ 0
  · rw [if_pos hd] at h
    injection h with _ h; exact absurd h hd
  · rw [if_neg hd] at h
    cases hp : place (ndAt t dir).l s with
    | none => rw [hp] at h; simp at h
    | some k =>
      obtain ⟨e, he, _⟩ := place_get hp
      rw [hp] at h
      simp only [he, Option.map_some, Option.getD_some, Prod.mk.injEq, and_true] at h
      exact ⟨by omega, k, e, rfl, he, h⟩
theorem ndAt_mem {t : Tr} {ino : Int} (h1 : 1 ≤ ino) (h2 : ino ≤ t.length) : ndAt t ino ∈ t := List.mem_of_getElem? (nd_get (t := t) (k := ino.toNat - 1) (by omega))
theorem look_good {t : Tr} {dir : Int} {s : ByteArray} {ino : Int} (hg : GoodE t) (h : lookR t dir s = (ino, 0)) : 1 ≤ ino ∧ ino ≤ t.length := by
  obtain ⟨hd, k, e, _, he, rfl⟩ := look_ok h
  obtain ⟨_, ht, _⟩ := dirE_zero hd
  obtain ⟨b1, b2, _⟩ := thereB_bounds ht
  exact hg _ (ndAt_mem b1 b2) _ (List.mem_of_getElem? he)

/-- Link's answer, and the tree behind it. -/
def linkR (t : Tr) (dir : Int) (s : ByteArray) (ino : Int) : Int × Tr :=
  if nameB s = false then (2, t) else if thereB t dir = false ∨ thereB t ino = false then (3, t) else if ((ndAt t dir).kind != 2) = true then (180, t)
  else if ((ndAt t ino).kind == 2) = true then (181, t) else if (place (ndAt t dir).l s).isSome = true then (9, t) else if 200 ≤ linksV t ino then (184, t)
  else (0, addT t dir ⟨s, ino⟩)
set_option maxHeartbeats 4000000 in
theorem t_link (P G : Nat) (t : Tr) (dir : Int) (s : ByteArray) (ino : Int) (w : World) (h : TreeAt w P G t) (h0 : 0 ≤ dir) (i0 : 0 ≤ ino) (hs : s.size ≤ maxLen) (hsl : Small t) (r : Int) (t' : Tr) (hr : linkR t dir s ino = (r, t')) :
    Calls Try.prog 27 #[.pointer (some ⟨P, 0, none⟩), .int .u32 dir, .string s, .int .u32 ino] w fun e w' => e = .returned (.int .i64 r) ∧ TreeAt w' P G t' ∧ w.grownBy w' (some G) := by
  unfold linkR at hr
  cases hn : nameB s with
  | false =>
    rw [if_pos hn] at hr
    have HN := Lib.hid hn
    clear hn
    injection hr with e1 e2
    subst e1
    subst e2
    go_enter Try.func27, Try.ntmps27
    go_wp2_with (first | (go_at_call 24; (with_reducible refine (t_name s _ HN.out _ hs).mono ?_); rintro e w' ⟨rfl, rfl⟩))
    go_ret
    exact ⟨ret_i64 rfl, h, grown_of_below (Below.refl _ _)⟩
  | true =>
    rw [if_neg (by rw [hn]; simp)] at hr
    have HN := Lib.hid hn
    clear hn
    cases htd : thereB t dir with
    | false =>
      rw [if_pos (.inl htd)] at hr
      have HTD := Lib.hid htd
      clear htd
      injection hr with e1 e2
      subst e1
      subst e2
      go_enter Try.func27, Try.ntmps27
      go_wp2_with (first | (go_at_call 24; (with_reducible refine (t_name s _ HN.out _ hs).mono ?_); rintro e w' ⟨rfl, rfl⟩) | (go_at_call 40; (with_reducible refine (t_there P G t dir _ HTD.out _ h h0).mono ?_); rintro e w' ⟨rfl, rfl⟩))
      go_ret
      exact ⟨ret_i64 rfl, h, grown_of_below (Below.refl _ _)⟩
    | true =>
      cases hti : thereB t ino with
      | false =>
        rw [if_pos (.inr hti)] at hr
        have HTD := Lib.hid htd
        have HTI := Lib.hid hti
        clear htd hti
        injection hr with e1 e2
        subst e1
        subst e2
        go_enter Try.func27, Try.ntmps27
        go_wp2_with (first | (go_at_call 24; (with_reducible refine (t_name s _ HN.out _ hs).mono ?_); rintro e w' ⟨rfl, rfl⟩) | (go_at_call 40; (with_reducible refine (t_there P G t dir _ HTD.out _ h h0).mono ?_); rintro e w' ⟨rfl, rfl⟩) | (go_at_call 40; (with_reducible refine (t_there P G t ino _ HTI.out _ h i0).mono ?_); rintro e w' ⟨rfl, rfl⟩))
        go_ret
        exact ⟨ret_i64 rfl, h, grown_of_below (Below.refl _ _)⟩
      | true =>
        rw [if_neg (fun hh => by rcases hh with hh | hh; (rw [htd] at hh; cases hh); (rw [hti] at hh; cases hh))] at hr
        obtain ⟨b1, b2, _⟩ := thereB_bounds htd
        obtain ⟨i1, i2, _⟩ := thereB_bounds hti
        have HTD := Lib.hid htd
        have HTI := Lib.hid hti
        clear htd hti
        cases hk : ((ndAt t dir).kind != 2) with
        | true =>
          rw [if_pos hk] at hr
          injection hr with e1 e2
          subst e1
          subst e2
          go_enter Try.func27, Try.ntmps27
          go_wp2_with (first | (go_at_call 24; (with_reducible refine (t_name s _ HN.out _ hs).mono ?_); rintro e w' ⟨rfl, rfl⟩) | (go_at_call 40; (with_reducible refine (t_there P G t dir _ HTD.out _ h h0).mono ?_); rintro e w' ⟨rfl, rfl⟩) | (go_at_call 40; (with_reducible refine (t_there P G t ino _ HTI.out _ h i0).mono ?_); rintro e w' ⟨rfl, rfl⟩) | (go_at_call 43; (with_reducible refine (t_kind P G t dir _ h b1 b2).mono ?_); rintro e w' ⟨rfl, rfl⟩))
          go_ret
          exact ⟨ret_i64 rfl, h, grown_of_below (Below.refl _ _)⟩
        | false =>
          rw [if_neg (by rw [hk]; simp)] at hr
          cases hk2 : ((ndAt t ino).kind == 2) with
          | true =>
            rw [if_pos hk2] at hr
            injection hr with e1 e2
            subst e1
            subst e2
            go_enter Try.func27, Try.ntmps27
            go_wp2_with (first | (go_at_call 24; (with_reducible refine (t_name s _ HN.out _ hs).mono ?_); rintro e w' ⟨rfl, rfl⟩) | (go_at_call 40; (with_reducible refine (t_there P G t dir _ HTD.out _ h h0).mono ?_); rintro e w' ⟨rfl, rfl⟩) | (go_at_call 40; (with_reducible refine (t_there P G t ino _ HTI.out _ h i0).mono ?_); rintro e w' ⟨rfl, rfl⟩) | (go_at_call 43; (with_reducible refine (t_kind P G t dir _ h b1 b2).mono ?_); rintro e w' ⟨rfl, rfl⟩) | (go_at_call 43; (with_reducible refine (t_kind P G t ino _ h i1 i2).mono ?_); rintro e w' ⟨rfl, rfl⟩))
            go_ret
            exact ⟨ret_i64 rfl, h, grown_of_below (Below.refl _ _)⟩
          | false =>
            rw [if_neg (by rw [hk2]; simp)] at hr
            cases hp : place (ndAt t dir).l s with
            | some k =>
              rw [if_pos (by rw [hp]; rfl)] at hr
              have HP : Hid (placeI (ndAt t dir).l s = (k : Nat)) := by show _ = _; unfold placeI; rw [hp]
              clear hp
              injection hr with e1 e2
              subst e1
              subst e2
              go_enter Try.func27, Try.ntmps27
              go_wp2_with (first | (go_at_call 24; (with_reducible refine (t_name s _ HN.out _ hs).mono ?_); rintro e w' ⟨rfl, rfl⟩) | (go_at_call 40; (with_reducible refine (t_there P G t dir _ HTD.out _ h h0).mono ?_); rintro e w' ⟨rfl, rfl⟩) | (go_at_call 40; (with_reducible refine (t_there P G t ino _ HTI.out _ h i0).mono ?_); rintro e w' ⟨rfl, rfl⟩) | (go_at_call 43; (with_reducible refine (t_kind P G t dir _ h b1 b2).mono ?_); rintro e w' ⟨rfl, rfl⟩) | (go_at_call 43; (with_reducible refine (t_kind P G t ino _ h i1 i2).mono ?_); rintro e w' ⟨rfl, rfl⟩) | (go_at_call 39; (with_reducible refine (t_at P G t dir s _ HP.out _ h b1 b2).mono ?_); rintro e w' ⟨rfl, rfl⟩))
              go_ret
              exact ⟨ret_i64 rfl, h, grown_of_below (Below.refl _ _)⟩
            | none =>
              rw [if_neg (by rw [hp]; simp)] at hr
              have HP : Hid (placeI (ndAt t dir).l s = -1) := by show _ = _; unfold placeI; rw [hp]
              clear hp
              obtain ⟨v, hv⟩ : ∃ v, linksV t ino = v := ⟨_, rfl⟩
              rw [hv] at hr
              have HV := Lib.hid hv
              clear hv
              by_cases hl : 200 ≤ v
              · rw [if_pos hl] at hr
                injection hr with e1 e2
                subst e1
                subst e2
                go_enter Try.func27, Try.ntmps27
                go_wp2_with (first | (go_at_call 24; (with_reducible refine (t_name s _ HN.out _ hs).mono ?_); rintro e w' ⟨rfl, rfl⟩) | (go_at_call 40; (with_reducible refine (t_there P G t dir _ HTD.out _ h h0).mono ?_); rintro e w' ⟨rfl, rfl⟩) | (go_at_call 40; (with_reducible refine (t_there P G t ino _ HTI.out _ h i0).mono ?_); rintro e w' ⟨rfl, rfl⟩) | (go_at_call 43; (with_reducible refine (t_kind P G t dir _ h b1 b2).mono ?_); rintro e w' ⟨rfl, rfl⟩) | (go_at_call 43; (with_reducible refine (t_kind P G t ino _ h i1 i2).mono ?_); rintro e w' ⟨rfl, rfl⟩) | (go_at_call 39; (with_reducible refine (t_at P G t dir s _ HP.out _ h b1 b2).mono ?_); rintro e w' ⟨rfl, rfl⟩) | (go_at_call 44; (with_reducible refine (t_links P G t ino _ HV.out _ h i1 i2 hsl).mono ?_); rintro e w' ⟨rfl, rfl⟩))
                go_ret
                exact ⟨ret_i64 rfl, h, grown_of_below (Below.refl _ _)⟩
              · rw [if_neg hl] at hr
                injection hr with e1 e2
                subst e1
                subst e2
                go_enter Try.func27, Try.ntmps27
                go_wp2_with (first | (go_at_call 24; (with_reducible refine (t_name s _ HN.out _ hs).mono ?_); rintro e w' ⟨rfl, rfl⟩) | (go_at_call 40; (with_reducible refine (t_there P G t dir _ HTD.out _ h h0).mono ?_); rintro e w' ⟨rfl, rfl⟩) | (go_at_call 40; (with_reducible refine (t_there P G t ino _ HTI.out _ h i0).mono ?_); rintro e w' ⟨rfl, rfl⟩) | (go_at_call 43; (with_reducible refine (t_kind P G t dir _ h b1 b2).mono ?_); rintro e w' ⟨rfl, rfl⟩) | (go_at_call 43; (with_reducible refine (t_kind P G t ino _ h i1 i2).mono ?_); rintro e w' ⟨rfl, rfl⟩) | (go_at_call 39; (with_reducible refine (t_at P G t dir s _ HP.out _ h b1 b2).mono ?_); rintro e w' ⟨rfl, rfl⟩) | (go_at_call 44; (with_reducible refine (t_links P G t ino _ HV.out _ h i1 i2 hsl).mono ?_); rintro e w' ⟨rfl, rfl⟩) | (go_at_call 41; refine (t_add P G t dir s ino _ h b1 b2 hsl).mono ?_; rintro e w4 ⟨rfl, ht4, hg4⟩; have HT4 := Lib.hid ht4; have HG4 := Lib.hid hg4; clear ht4 hg4))
                go_ret
                exact ⟨ret_i64 rfl, HT4.out, HG4.out⟩

/-- Unlink's and Rmdir's answers, and the tree behind it. -/
def unlinkR (t : Tr) (dir : Int) (s : ByteArray) : Int × Int × Tr :=
  if (lookR t dir s).2 ≠ 0 then (0, (lookR t dir s).2, t) else if ((ndAt t (lookR t dir s).1).kind == 2) = true then (0, 181, t)
  else ((lookR t dir s).1, 0, freeT (delS t dir s) (lookR t dir s).1)
def rmdirR (t : Tr) (dir : Int) (s : ByteArray) : Int × Int × Tr :=
  if (lookR t dir s).2 ≠ 0 then (0, (lookR t dir s).2, t) else if ((ndAt t (lookR t dir s).1).kind != 2) = true then (0, 180, t)
  else if 0 < (ndAt t (lookR t dir s).1).l.length then (0, 182, t)
  else ((lookR t dir s).1, 0, freeT (delS t dir s) (lookR t dir s).1)
set_option maxHeartbeats 4000000 in
theorem t_unlink (P G : Nat) (t : Tr) (dir : Int) (s : ByteArray) (w : World) (h : TreeAt w P G t) (h0 : 0 ≤ dir) (hs : s.size ≤ maxLen) (hsl : Small t) (hge : GoodE t) (r e0 : Int) (t' : Tr) (hr : unlinkR t dir s = (r, e0, t')) :
    Calls Try.prog 47 #[.pointer (some ⟨P, 0, none⟩), .int .u32 dir, .string s] w fun e w' => e = .returned (.tuple #[.int .u32 r, .int .i64 e0]) ∧ TreeAt w' P G t' ∧ w.grownBy w' (some G) := by
  unfold unlinkR at hr
  obtain ⟨ino, e, hl⟩ : ∃ ino e, lookR t dir s = (ino, e) := ⟨_, _, rfl⟩
  rw [hl] at hr
  simp only [] at hr
  have HL := Lib.hid hl
  by_cases he : e ≠ 0
  · rw [if_pos he] at hr
    have hne : (e != 0) = true := by simpa using he
    clear he hl
    injection hr with e1 e2
    injection e2 with e2 e3
    subst e1
    subst e2
    subst e3
    go_enter Try.func47, Try.ntmps47
    go_wp2_with (first | (go_at_call 45; (with_reducible refine (t_look P G t dir s _ _ HL.out _ h h0 hs).mono ?_); rintro e w' ⟨rfl, rfl⟩))
    go_ret2
    exact ⟨ret2_i _ _ rfl rfl, h, grown_of_below (Below.refl _ _)⟩
  · rw [if_neg he] at hr
    obtain rfl : e = 0 := by omega
    obtain ⟨i1, i2⟩ := look_good hge hl
    obtain ⟨hd, k, x, hp, _, _⟩ := look_ok hl
    obtain ⟨_, ht, _⟩ := dirE_zero hd
    obtain ⟨b1, b2, _⟩ := thereB_bounds ht
    have HS : Hid ((place (ndAt t dir).l s).isSome = true) := by show _ = _; rw [hp]; rfl
    clear he hl hd hp ht
    cases hk : ((ndAt t ino).kind == 2) with
    | true =>
      rw [if_pos hk] at hr
      injection hr with e1 e2
      injection e2 with e2 e3
      subst e1
      subst e2
      subst e3
      go_enter Try.func47, Try.ntmps47
      go_wp2_with (first | (go_at_call 45; (with_reducible refine (t_look P G t dir s _ _ HL.out _ h h0 hs).mono ?_); rintro e w' ⟨rfl, rfl⟩) | (go_at_call 43; (with_reducible refine (t_kind P G t ino _ h i1 i2).mono ?_); rintro e w' ⟨rfl, rfl⟩))
      go_ret2
      exact ⟨ret2_i _ _ rfl rfl, h, grown_of_below (Below.refl _ _)⟩
    | false =>
      rw [if_neg (by rw [hk]; simp)] at hr
      injection hr with e1 e2
      injection e2 with e2 e3
      subst e1
      subst e2
      subst e3
      go_enter Try.func47, Try.ntmps47
      go_wp2_with (first | (go_at_call 45; (with_reducible refine (t_look P G t dir s _ _ HL.out _ h h0 hs).mono ?_); rintro e w' ⟨rfl, rfl⟩) | (go_at_call 43; (with_reducible refine (t_kind P G t ino _ h i1 i2).mono ?_); rintro e w' ⟨rfl, rfl⟩) | (go_at_call 53; refine (t_dels P G t dir s HS.out _ h b1 b2 hsl).mono ?_; rintro e w3 ⟨rfl, ht3, hg3⟩; have HT3 := Lib.hid ht3; have HG3 := Lib.hid hg3; clear ht3 hg3) | (go_at_call 51; refine (t_free P G _ ino _ HT3.out i1 (by rw [delS_length]; exact i2)).mono ?_; rintro e w4 ⟨rfl, ht4, hg4⟩; have HT4 := Lib.hid ht4; have HG4 := Lib.hid (grown_trans HG3.out hg4); clear ht4 hg4))
      go_ret2
      exact ⟨ret2_i _ _ rfl rfl, HT4.out, HG4.out⟩
set_option maxHeartbeats 4000000 in
theorem t_rmdir (P G : Nat) (t : Tr) (dir : Int) (s : ByteArray) (w : World) (h : TreeAt w P G t) (h0 : 0 ≤ dir) (hs : s.size ≤ maxLen) (hsl : Small t) (hge : GoodE t) (r e0 : Int) (t' : Tr) (hr : rmdirR t dir s = (r, e0, t')) :
    Calls Try.prog 46 #[.pointer (some ⟨P, 0, none⟩), .int .u32 dir, .string s] w fun e w' => e = .returned (.tuple #[.int .u32 r, .int .i64 e0]) ∧ TreeAt w' P G t' ∧ w.grownBy w' (some G) := by
  unfold rmdirR at hr
  obtain ⟨ino, e, hl⟩ : ∃ ino e, lookR t dir s = (ino, e) := ⟨_, _, rfl⟩
  rw [hl] at hr
  simp only [] at hr
  have HL := Lib.hid hl
  by_cases he : e ≠ 0
  · rw [if_pos he] at hr
    have hne : (e != 0) = true := by simpa using he
    clear he hl
    injection hr with e1 e2
    injection e2 with e2 e3
    subst e1
    subst e2
    subst e3
    go_enter Try.func46, Try.ntmps46
    go_wp2_with (first | (go_at_call 45; (with_reducible refine (t_look P G t dir s _ _ HL.out _ h h0 hs).mono ?_); rintro e w' ⟨rfl, rfl⟩))
    go_ret2
    exact ⟨ret2_i _ _ rfl rfl, h, grown_of_below (Below.refl _ _)⟩
  · rw [if_neg he] at hr
    obtain rfl : e = 0 := by omega
    obtain ⟨i1, i2⟩ := look_good hge hl
    obtain ⟨hd, k, x, hp, _, _⟩ := look_ok hl
    obtain ⟨_, ht, _⟩ := dirE_zero hd
    obtain ⟨b1, b2, _⟩ := thereB_bounds ht
    have HS : Hid ((place (ndAt t dir).l s).isSome = true) := by show _ = _; rw [hp]; rfl
    clear he hl hd hp ht
    cases hk : ((ndAt t ino).kind != 2) with
    | true =>
      rw [if_pos hk] at hr
      injection hr with e1 e2
      injection e2 with e2 e3
      subst e1
      subst e2
      subst e3
      go_enter Try.func46, Try.ntmps46
      go_wp2_with (first | (go_at_call 45; (with_reducible refine (t_look P G t dir s _ _ HL.out _ h h0 hs).mono ?_); rintro e w' ⟨rfl, rfl⟩) | (go_at_call 43; (with_reducible refine (t_kind P G t ino _ h i1 i2).mono ?_); rintro e w' ⟨rfl, rfl⟩))
      go_ret2
      exact ⟨ret2_i _ _ rfl rfl, h, grown_of_below (Below.refl _ _)⟩
    | false =>
      rw [if_neg (by rw [hk]; simp)] at hr
      have hsm := h.small
      obtain ⟨c, hc1, hc2, hc⟩ := h.cell0
      unfold maxLen at hc2
      obtain ⟨_, ⟨v, g1, hv1⟩, _⟩ := h.get (h.idx i1 i2)
      obtain ⟨A1, c1, rfl, _, hc3, _⟩ := hv1.get
      have hll : (nd t (ino.toNat - 1)).l.length ≤ 100000 := hsl.at_ i1 i2
      have hd : (ndAt t ino).l.length = (nd t (ino.toNat - 1)).l.length := rfl
      rw [hd] at hr
      clear hd hv1
      by_cases hz : 0 < (nd t (ino.toNat - 1)).l.length
      · rw [if_pos hz] at hr
        injection hr with e1 e2
        injection e2 with e2 e3
        subst e1
        subst e2
        subst e3
        go_enter Try.func46, Try.ntmps46
        go_wp2_with (first | (go_at_call 45; (with_reducible refine (t_look P G t dir s _ _ HL.out _ h h0 hs).mono ?_); rintro e w' ⟨rfl, rfl⟩) | (go_at_call 43; (with_reducible refine (t_kind P G t ino _ h i1 i2).mono ?_); rintro e w' ⟨rfl, rfl⟩))
        go_ret2
        exact ⟨ret2_i _ _ rfl rfl, h, grown_of_below (Below.refl _ _)⟩
      · rw [if_neg hz] at hr
        injection hr with e1 e2
        injection e2 with e2 e3
        subst e1
        subst e2
        subst e3
        go_enter Try.func46, Try.ntmps46
        go_wp2_with (first | (go_at_call 45; (with_reducible refine (t_look P G t dir s _ _ HL.out _ h h0 hs).mono ?_); rintro e w' ⟨rfl, rfl⟩) | (go_at_call 43; (with_reducible refine (t_kind P G t ino _ h i1 i2).mono ?_); rintro e w' ⟨rfl, rfl⟩) | (go_at_call 53; refine (t_dels P G t dir s HS.out _ h b1 b2 hsl).mono ?_; rintro e w3 ⟨rfl, ht3, hg3⟩; have HT3 := Lib.hid ht3; have HG3 := Lib.hid hg3; clear ht3 hg3) | (go_at_call 51; refine (t_free P G _ ino _ HT3.out i1 (by rw [delS_length]; exact i2)).mono ?_; rintro e w4 ⟨rfl, ht4, hg4⟩; have HT4 := Lib.hid ht4; have HG4 := Lib.hid (grown_trans HG3.out hg4); clear ht4 hg4))
        go_ret2
        exact ⟨ret2_i _ _ rfl rfl, HT4.out, HG4.out⟩
end Go.Proofs.Ytnnidgjfjgkdpaa
