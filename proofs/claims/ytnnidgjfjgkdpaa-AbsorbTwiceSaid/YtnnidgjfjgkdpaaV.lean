/- Trees as the document has them: names, what is told of an entry. -/
import Derived.Test.YtnnidgjfjgkdpaaT
namespace Go.Proofs.Ytnnidgjfjgkdpaa
open Go.RowKit

/-- May a text be a name? -/
def plainTo (s : ByteArray) (k : Nat) : Bool := (s.data.toList.take k).all fun c => c != 47 && c != 0
def nameB (s : ByteArray) : Bool := decide (1 ≤ s.size) && decide (s.size ≤ 27) && !(s.toList == [46]) && !(s.toList == [46, 46]) && plainTo s s.size
theorem plainTo_succ {s : ByteArray} {k : Nat} (hk : k < s.size) : plainTo s (k + 1) = (plainTo s k && (s[k] != 47 && s[k] != 0)) := by
  unfold plainTo
  rw [List.take_add_one, List.getElem?_eq_getElem (by simpa using hk), List.all_append]
  simp; rfl
theorem plainTo_bad {s : ByteArray} : ∀ {k m : Nat}, k ≤ m → plainTo s k = false → plainTo s m = false := by
  intro k m hkm h
  unfold plainTo at *
  rw [List.all_eq_false] at *
  obtain ⟨x, hx, hp⟩ := h
  exact ⟨x, List.take_subset_take_left _ hkm hx, hp⟩
theorem byte_eq (c : UInt8) (n : Nat) (hn : n < 256) : ((c.toNat : Int) == (n : Int)) = (c == UInt8.ofNat n) := by
  rw [Bool.eq_iff_iff, beq_iff_eq, beq_iff_eq]
  constructor
  · intro h
    apply UInt8.toNat_inj.1
    rw [UInt8.toNat_ofNat_of_lt' (by simpa using hn)]
    omega
  · intro h
    subst h
    rw [UInt8.toNat_ofNat_of_lt' (by simpa using hn)]
set_option maxHeartbeats 4000000 in
theorem t_name (s : ByteArray) (b : Bool) (hb : nameB s = b) (w : World) (hs : s.size ≤ maxLen) :
    Calls Try.prog 24 #[.string s] w fun e w' => e = .returned (.bool b) ∧ w = w' := by
  unfold maxLen at hs
  have HB := Lib.hid hb
  clear hb
  by_cases h1 : 1 ≤ s.size
  · by_cases h2 : s.size ≤ 27
    · by_cases h3 : (s.toList == [46]) = true
      · have HF : Hid (false = b) := by show _ = _; rw [← HB.out]; unfold nameB; simp [h3]
        go_enter Try.func24, Try.ntmps24
        go_wp2
        go_ret
        exact ⟨ret_bool HF.out, rfl⟩
      · have h3' : (s.toList == [46]) = false := by simpa using h3
        clear h3
        by_cases h4 : (s.toList == [46, 46]) = true
        · have HF : Hid (false = b) := by show _ = _; rw [← HB.out]; unfold nameB; simp [h4]
          go_enter Try.func24, Try.ntmps24
          go_wp2
          go_ret
          exact ⟨ret_bool HF.out, rfl⟩
        · have h4' : (s.toList == [46, 46]) = false := by simpa using h4
          have HP : Hid (plainTo s s.size = b) := by show _ = _; rw [← HB.out]; unfold nameB; rw [h3', h4']; simp [h1, h2]
          clear h4
          go_enter Try.func24, Try.ntmps24
          go_wp2
          go_loop [3] (fun i => ∃ k : Nat, k ≤ s.size ∧ i = .int .i64 k ∧ Hid (plainTo s k = true)) (fun i => s.size + 1 - (intOf i).toNat)
          case atStart => exact ⟨0, by omega, rfl, rfl⟩
          case round =>
            obtain ⟨k, hk, rfl, hp⟩ := hrel
            by_cases hkn : k < s.size
            · have hsu := plainTo_succ hkn
              have e47 := byte_eq s[k] 47 (by omega)
              have e0 := byte_eq s[k] 0 (by omega)
              by_cases hq : (s[k] == 47) = true
              · have q1 : ((s[k].toNat : Int) == 47) = true := e47.trans hq
                have HF : Hid (false = b) := by
                  show _ = _
                  rw [← HP.out, plainTo_bad (k := k + 1) (by omega) (by rw [hsu, hp.out]; simp [bne, hq])]
                clear e47 e0 hq hsu
                go_wp2
                go_ret
                exact ⟨ret_bool HF.out, rfl⟩
              · have q1 : ((s[k].toNat : Int) == 47) = false := e47.trans (by simpa using hq)
                by_cases hz : (s[k] == 0) = true
                · have q2 : ((s[k].toNat : Int) == 0) = true := e0.trans hz
                  have HF : Hid (false = b) := by
                    show _ = _
                    rw [← HP.out, plainTo_bad (k := k + 1) (by omega) (by rw [hsu, hp.out]; simp [bne, hz])]
                  clear e47 e0 hq hz hsu
                  go_wp2
                  go_ret
                  exact ⟨ret_bool HF.out, rfl⟩
                · have q2 : ((s[k].toNat : Int) == 0) = false := e0.trans (by simpa using hz)
                  have HQ : Hid (plainTo s (k + 1) = true) := by
                    show _ = _
                    rw [hsu, hp.out]
                    have a1 : (s[k] == 47) = false := by simpa using hq
                    have a2 : (s[k] == 0) = false := by simpa using hz
                    simp [bne, a1, a2]
                  clear e47 e0 hq hz hsu
                  go_wp2
                  go_round
                  case rel => exact ⟨k + 1, by omega, by go_num, HQ⟩
                  case measure => simp [intOf]; omega
            · have HF : Hid (true = b) := by
                show _ = _
                rw [← HP.out, show s.size = k by omega]; exact hp.out.symm
              go_wp2
              go_ret
              exact ⟨ret_bool HF.out, rfl⟩
    · have HF : Hid (false = b) := by show _ = _; rw [← HB.out]; unfold nameB; simp [h2]
      go_enter Try.func24, Try.ntmps24
      go_wp2
      go_ret
      exact ⟨ret_bool HF.out, rfl⟩
  · have HF : Hid (false = b) := by show _ = _; rw [← HB.out]; unfold nameB; simp [h1]
    go_enter Try.func24, Try.ntmps24
    go_wp2
    go_ret
    exact ⟨ret_bool HF.out, rfl⟩

/-- What is said of a directory and a name. -/
def dirE (t : Tr) (ino : Int) (s : ByteArray) : Int := if nameB s = false then 2 else if thereB t ino = false then 3 else if ((ndAt t ino).kind != 2) = true then 180 else 0
theorem thereB_bounds {t : Tr} {ino : Int} (h : thereB t ino = true) : 1 ≤ ino ∧ ino ≤ t.length ∧ (ndAt t ino).kind ≠ 0 := by unfold thereB at h; simpa using h
set_option maxHeartbeats 2000000 in
theorem t_dir (P G : Nat) (t : Tr) (ino : Int) (s : ByteArray) (r : Int) (hr : dirE t ino s = r) (w : World) (h : TreeAt w P G t) (h0 : 0 ≤ ino) (hs : s.size ≤ maxLen) :
    Calls Try.prog 38 #[.pointer (some ⟨P, 0, none⟩), .int .u32 ino, .string s] w fun e w' => e = .returned (.int .i64 r) ∧ w = w' := by
  cases hn : nameB s with
  | false =>
    have HR : Hid (2 = r) := by show _ = _; rw [← hr]; unfold dirE; rw [if_pos hn]
    have HN := Lib.hid hn
    clear hn hr
    go_enter Try.func38, Try.ntmps38
    go_wp2_with (first | (go_at_call 24; refine (t_name s _ HN.out _ hs).mono ?_; rintro e w' ⟨rfl, rfl⟩))
    go_ret
    exact ⟨ret_i64 HR.out, rfl⟩
  | true =>
    cases ht : thereB t ino with
    | false =>
      have HR : Hid (3 = r) := by show _ = _; rw [← hr]; unfold dirE; rw [if_neg (by rw [hn]; simp), if_pos ht]
      have HN := Lib.hid hn
      have HT := Lib.hid ht
      clear hn hr ht
      go_enter Try.func38, Try.ntmps38
      go_wp2_with (first | (go_at_call 24; refine (t_name s _ HN.out _ hs).mono ?_; rintro e w' ⟨rfl, rfl⟩) | (go_at_call 40; refine (t_there P G t ino _ HT.out _ h h0).mono ?_; rintro e w' ⟨rfl, rfl⟩))
      go_ret
      exact ⟨ret_i64 HR.out, rfl⟩
    | true =>
      obtain ⟨b1, b2, _⟩ := thereB_bounds ht
      cases hk : ((ndAt t ino).kind != 2) with
      | true =>
        have HR : Hid (180 = r) := by show _ = _; rw [← hr]; unfold dirE; rw [if_neg (by rw [hn]; simp), if_neg (by rw [ht]; simp), if_pos hk]
        have HN := Lib.hid hn
        have HT := Lib.hid ht
        clear hn hr ht
        go_enter Try.func38, Try.ntmps38
        go_wp2_with (first | (go_at_call 24; refine (t_name s _ HN.out _ hs).mono ?_; rintro e w' ⟨rfl, rfl⟩) | (go_at_call 40; refine (t_there P G t ino _ HT.out _ h h0).mono ?_; rintro e w' ⟨rfl, rfl⟩) | (go_at_call 43; refine (t_kind P G t ino _ h b1 b2).mono ?_; rintro e w' ⟨rfl, rfl⟩))
        go_ret
        exact ⟨ret_i64 HR.out, rfl⟩
      | false =>
        have HR : Hid (0 = r) := by show _ = _; rw [← hr]; unfold dirE; rw [if_neg (by rw [hn]; simp), if_neg (by rw [ht]; simp), if_neg (by rw [hk]; simp)]
        have HN := Lib.hid hn
        have HT := Lib.hid ht
        clear hn hr ht
        go_enter Try.func38, Try.ntmps38
        go_wp2_with (first | (go_at_call 24; refine (t_name s _ HN.out _ hs).mono ?_; rintro e w' ⟨rfl, rfl⟩) | (go_at_call 40; refine (t_there P G t ino _ HT.out _ h h0).mono ?_; rintro e w' ⟨rfl, rfl⟩) | (go_at_call 43; refine (t_kind P G t ino _ h b1 b2).mono ?_; rintro e w' ⟨rfl, rfl⟩))
        go_ret
        exact ⟨ret_i64 HR.out, rfl⟩

/-- The entry's inode, and what is answered. -/
def lookR (t : Tr) (ino : Int) (s : ByteArray) : Int × Int :=
  if dirE t ino s ≠ 0 then (0, dirE t ino s) else match place (ndAt t ino).l s with
    | none => (0, 3)
    | some k => (((ndAt t ino).l[k]?.map Ent.ino).getD 0, 0)
theorem dirE_zero {t : Tr} {ino : Int} {s : ByteArray} (h : dirE t ino s = 0) : nameB s = true ∧ thereB t ino = true ∧ (ndAt t ino).kind = 2 := by
  unfold dirE at h
  by_cases h1 : nameB s = false
  · rw [if_pos h1] at h; omega
  · rw [if_neg h1] at h
    by_cases h2 : thereB t ino = false
    · rw [if_pos h2] at h; omega
    · rw [if_neg h2] at h
      by_cases h3 : ((ndAt t ino).kind != 2) = true
      · rw [if_pos h3] at h; omega
      · exact ⟨by simpa using h1, by simpa using h2, by simpa using h3⟩
theorem place_get {l : List Ent} {s : ByteArray} {k : Nat} (h : place l s = some k) : ∃ e, l[k]? = some e ∧ isN e.name s = true := by
  unfold place at h
  rw [List.findIdx?_eq_some_iff_getElem] at h
  obtain ⟨hk, hp, _⟩ := h
  exact ⟨_, List.getElem?_eq_getElem hk, hp⟩
theorem ret2_i (k k' : IntKind) {a b c d : Int} (h : a = b) (h' : c = d) : Ending.returned (.tuple #[.int k a, .int k' c]) = .returned (.tuple #[.int k b, .int k' d]) := by rw [h, h']
set_option maxHeartbeats 2000000 in
theorem t_look (P G : Nat) (t : Tr) (ino : Int) (s : ByteArray) (r e0 : Int) (hr : lookR t ino s = (r, e0)) (w : World) (h : TreeAt w P G t) (h0 : 0 ≤ ino) (hs : s.size ≤ maxLen) :
    Calls Try.prog 45 #[.pointer (some ⟨P, 0, none⟩), .int .u32 ino, .string s] w fun e w' => e = .returned (.tuple #[.int .u32 r, .int .i64 e0]) ∧ w = w' := by
  by_cases hd : dirE t ino s = 0
  · obtain ⟨_, ht, _⟩ := dirE_zero hd
    obtain ⟨b1, b2, _⟩ := thereB_bounds ht
    have hsm := h.small
    obtain ⟨c, hc1, hc2, hc⟩ := h.cell0
    obtain ⟨_, ⟨v, g1, hv⟩, _⟩ := h.get (h.idx b1 b2)
    obtain ⟨A, c', rfl, hcl, hcm, hread⟩ := hv.get
    unfold maxLen at hc2 hcm
    have HD := Lib.hid hd
    cases hp : place (ndAt t ino).l s with
    | none =>
      have HR : Hid (0 = r ∧ 3 = e0) := by
        have : lookR t ino s = (0, 3) := by unfold lookR; rw [if_neg (by simpa using hd), hp]
        rw [this] at hr; injection hr with a b; exact ⟨a, b⟩
      have HP : Hid (placeI (ndAt t ino).l s = -1) := by show _ = _; unfold placeI; rw [hp]
      clear hr hp hd ht hread hv
      go_enter Try.func45, Try.ntmps45
      go_wp2_with (first | (go_at_call 38; refine (t_dir P G t ino s _ HD.out _ h h0 hs).mono ?_; rintro e w' ⟨rfl, rfl⟩) | (go_at_call 39; refine (t_at P G t ino s _ HP.out _ h b1 b2).mono ?_; rintro e w' ⟨rfl, rfl⟩))
      go_ret2
      exact ⟨ret2_i _ _ HR.out.1 HR.out.2, rfl⟩
    | some k =>
      obtain ⟨x, hx, _⟩ := place_get hp
      have HR : Hid (x.ino = r ∧ 0 = e0) := by
        have : lookR t ino s = (x.ino, 0) := by unfold lookR; rw [if_neg (by simpa using hd), hp]; simp [hx]
        rw [this] at hr; injection hr with a b; exact ⟨a, b⟩
      have HP : Hid (placeI (ndAt t ino).l s = (k : Nat)) := by show _ = _; unfold placeI; rw [hp]
      obtain ⟨bb, rfl, e1, e2⟩ := hread k x hx
      have hkl : k < (nd t (ino.toNat - 1)).l.length := (List.getElem?_eq_some_iff.1 hx).1
      clear hr hp hd ht hread hv hx
      go_enter Try.func45, Try.ntmps45
      go_wp2_with (first | (go_at_call 38; refine (t_dir P G t ino s _ HD.out _ h h0 hs).mono ?_; rintro e w' ⟨rfl, rfl⟩) | (go_at_call 39; refine (t_at P G t ino s _ HP.out _ h b1 b2).mono ?_; rintro e w' ⟨rfl, rfl⟩))
      go_ret2
      exact ⟨ret2_i _ _ HR.out.1 HR.out.2, rfl⟩
  · have HR : Hid (0 = r ∧ dirE t ino s = e0) := by
      have : lookR t ino s = (0, dirE t ino s) := by unfold lookR; rw [if_pos (by simpa using hd)]
      rw [this] at hr; injection hr with a b; exact ⟨a, b⟩
    obtain ⟨d, hdd⟩ : ∃ d, dirE t ino s = d := ⟨_, rfl⟩
    have HD := Lib.hid hdd
    rw [hdd] at hd HR
    have hne : (d != 0) = true := by simpa using hd
    clear hr hdd hd
    go_enter Try.func45, Try.ntmps45
    go_wp2_with (first | (go_at_call 38; refine (t_dir P G t ino s _ HD.out _ h h0 hs).mono ?_; rintro e w' ⟨rfl, rfl⟩))
    go_ret2
    exact ⟨ret2_i _ _ HR.out.1 HR.out.2, rfl⟩
end Go.Proofs.Ytnnidgjfjgkdpaa
