/- Records as the document has them: a record is played. -/
import Derived.Test.YtnnidgjfjgkdpaaN4
import Derived.Test.YtnnidgjfjgkdpaaM5
import Derived.Test.YtnnidgjfjgkdpaaM6
namespace Go.Proofs.Ytnnidgjfjgkdpaa
open Go.RowKit

def holdR (t : Tr) (ino : Int) : Int × Tr := if fileE t ino ≠ 0 then (fileE t ino, t) else (0, setNd t ino { ndAt t ino with held := (ndAt t ino).held + 1 })
/-- What a record's play is answered, and the tree behind it. -/
noncomputable def playR (t : Tr) (r : R) : Int × Tr :=
  if r.act = 1 then (if (makeR t r.dir r.name r.kind r.ino).1 = 0 ∧ r.kind = 1 then holdR (makeR t r.dir r.name r.kind r.ino).2 r.ino else makeR t r.dir r.name r.kind r.ino)
  else if r.act = 2 then linkR t r.dir r.name r.ino
  else if r.act = 3 then unlinkP t r
  else if r.act = 4 then renameP t r
  else if r.act = 5 then resizeR t r.ino r.size
  else if r.act = 6 then (if (writeR t r.ino r.page r.data).1 ≠ 0 then writeR t r.ino r.page r.data else resizeR (writeR t r.ino r.page r.data).2 r.ino r.size)
  else if thereB t r.ino = false then (3, t) else if 0 < linksV t r.ino then (2, t) else dropR t r.ino

theorem writeS_size (s : ByteArray) (p : Nat) (d : ByteArray) : (writeS s p d).size = max s.size (p * 64 + d.size) := by
  unfold writeS
  rw [ByteArray.size_append, ByteArray.size_append, ByteArray.size_extract, ByteArray.size_extract, longS_size]
  omega
theorem writeR_data {t : Tr} {ino page : Int} {d : ByteArray} {t1 : Tr} (h : writeR t ino page d = (0, t1)) (hds : (ndAt t ino).data.size ≤ 100000) : thereB t ino = true ∧ t1.length = t.length ∧ (ndAt t1 ino).data.size ≤ 100000 := by
  unfold writeR at h
  by_cases hf : fileE t ino ≠ 0
  · rw [if_pos hf] at h; injection h with h _; exact absurd h hf
  · rw [if_neg hf] at h
    by_cases hp : page < 0 ∨ 36 ≤ page ∨ d.size < 1 ∨ 64 < d.size
    · rw [if_pos hp] at h; injection h with h _; omega
    · rw [if_neg hp] at h
      injection h with _ h
      subst h
      have hth := (fileE_zero (by omega : fileE t ino = 0)).1
      obtain ⟨b1, b2, _⟩ := thereB_bounds hth
      refine ⟨hth, setNd_length _ _ _, ?_⟩
      rw [ndAt_set_self _ b1 b2]
      show (writeS _ _ _).size ≤ _
      rw [writeS_size]; omega
theorem made_at {t : Tr} {dir : Int} {s : ByteArray} {kind ino : Int} (h1 : 1 ≤ dir) (h2 : dir ≤ t.length) (i1 : 1 ≤ ino) (i2 : ino ≤ t.length) (hne : dir ≠ ino) : ndAt (made t dir s kind ino) ino = { noNd with kind := kind } := by
  unfold made
  rw [ndAt_set_ne _ h1 i1 hne, ndAt_set_self _ i1 i2]
theorem make_zero {t : Tr} {dir : Int} {s : ByteArray} {kind ino : Int} {t1 : Tr} (h : makeR t dir s kind ino = (0, t1)) : t1 = made t dir s kind ino ∧ nameB s = true ∧ (kind = 1 ∨ kind = 2) ∧ 1 ≤ ino ∧ ino ≤ t.length ∧ dirE t dir s = 0 ∧ place (ndAt t dir).l s = none ∧ thereB t ino = false := by
  unfold makeR at h
  by_cases hb : nameB s = false ∨ (kind ≠ 1 ∧ kind ≠ 2) ∨ ino < 1 ∨ (t.length : Int) < ino
  · rw [if_pos hb] at h; injection h with h _; omega
  · rw [if_neg hb] at h
    by_cases hd : dirE t dir s ≠ 0
    · rw [if_pos hd] at h; injection h with h _; exact absurd h hd
    · rw [if_neg hd] at h
      by_cases hh : (place (ndAt t dir).l s).isSome = true ∨ thereB t ino = true
      · rw [if_pos hh] at h; injection h with h _; omega
      · rw [if_neg hh] at h
        injection h with _ h
        refine ⟨h.symm, ?_, ?_, ?_, ?_, by omega, ?_, ?_⟩
        · cases hn : nameB s with
          | true => rfl
          | false => exact absurd (.inl hn) hb
        · by_cases k1 : kind = 1
          · exact .inl k1
          · by_cases k2 : kind = 2
            · exact .inr k2
            · exact absurd (.inr (.inl ⟨k1, k2⟩)) hb
        · by_cases hi : ino < 1
          · exact absurd (.inr (.inr (.inl hi))) hb
          · omega
        · by_cases hi : (t.length : Int) < ino
          · exact absurd (.inr (.inr (.inr hi))) hb
          · omega
        · cases hp : place (ndAt t dir).l s with
          | none => rfl
          | some k => exact absurd (.inl (by rw [hp]; rfl)) hh
        · cases hnt : thereB t ino with
          | false => rfl
          | true => exact absurd (.inr hnt) hh

set_option maxRecDepth 100000 in
set_option maxHeartbeats 8000000 in
theorem t_play1 (P G : Nat) (t : Tr) (r : R) (w : World) (h : TreeAt w P G t) (hf : Fine t) (hok : r.Ok) (hfit : r.Fit) (ha : r.act = 1) (e0 : Int) (t' : Tr) (hr : (if (makeR t r.dir r.name r.kind r.ino).1 = 0 ∧ r.kind = 1 then holdR (makeR t r.dir r.name r.kind r.ino).2 r.ino else makeR t r.dir r.name r.kind r.ino) = (e0, t')) :
    Calls Try.prog 17 #[.pointer (some ⟨P, 0, none⟩), r.val] w fun e w' => e = .returned (.int .i64 e0) ∧ TreeAt w' P G t' ∧ w.grownBy w' (some G) := by
  unfold R.val
  obtain ⟨st, act, dir, name, ino, kind, dir2, name2, old, size, page, data⟩ := r
  have hs : name.size ≤ maxLen := by have := hok.name; simp only [] at this; unfold maxLen; omega
  have hs3 : data.size ≤ maxLen := by have := hok.data; simp only [] at this; unfold maxLen; omega
  have h0 : 0 ≤ dir := hok.dir.1
  have i0 : 0 ≤ ino := hok.ino.1
  have z0 : 0 ≤ size := hfit.size.1
  have z1 : size ≤ 4294967295 := hfit.size.2
  have hbG : w.heap.size ≠ G := by have := h.ltG; omega
  simp only [] at hr ha ⊢
  subst ha
  obtain ⟨em, tm, hm⟩ : ∃ em tm, makeR t dir name kind ino = (em, tm) := ⟨_, _, rfl⟩
  rw [hm] at hr
  simp only [] at hr
  have HM := Lib.hid hm
  cases he : (em == 0) with
  | false =>
    have he' : em ≠ 0 := by simpa using he
    rw [if_neg (fun hh => he' hh.1)] at hr
    injection hr with e1 e2
    subst e1
    subst e2
    clear he' hm
    go_enter Try.func17, Try.ntmps17
    go_wp2_with (first | (go_at_call 25; refine (t_make P G t dir name kind ino _ (h.alloc _) h0 hs hf.small _ _ HM.out).mono ?_; rintro e w1 ⟨rfl, ht1, hg1⟩; have HT1 := Lib.hid ht1; have HG1 := Lib.hid (grown_trans (grown_of_below ((Below.refl _ _).alloc (Nat.le_refl _) _)) hg1); have c4 : w1.cell? ⟨w.heap.size, 4, none⟩ = some (.int .u32 ino) := ((grown_cellat hg1 (by simp) hbG 4).trans (by simp [go_sem])); have c5 : w1.cell? ⟨w.heap.size, 5, none⟩ = some (.int .u8 kind) := ((grown_cellat hg1 (by simp) hbG 5).trans (by simp [go_sem])); clear ht1 hg1))
    go_ret
    exact ⟨ret_i64 rfl, HT1.out, HG1.out⟩
  | true =>
    have he' : em = 0 := by simpa using he
    cases hk : (kind == 1) with
    | false =>
      have hk' : kind ≠ 1 := by simpa using hk
      rw [if_neg (fun hh => hk' hh.2)] at hr
      injection hr with e1 e2
      subst e1
      subst e2
      clear he' hk' hm
      go_enter Try.func17, Try.ntmps17
      go_wp2_with (first | (go_at_call 25; refine (t_make P G t dir name kind ino _ (h.alloc _) h0 hs hf.small _ _ HM.out).mono ?_; rintro e w1 ⟨rfl, ht1, hg1⟩; have HT1 := Lib.hid ht1; have HG1 := Lib.hid (grown_trans (grown_of_below ((Below.refl _ _).alloc (Nat.le_refl _) _)) hg1); have c4 : w1.cell? ⟨w.heap.size, 4, none⟩ = some (.int .u32 ino) := ((grown_cellat hg1 (by simp) hbG 4).trans (by simp [go_sem])); have c5 : w1.cell? ⟨w.heap.size, 5, none⟩ = some (.int .u8 kind) := ((grown_cellat hg1 (by simp) hbG 5).trans (by simp [go_sem])); clear ht1 hg1))
      go_ret
      exact ⟨ret_i64 rfl, HT1.out, HG1.out⟩
    | true =>
      have hk' : kind = 1 := by simpa using hk
      rw [if_pos ⟨he', hk'⟩] at hr
      subst he'
      obtain ⟨rfl, _, _, i1, i2, hd, _, hnt⟩ := make_zero hm
      obtain ⟨_, htd, _⟩ := dirE_zero hd
      obtain ⟨b1, b2, _⟩ := thereB_bounds htd
      have hne : dir ≠ ino := fun hh => by subst hh; rw [htd] at hnt; cases hnt
      have hat := made_at (s := name) (kind := kind) b1 b2 i1 i2 hne
      have hlen : (made t dir name kind ino).length = t.length := by unfold made; rw [setNd_length, setNd_length]
      have HF1 : Hid (fileE (made t dir name kind ino) ino = 0) := by
        show _ = _
        unfold fileE thereB
        rw [hat, hlen, hk']
        simp [i1, i2]
      have HH1 : Hid (0 ≤ (ndAt (made t dir name kind ino) ino).held ∧ (ndAt (made t dir name kind ino) ino).held ≤ 1000000) := by
        show _ ∧ _
        rw [hat]; simp [noNd]
      unfold holdR at hr
      rw [if_neg (by rw [HF1.out]; simp)] at hr
      injection hr with e1 e2
      subst e1
      subst e2
      obtain ⟨tm, htm⟩ : ∃ tm, made t dir name kind ino = tm := ⟨_, rfl⟩
      rw [htm] at HF1 HH1 HM ⊢
      clear hm hd hnt htd hat hlen hk' htm
      go_enter Try.func17, Try.ntmps17
      go_wp2_with (first | (go_at_call 25; refine (t_make P G t dir name kind ino _ (h.alloc _) h0 hs hf.small _ _ HM.out).mono ?_; rintro e w1 ⟨rfl, ht1, hg1⟩; have HT1 := Lib.hid ht1; have HG1 := Lib.hid (grown_trans (grown_of_below ((Below.refl _ _).alloc (Nat.le_refl _) _)) hg1); have c4 : w1.cell? ⟨w.heap.size, 4, none⟩ = some (.int .u32 ino) := ((grown_cellat hg1 (by simp) hbG 4).trans (by simp [go_sem])); have c5 : w1.cell? ⟨w.heap.size, 5, none⟩ = some (.int .u8 kind) := ((grown_cellat hg1 (by simp) hbG 5).trans (by simp [go_sem])); clear ht1 hg1) | (go_at_call 26; refine (t_hold_ok P G tm ino _ HT1.out i0 HF1.out HH1.out).mono ?_; rintro e w2 ⟨rfl, ht2, hg2⟩; have HT2 := Lib.hid ht2; have HG2 := Lib.hid (grown_trans HG1.out hg2); clear ht2 hg2))
      go_ret
      exact ⟨ret_i64 rfl, HT2.out, HG2.out⟩
set_option maxRecDepth 100000 in
set_option maxHeartbeats 8000000 in
theorem t_play2 (P G : Nat) (t : Tr) (r : R) (w : World) (h : TreeAt w P G t) (hf : Fine t) (hok : r.Ok) (hfit : r.Fit) (ha : r.act = 2) (e0 : Int) (t' : Tr) (hr : linkR t r.dir r.name r.ino = (e0, t')) :
    Calls Try.prog 17 #[.pointer (some ⟨P, 0, none⟩), r.val] w fun e w' => e = .returned (.int .i64 e0) ∧ TreeAt w' P G t' ∧ w.grownBy w' (some G) := by
  unfold R.val
  obtain ⟨st, act, dir, name, ino, kind, dir2, name2, old, size, page, data⟩ := r
  have hs : name.size ≤ maxLen := by have := hok.name; simp only [] at this; unfold maxLen; omega
  have hs3 : data.size ≤ maxLen := by have := hok.data; simp only [] at this; unfold maxLen; omega
  have h0 : 0 ≤ dir := hok.dir.1
  have i0 : 0 ≤ ino := hok.ino.1
  have z0 : 0 ≤ size := hfit.size.1
  have z1 : size ≤ 4294967295 := hfit.size.2
  have hbG : w.heap.size ≠ G := by have := h.ltG; omega
  simp only [] at hr ha ⊢
  subst ha
  have HR := Lib.hid hr
  clear hr
  go_enter Try.func17, Try.ntmps17
  go_wp2_with (first | (go_at_call 27; refine (t_link P G t dir name ino _ (h.alloc _) h0 i0 hs hf.small _ _ HR.out).mono ?_; rintro e w1 ⟨rfl, ht1, hg1⟩; have HT1 := Lib.hid ht1; have HG1 := Lib.hid (grown_trans (grown_of_below ((Below.refl _ _).alloc (Nat.le_refl _) _)) hg1); clear ht1 hg1))
  go_ret
  exact ⟨ret_i64 rfl, HT1.out, HG1.out⟩
set_option maxRecDepth 100000 in
set_option maxHeartbeats 8000000 in
theorem t_play3 (P G : Nat) (t : Tr) (r : R) (w : World) (h : TreeAt w P G t) (hf : Fine t) (hok : r.Ok) (hfit : r.Fit) (ha : r.act = 3) (e0 : Int) (t' : Tr) (hr : unlinkP t r = (e0, t')) :
    Calls Try.prog 17 #[.pointer (some ⟨P, 0, none⟩), r.val] w fun e w' => e = .returned (.int .i64 e0) ∧ TreeAt w' P G t' ∧ w.grownBy w' (some G) := by
  unfold R.val
  obtain ⟨st, act, dir, name, ino, kind, dir2, name2, old, size, page, data⟩ := r
  have hs : name.size ≤ maxLen := by have := hok.name; simp only [] at this; unfold maxLen; omega
  have hs3 : data.size ≤ maxLen := by have := hok.data; simp only [] at this; unfold maxLen; omega
  have h0 : 0 ≤ dir := hok.dir.1
  have i0 : 0 ≤ ino := hok.ino.1
  have z0 : 0 ≤ size := hfit.size.1
  have z1 : size ≤ 4294967295 := hfit.size.2
  have hbG : w.heap.size ≠ G := by have := h.ltG; omega
  simp only [] at hr ha ⊢
  subst ha
  have HR := Lib.hid hr
  clear hr
  go_enter Try.func17, Try.ntmps17
  go_wp2_with (first | (go_at_call 28; refine (t_unlinkP P G t (⟨st, 3, dir, name, ino, kind, dir2, name2, old, size, page, data⟩ : R) _ (h.alloc _) hf hok _ _ HR.out).mono ?_; rintro e w1 ⟨rfl, ht1, hg1⟩; have HT1 := Lib.hid ht1; have HG1 := Lib.hid (grown_trans (grown_of_below ((Below.refl _ _).alloc (Nat.le_refl _) _)) hg1); clear ht1 hg1))
  go_ret
  exact ⟨ret_i64 rfl, HT1.out, HG1.out⟩
set_option maxRecDepth 100000 in
set_option maxHeartbeats 8000000 in
theorem t_play4 (P G : Nat) (t : Tr) (r : R) (w : World) (h : TreeAt w P G t) (hf : Fine t) (hok : r.Ok) (hfit : r.Fit) (ha : r.act = 4) (e0 : Int) (t' : Tr) (hr : renameP t r = (e0, t')) :
    Calls Try.prog 17 #[.pointer (some ⟨P, 0, none⟩), r.val] w fun e w' => e = .returned (.int .i64 e0) ∧ TreeAt w' P G t' ∧ w.grownBy w' (some G) := by
  unfold R.val
  obtain ⟨st, act, dir, name, ino, kind, dir2, name2, old, size, page, data⟩ := r
  have hs : name.size ≤ maxLen := by have := hok.name; simp only [] at this; unfold maxLen; omega
  have hs3 : data.size ≤ maxLen := by have := hok.data; simp only [] at this; unfold maxLen; omega
  have h0 : 0 ≤ dir := hok.dir.1
  have i0 : 0 ≤ ino := hok.ino.1
  have z0 : 0 ≤ size := hfit.size.1
  have z1 : size ≤ 4294967295 := hfit.size.2
  have hbG : w.heap.size ≠ G := by have := h.ltG; omega
  simp only [] at hr ha ⊢
  subst ha
  have HR := Lib.hid hr
  clear hr
  go_enter Try.func17, Try.ntmps17
  go_wp2_with (first | (go_at_call 29; refine (t_renameP P G t (⟨st, 4, dir, name, ino, kind, dir2, name2, old, size, page, data⟩ : R) _ (h.alloc _) hf hok hfit _ _ HR.out).mono ?_; rintro e w1 ⟨rfl, ht1, hg1⟩; have HT1 := Lib.hid ht1; have HG1 := Lib.hid (grown_trans (grown_of_below ((Below.refl _ _).alloc (Nat.le_refl _) _)) hg1); clear ht1 hg1))
  go_ret
  exact ⟨ret_i64 rfl, HT1.out, HG1.out⟩
set_option maxRecDepth 100000 in
set_option maxHeartbeats 8000000 in
theorem t_play5 (P G : Nat) (t : Tr) (r : R) (w : World) (h : TreeAt w P G t) (hf : Fine t) (hok : r.Ok) (hfit : r.Fit) (ha : r.act = 5) (e0 : Int) (t' : Tr) (hr : resizeR t r.ino r.size = (e0, t')) :
    Calls Try.prog 17 #[.pointer (some ⟨P, 0, none⟩), r.val] w fun e w' => e = .returned (.int .i64 e0) ∧ TreeAt w' P G t' ∧ w.grownBy w' (some G) := by
  unfold R.val
  obtain ⟨st, act, dir, name, ino, kind, dir2, name2, old, size, page, data⟩ := r
  have hs : name.size ≤ maxLen := by have := hok.name; simp only [] at this; unfold maxLen; omega
  have hs3 : data.size ≤ maxLen := by have := hok.data; simp only [] at this; unfold maxLen; omega
  have h0 : 0 ≤ dir := hok.dir.1
  have i0 : 0 ≤ ino := hok.ino.1
  have z0 : 0 ≤ size := hfit.size.1
  have z1 : size ≤ 4294967295 := hfit.size.2
  have hbG : w.heap.size ≠ G := by have := h.ltG; omega
  simp only [] at hr ha ⊢
  subst ha
  have hds : (ndAt t ino).data.size ≤ 100000 := by
    by_cases hi : 1 ≤ ino ∧ ino ≤ t.length
    · exact hf.data _ (ndAt_mem hi.1 hi.2)
    · unfold ndAt nd
      rw [List.getD_eq_getElem?_getD]
      cases hx : t[ino.toNat - 1]? with
      | none => simp [noNd]
      | some x => exact hf.data x (List.mem_of_getElem? hx)
  have HR := Lib.hid hr
  clear hr
  go_enter Try.func17, Try.ntmps17
  go_wp2_with (first | (go_at_call 30; refine (t_resize P G t ino size _ (h.alloc _) i0 z0 z1 hds _ _ HR.out).mono ?_; rintro e w1 ⟨rfl, ht1, hg1⟩; have HT1 := Lib.hid ht1; have HG1 := Lib.hid (grown_trans (grown_of_below ((Below.refl _ _).alloc (Nat.le_refl _) _)) hg1); clear ht1 hg1))
  go_ret
  exact ⟨ret_i64 rfl, HT1.out, HG1.out⟩
set_option maxRecDepth 100000 in
set_option maxHeartbeats 8000000 in
theorem t_play6 (P G : Nat) (t : Tr) (r : R) (w : World) (h : TreeAt w P G t) (hf : Fine t) (hok : r.Ok) (hfit : r.Fit) (ha : r.act = 6) (e0 : Int) (t' : Tr) (hr : (if (writeR t r.ino r.page r.data).1 ≠ 0 then writeR t r.ino r.page r.data else resizeR (writeR t r.ino r.page r.data).2 r.ino r.size) = (e0, t')) :
    Calls Try.prog 17 #[.pointer (some ⟨P, 0, none⟩), r.val] w fun e w' => e = .returned (.int .i64 e0) ∧ TreeAt w' P G t' ∧ w.grownBy w' (some G) := by
  unfold R.val
  obtain ⟨st, act, dir, name, ino, kind, dir2, name2, old, size, page, data⟩ := r
  have hs : name.size ≤ maxLen := by have := hok.name; simp only [] at this; unfold maxLen; omega
  have hs3 : data.size ≤ maxLen := by have := hok.data; simp only [] at this; unfold maxLen; omega
  have h0 : 0 ≤ dir := hok.dir.1
  have i0 : 0 ≤ ino := hok.ino.1
  have z0 : 0 ≤ size := hfit.size.1
  have z1 : size ≤ 4294967295 := hfit.size.2
  have hbG : w.heap.size ≠ G := by have := h.ltG; omega
  simp only [] at hr ha ⊢
  subst ha
  have hds : (ndAt t ino).data.size ≤ 100000 := by
    by_cases hi : 1 ≤ ino ∧ ino ≤ t.length
    · exact hf.data _ (ndAt_mem hi.1 hi.2)
    · unfold ndAt nd
      rw [List.getD_eq_getElem?_getD]
      cases hx : t[ino.toNat - 1]? with
      | none => simp [noNd]
      | some x => exact hf.data x (List.mem_of_getElem? hx)
  obtain ⟨em, tm, hm⟩ : ∃ em tm, writeR t ino page data = (em, tm) := ⟨_, _, rfl⟩
  rw [hm] at hr
  simp only [] at hr
  have HM := Lib.hid hm
  by_cases he : em ≠ 0
  · rw [if_pos he] at hr
    have hne : (em != 0) = true := by simpa using he
    injection hr with e1 e2
    subst e1
    subst e2
    clear he hm
    go_enter Try.func17, Try.ntmps17
    go_wp2_with (first | (go_at_call 31; refine (t_write P G t ino page data _ (h.alloc _) i0 hs3 hds _ _ HM.out).mono ?_; rintro e w1 ⟨rfl, ht1, hg1⟩; have HT1 := Lib.hid ht1; have HG1 := Lib.hid (grown_trans (grown_of_below ((Below.refl _ _).alloc (Nat.le_refl _) _)) hg1); have c4 : w1.cell? ⟨w.heap.size, 4, none⟩ = some (.int .u32 ino) := ((grown_cellat hg1 (by simp) hbG 4).trans (by simp [go_sem])); have c9 : w1.cell? ⟨w.heap.size, 9, none⟩ = some (.int .u32 size) := ((grown_cellat hg1 (by simp) hbG 9).trans (by simp [go_sem])); clear ht1 hg1))
    go_ret
    exact ⟨ret_i64 rfl, HT1.out, HG1.out⟩
  · rw [if_neg he] at hr
    obtain rfl : em = 0 := by omega
    have HD1 := Lib.hid (writeR_data hm hds).2.2
    have HR := Lib.hid hr
    clear he hm hr
    go_enter Try.func17, Try.ntmps17
    go_wp2_with (first | (go_at_call 31; refine (t_write P G t ino page data _ (h.alloc _) i0 hs3 hds _ _ HM.out).mono ?_; rintro e w1 ⟨rfl, ht1, hg1⟩; have HT1 := Lib.hid ht1; have HG1 := Lib.hid (grown_trans (grown_of_below ((Below.refl _ _).alloc (Nat.le_refl _) _)) hg1); have c4 : w1.cell? ⟨w.heap.size, 4, none⟩ = some (.int .u32 ino) := ((grown_cellat hg1 (by simp) hbG 4).trans (by simp [go_sem])); have c9 : w1.cell? ⟨w.heap.size, 9, none⟩ = some (.int .u32 size) := ((grown_cellat hg1 (by simp) hbG 9).trans (by simp [go_sem])); clear ht1 hg1) | (go_at_call 30; refine (t_resize P G tm ino size _ HT1.out i0 z0 z1 HD1.out _ _ HR.out).mono ?_; rintro e w2 ⟨rfl, ht2, hg2⟩; have HT2 := Lib.hid ht2; have HG2 := Lib.hid (grown_trans HG1.out hg2); clear ht2 hg2))
    go_ret
    exact ⟨ret_i64 rfl, HT2.out, HG2.out⟩
set_option maxRecDepth 100000 in
set_option maxHeartbeats 8000000 in
theorem t_play7 (P G : Nat) (t : Tr) (r : R) (w : World) (h : TreeAt w P G t) (hf : Fine t) (hok : r.Ok) (hfit : r.Fit) (ha : r.act = 7) (e0 : Int) (t' : Tr) (hr : (if thereB t r.ino = false then (3, t) else if 0 < linksV t r.ino then (2, t) else dropR t r.ino) = (e0, t')) :
    Calls Try.prog 17 #[.pointer (some ⟨P, 0, none⟩), r.val] w fun e w' => e = .returned (.int .i64 e0) ∧ TreeAt w' P G t' ∧ w.grownBy w' (some G) := by
  unfold R.val
  obtain ⟨st, act, dir, name, ino, kind, dir2, name2, old, size, page, data⟩ := r
  have hs : name.size ≤ maxLen := by have := hok.name; simp only [] at this; unfold maxLen; omega
  have hs3 : data.size ≤ maxLen := by have := hok.data; simp only [] at this; unfold maxLen; omega
  have h0 : 0 ≤ dir := hok.dir.1
  have i0 : 0 ≤ ino := hok.ino.1
  have z0 : 0 ≤ size := hfit.size.1
  have z1 : size ≤ 4294967295 := hfit.size.2
  have hbG : w.heap.size ≠ G := by have := h.ltG; omega
  simp only [] at hr ha ⊢
  subst ha
  cases hth : thereB t ino with
  | false =>
    rw [if_pos hth] at hr
    have HTH := Lib.hid hth
    injection hr with e1 e2
    subst e1
    subst e2
    clear hth
    go_enter Try.func17, Try.ntmps17
    go_wp2_with (first | (go_at_call 32; refine (t_stat_no P G t ino _ (h.alloc _) i0 HTH.out).mono ?_; unfold statV; rintro e w1 ⟨rfl, hb1⟩; have HT1 := Lib.hid ((h.alloc _).below hb1); have HB1 := Lib.hid (((Below.refl _ w).alloc (Nat.le_refl _) _).trans (hb1.mono (by simp))); clear hb1))
    go_ret
    exact ⟨ret_i64 rfl, HT1.out.alloc _, grown_of_below (HB1.out.alloc HB1.out.size _)⟩
  | true =>
    rw [if_neg (by rw [hth]; simp)] at hr
    obtain ⟨v1, v2, _⟩ := thereB_bounds hth
    have hds : (ndAt t ino).data.size ≤ 100000 := hf.data _ (ndAt_mem v1 v2)
    have hh : 0 ≤ (ndAt t ino).held ∧ (ndAt t ino).held ≤ 1000000 := by have := hf.held _ (ndAt_mem v1 v2); omega
    have HTH := Lib.hid hth
    obtain ⟨lv, hlv⟩ : ∃ lv, linksV t ino = lv := ⟨_, rfl⟩
    rw [hlv] at hr
    have HLV := Lib.hid hlv
    clear hth hlv
    by_cases hl : 0 < lv
    · rw [if_pos hl] at hr
      injection hr with e1 e2
      subst e1
      subst e2
      go_enter Try.func17, Try.ntmps17
      go_wp2_with (first | (go_at_call 32; refine (t_stat_ok P G t ino lv _ (h.alloc _) HTH.out HLV.out hf.small hds).mono ?_; unfold statV; rintro e w1 ⟨rfl, hb1⟩; obtain ⟨hcb, hfb⟩ := bcell0 hb1; have HT1 := Lib.hid ((h.alloc _).below hb1); have HB1 := Lib.hid (((Below.refl _ w).alloc (Nat.le_refl _) _).trans (hb1.mono (by simp))); have hz : w.heap.size < w1.heap.size := (by have := hb1.size; simp at this; omega); clear hb1))
      go_ret
      exact ⟨ret_i64 rfl, HT1.out.alloc _, grown_of_below (HB1.out.alloc HB1.out.size _)⟩
    · rw [if_neg hl] at hr
      have HR := Lib.hid hr
      clear hr
      go_enter Try.func17, Try.ntmps17
      go_wp2_with (first | (go_at_call 32; refine (t_stat_ok P G t ino lv _ (h.alloc _) HTH.out HLV.out hf.small hds).mono ?_; unfold statV; rintro e w1 ⟨rfl, hb1⟩; obtain ⟨hcb, hfb⟩ := bcell0 hb1; have HT1 := Lib.hid ((h.alloc _).below hb1); have HB1 := Lib.hid (((Below.refl _ w).alloc (Nat.le_refl _) _).trans (hb1.mono (by simp))); have hz : w.heap.size < w1.heap.size := (by have := hb1.size; simp at this; omega); clear hb1) | (go_at_call 33; refine (t_drop P G t ino _ (HT1.out.alloc _) i0 hh _ _ HR.out).mono ?_; rintro e w3 ⟨rfl, ht3, hg3⟩; have HT3 := Lib.hid ht3; have HG3 := Lib.hid (grown_trans (grown_of_below (HB1.out.alloc HB1.out.size _)) hg3); clear ht3 hg3))
      go_ret
      exact ⟨ret_i64 rfl, HT3.out, HG3.out⟩

/-- A record is played (one of the seven). -/
theorem t_play (P G : Nat) (t : Tr) (r : R) (w : World) (h : TreeAt w P G t) (hf : Fine t) (hok : r.Ok) (hfit : r.Fit) (ha : 1 ≤ r.act ∧ r.act ≤ 7) (e0 : Int) (t' : Tr) (hr : playR t r = (e0, t')) :
    Calls Try.prog 17 #[.pointer (some ⟨P, 0, none⟩), r.val] w fun e w' => e = .returned (.int .i64 e0) ∧ TreeAt w' P G t' ∧ w.grownBy w' (some G) := by
  unfold playR at hr
  by_cases a1 : r.act = 1
  · rw [if_pos a1] at hr; exact t_play1 P G t r w h hf hok hfit a1 e0 t' hr
  rw [if_neg a1] at hr
  by_cases a2 : r.act = 2
  · rw [if_pos a2] at hr; exact t_play2 P G t r w h hf hok hfit a2 e0 t' hr
  rw [if_neg a2] at hr
  by_cases a3 : r.act = 3
  · rw [if_pos a3] at hr; exact t_play3 P G t r w h hf hok hfit a3 e0 t' hr
  rw [if_neg a3] at hr
  by_cases a4 : r.act = 4
  · rw [if_pos a4] at hr; exact t_play4 P G t r w h hf hok hfit a4 e0 t' hr
  rw [if_neg a4] at hr
  by_cases a5 : r.act = 5
  · rw [if_pos a5] at hr; exact t_play5 P G t r w h hf hok hfit a5 e0 t' hr
  rw [if_neg a5] at hr
  by_cases a6 : r.act = 6
  · rw [if_pos a6] at hr; exact t_play6 P G t r w h hf hok hfit a6 e0 t' hr
  rw [if_neg a6] at hr
  exact t_play7 P G t r w h hf hok hfit (by omega) e0 t' hr
end Go.Proofs.Ytnnidgjfjgkdpaa
