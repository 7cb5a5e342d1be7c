/- Records as the document has them, played on the document's tree. -/
import Derived.Test.YtogljgiefmfafaaGreatPd13
import Derived.Test.YtogljgiefmfafaaGreatPd21
import Derived.Test.YtogljgiefmfafaaGreatPd24
namespace Go.Proofs.YtogljgiefmfafaaGreat.D
open Go.RowKit
theorem Fine.look {t : Tr} (h : Fine t) {dir : Int} {s : ByteArray} {ino : Int} (hl : lookR t dir s = (ino, 0)) : thereB t ino = true := by
 obtain ⟨i1, i2⟩ := look_good h.good hl
 obtain ⟨hd, k, e, _, he, rfl⟩ := look_ok hl
 obtain ⟨_, ht, _⟩ := dirE_zero hd
 obtain ⟨b1, b2, _⟩ := thereB_bounds ht
 have := h.there _ (ndAt_mem b1 b2) _ (List.mem_of_getElem? he)
 unfold thereB
 simp [i1, i2, this]
def unlinkP (t : Tr) (r : R) : Int × Tr :=
 if (lookR t r.dir r.name).2 ≠ 0 then ((lookR t r.dir r.name).2, t) else if ((lookR t r.dir r.name).1 != r.ino) = true then (2, t)
 else if (r.kind == 2) = true then ((rmdirR t r.dir r.name).2.1, (rmdirR t r.dir r.name).2.2) else ((unlinkR t r.dir r.name).2.1, (unlinkR t r.dir r.name).2.2)
noncomputable def renameP (t : Tr) (r : R) : Int × Tr :=
 if (lookR t r.dir r.name).2 ≠ 0 then ((lookR t r.dir r.name).2, t) else if ((lookR t r.dir r.name).1 != r.ino) = true then (2, t)
 else if ((ndAt t (lookR t r.dir r.name).1).kind != r.kind) = true then (2, t) else if ((lookR t r.dir2 r.name2).1 != r.old) = true then (2, t)
 else renameR t r.dir r.name r.dir2 r.name2
set_option maxRecDepth 100000 in
set_option maxHeartbeats 4000000 in
theorem t_unlinkP (P G : Nat) (t : Tr) (r : R) (w : World) (h : TreeAt w P G t) (hf : Fine t) (hok : r.Texts) (e0 : Int) (t' : Tr) (hr : unlinkP t r = (e0, t')) :
  Calls Tryz.prog 62 #[.pointer (some ⟨P, 0, none⟩), r.val] w fun e w' => e = .returned (.int .i64 e0) ∧ TreeAt w' P G t' ∧ w.grownBy w' (some G) := by
 unfold unlinkP at hr
 unfold R.val
 obtain ⟨st, act, dir, name, ino, kind, dir2, name2, old, size, page, data⟩ := r
 have hs : name.size ≤ maxLen := hok.name
 have hs2 : name2.size ≤ maxLen := hok.name2
 have h0 : 0 ≤ dir := hok.ok.dir.1
 have i0 : 0 ≤ ino := hok.ok.ino.1
 simp only [] at hr
 obtain ⟨v, e, hl⟩ : ∃ v e, lookR t dir name = (v, e) := ⟨_, _, rfl⟩
 rw [hl] at hr
 simp only [] at hr
 have HL := Lib.hid hl
 simp only []
 by_cases he : e ≠ 0
 · rw [if_pos he] at hr
   have hne : (e != 0) = true := by simpa using he
   clear he hl
   injection hr with e1 e2
   subst e1
   subst e2
   go_enter Tryz.func62, Tryz.ntmps62
   go_wp2_with (first | (go_at_call 118; (with_reducible refine (t_look P G t dir name _ _ HL.out _ (h.alloc _) h0 hs).mono ?_); rintro e w' ⟨rfl, rfl⟩))
   go_ret
   exact ⟨ret_i64 rfl, h.alloc _, grown_of_below ((Below.refl _ _).alloc (Nat.le_refl _) _)⟩
 · rw [if_neg he] at hr
   obtain rfl : e = 0 := by omega
   clear he hl
   cases hv : (v != ino) with
   | true =>
    rw [if_pos hv] at hr
    injection hr with e1 e2
    subst e1
    subst e2
    go_enter Tryz.func62, Tryz.ntmps62
    go_wp2_with (first | (go_at_call 118; (with_reducible refine (t_look P G t dir name _ _ HL.out _ (h.alloc _) h0 hs).mono ?_); rintro e w' ⟨rfl, rfl⟩))
    go_ret
    exact ⟨ret_i64 rfl, h.alloc _, grown_of_below ((Below.refl _ _).alloc (Nat.le_refl _) _)⟩
   | false =>
    rw [if_neg (by rw [hv]; simp)] at hr
    cases hk : (kind == 2) with
    | true =>
     rw [if_pos hk] at hr
     obtain ⟨ru, eu, tu, hru⟩ : ∃ ru eu tu, rmdirR t dir name = (ru, eu, tu) := ⟨_, _, _, rfl⟩
     rw [hru] at hr
     have HR := Lib.hid hru
     clear hru
     injection hr with e1 e2
     subst e1
     subst e2
     go_enter Tryz.func62, Tryz.ntmps62
     go_wp2_with (first | (go_at_call 118; (with_reducible refine (t_look P G t dir name _ _ HL.out _ (h.alloc _) h0 hs).mono ?_); rintro e w' ⟨rfl, rfl⟩) | (go_at_call 119; refine (t_rmdir P G t dir name _ (h.alloc _) h0 hs hf.small hf.good _ _ _ HR.out).mono ?_; rintro e w3 ⟨rfl, ht3, hg3⟩; have HT3 := Lib.hid ht3; have HG3 := Lib.hid hg3; clear ht3 hg3))
     go_ret
     exact ⟨ret_i64 rfl, HT3.out, grown_trans (grown_of_below ((Below.refl _ _).alloc (Nat.le_refl _) _)) HG3.out⟩
    | false =>
     rw [if_neg (by rw [hk]; simp)] at hr
     obtain ⟨ru, eu, tu, hru⟩ : ∃ ru eu tu, unlinkR t dir name = (ru, eu, tu) := ⟨_, _, _, rfl⟩
     rw [hru] at hr
     have HR := Lib.hid hru
     clear hru
     injection hr with e1 e2
     subst e1
     subst e2
     go_enter Tryz.func62, Tryz.ntmps62
     go_wp2_with (first | (go_at_call 118; (with_reducible refine (t_look P G t dir name _ _ HL.out _ (h.alloc _) h0 hs).mono ?_); rintro e w' ⟨rfl, rfl⟩) | (go_at_call 120; refine (t_unlink P G t dir name _ (h.alloc _) h0 hs hf.small hf.good _ _ _ HR.out).mono ?_; rintro e w3 ⟨rfl, ht3, hg3⟩; have HT3 := Lib.hid ht3; have HG3 := Lib.hid hg3; clear ht3 hg3))
     go_ret
     exact ⟨ret_i64 rfl, HT3.out, grown_trans (grown_of_below ((Below.refl _ _).alloc (Nat.le_refl _) _)) HG3.out⟩
theorem bcell0 {W w1 : World} (hb : Below W.heap.size W w1) : (∀ b o, b < W.heap.size → w1.cell? ⟨b, o, none⟩ = W.cell? ⟨b, o, none⟩) ∧ (∀ b o, b < W.heap.size → w1.frozen? ⟨b, o, none⟩ = W.frozen? ⟨b, o, none⟩) :=
 ⟨fun b o h => hb.cell (p := ⟨b, o, none⟩) h, fun b o h => hb.frozen (p := ⟨b, o, none⟩) h⟩
theorem grown_cellat {W w1 : World} {G b : Nat} (hg : W.grownBy w1 (some G)) (hb : b < W.heap.size) (hne : b ≠ G) (o : Nat) : w1.cell? ⟨b, o, none⟩ = W.cell? ⟨b, o, none⟩ :=
 World.cell?_of_block (a := ⟨b, o, none⟩) (hg.block b hb (fun e => hne (by injection e)))
set_option maxRecDepth 100000 in
set_option maxHeartbeats 8000000 in
theorem t_renameP (P G : Nat) (t : Tr) (r : R) (w : World) (h : TreeAt w P G t) (hf : Fine t) (hok : r.Texts) (e0 : Int) (t' : Tr) (hr : renameP t r = (e0, t')) :
  Calls Tryz.prog 63 #[.pointer (some ⟨P, 0, none⟩), r.val] w fun e w' => e = .returned (.int .i64 e0) ∧ TreeAt w' P G t' ∧ w.grownBy w' (some G) := by
 unfold renameP at hr
 unfold R.val
 obtain ⟨st, act, dir, name, ino, kind, dir2, name2, old, size, page, data⟩ := r
 have hs : name.size ≤ maxLen := hok.name
 have hs2 : name2.size ≤ maxLen := hok.name2
 have h0 : 0 ≤ dir := hok.ok.dir.1
 have i0 : 0 ≤ ino := hok.ok.ino.1
 have d0 : 0 ≤ dir2 := hok.ok.dir2.1
 simp only [] at hr
 obtain ⟨v, e, hl⟩ : ∃ v e, lookR t dir name = (v, e) := ⟨_, _, rfl⟩
 rw [hl] at hr
 simp only [] at hr
 have HL := Lib.hid hl
 simp only []
 by_cases he : e ≠ 0
 · rw [if_pos he] at hr
   have hne : (e != 0) = true := by simpa using he
   clear he hl
   injection hr with e1 e2
   subst e1
   subst e2
   go_enter Tryz.func63, Tryz.ntmps63
   go_wp2_with (first | (go_at_call 118; (with_reducible refine (t_look P G t dir name _ _ HL.out _ (h.alloc _) h0 hs).mono ?_); rintro e w' ⟨rfl, rfl⟩))
   go_ret
   exact ⟨ret_i64 rfl, h.alloc _, grown_of_below ((Below.refl _ _).alloc (Nat.le_refl _) _)⟩
 · rw [if_neg he] at hr
   obtain rfl : e = 0 := by omega
   have hth := hf.look hl
   obtain ⟨v1, v2, _⟩ := thereB_bounds hth
   have hds : (ndAt t v).data.size ≤ 100000 := hf.data _ (ndAt_mem v1 v2)
   have HTH := Lib.hid hth
   obtain ⟨lv, hlv⟩ : ∃ lv, linksV t v = lv := ⟨_, rfl⟩
   have HLV := Lib.hid hlv
   obtain ⟨o2, f2, hl2⟩ : ∃ o2 f2, lookR t dir2 name2 = (o2, f2) := ⟨_, _, rfl⟩
   rw [hl2] at hr
   simp only [] at hr
   have HL2 := Lib.hid hl2
   clear he hl hth hlv hl2
   cases hv : (v != ino) with
   | true =>
    rw [if_pos hv] at hr
    injection hr with e1 e2
    subst e1
    subst e2
    go_enter Tryz.func63, Tryz.ntmps63
    go_wp2_with (first | (go_at_call 118; (with_reducible refine (t_look P G t dir name _ _ HL.out _ (h.alloc _) h0 hs).mono ?_); rintro e w' ⟨rfl, rfl⟩) | (go_at_call 66; refine (t_stat_ok P G t v lv _ (h.alloc _) HTH.out HLV.out hf.small hds).mono ?_; unfold statV; rintro e w1 ⟨rfl, hb1⟩; obtain ⟨hcb, hfb⟩ := bcell0 hb1; have HT1 := Lib.hid ((h.alloc _).below hb1); have HB1 := Lib.hid (((Below.refl _ w).alloc (Nat.le_refl _) _).trans (hb1.mono (by simp))); have hz : w.heap.size < w1.heap.size := (by have := hb1.size; simp at this; omega); clear hb1) | (go_at_call 118; refine (t_look P G t dir2 name2 _ _ HL2.out _ (HT1.out.alloc _) d0 hs2).mono ?_; rintro e w' ⟨rfl, rfl⟩))
    go_ret
    exact ⟨ret_i64 rfl, HT1.out.alloc _, grown_of_below (HB1.out.alloc HB1.out.size _)⟩
   | false =>
    rw [if_neg (by rw [hv]; simp)] at hr
    cases hk : ((ndAt t v).kind != kind) with
    | true =>
     rw [if_pos hk] at hr
     injection hr with e1 e2
     subst e1
     subst e2
     go_enter Tryz.func63, Tryz.ntmps63
     go_wp2_with (first | (go_at_call 118; (with_reducible refine (t_look P G t dir name _ _ HL.out _ (h.alloc _) h0 hs).mono ?_); rintro e w' ⟨rfl, rfl⟩) | (go_at_call 66; refine (t_stat_ok P G t v lv _ (h.alloc _) HTH.out HLV.out hf.small hds).mono ?_; unfold statV; rintro e w1 ⟨rfl, hb1⟩; obtain ⟨hcb, hfb⟩ := bcell0 hb1; have HT1 := Lib.hid ((h.alloc _).below hb1); have HB1 := Lib.hid (((Below.refl _ w).alloc (Nat.le_refl _) _).trans (hb1.mono (by simp))); have hz : w.heap.size < w1.heap.size := (by have := hb1.size; simp at this; omega); clear hb1) | (go_at_call 118; refine (t_look P G t dir2 name2 _ _ HL2.out _ (HT1.out.alloc _) d0 hs2).mono ?_; rintro e w' ⟨rfl, rfl⟩))
     go_ret
     exact ⟨ret_i64 rfl, HT1.out.alloc _, grown_of_below (HB1.out.alloc HB1.out.size _)⟩
    | false =>
     rw [if_neg (by rw [hk]; simp)] at hr
     cases ho : (o2 != old) with
     | true =>
      rw [if_pos ho] at hr
      injection hr with e1 e2
      subst e1
      subst e2
      go_enter Tryz.func63, Tryz.ntmps63
      go_wp2_with (first | (go_at_call 118; (with_reducible refine (t_look P G t dir name _ _ HL.out _ (h.alloc _) h0 hs).mono ?_); rintro e w' ⟨rfl, rfl⟩) | (go_at_call 66; refine (t_stat_ok P G t v lv _ (h.alloc _) HTH.out HLV.out hf.small hds).mono ?_; unfold statV; rintro e w1 ⟨rfl, hb1⟩; obtain ⟨hcb, hfb⟩ := bcell0 hb1; have HT1 := Lib.hid ((h.alloc _).below hb1); have HB1 := Lib.hid (((Below.refl _ w).alloc (Nat.le_refl _) _).trans (hb1.mono (by simp))); have hz : w.heap.size < w1.heap.size := (by have := hb1.size; simp at this; omega); clear hb1) | (go_at_call 118; refine (t_look P G t dir2 name2 _ _ HL2.out _ (HT1.out.alloc _) d0 hs2).mono ?_; rintro e w' ⟨rfl, rfl⟩))
      go_ret
      exact ⟨ret_i64 rfl, HT1.out.alloc _, grown_of_below (HB1.out.alloc HB1.out.size _)⟩
     | false =>
      rw [if_neg (by rw [ho]; simp)] at hr
      have HR := Lib.hid hr
      clear hr
      go_enter Tryz.func63, Tryz.ntmps63
      go_wp2_with (first | (go_at_call 118; (with_reducible refine (t_look P G t dir name _ _ HL.out _ (h.alloc _) h0 hs).mono ?_); rintro e w' ⟨rfl, rfl⟩) | (go_at_call 66; refine (t_stat_ok P G t v lv _ (h.alloc _) HTH.out HLV.out hf.small hds).mono ?_; unfold statV; rintro e w1 ⟨rfl, hb1⟩; obtain ⟨hcb, hfb⟩ := bcell0 hb1; have HT1 := Lib.hid ((h.alloc _).below hb1); have HB1 := Lib.hid (((Below.refl _ w).alloc (Nat.le_refl _) _).trans (hb1.mono (by simp))); have hz : w.heap.size < w1.heap.size := (by have := hb1.size; simp at this; omega); clear hb1) | (go_at_call 118; refine (t_look P G t dir2 name2 _ _ HL2.out _ (HT1.out.alloc _) d0 hs2).mono ?_; rintro e w' ⟨rfl, rfl⟩) | (go_at_call 121; refine (t_rename P G t dir name dir2 name2 _ (HT1.out.alloc _) h0 d0 hs hs2 hf.small hf.good hf.acc _ _ HR.out).mono ?_; rintro e w3 ⟨rfl, ht3, hg3⟩; have HT3 := Lib.hid ht3; have HG3 := Lib.hid hg3; clear ht3 hg3))
      go_ret
      exact ⟨ret_i64 rfl, HT3.out, grown_trans (grown_of_below (HB1.out.alloc HB1.out.size _)) HG3.out⟩
noncomputable def playR (t : Tr) (r : R) : Int × Tr :=
 if r.act = 1 then (if (makeR t r.dir r.name r.kind r.ino).1 = 0 ∧ r.kind = 1 then holdR (makeR t r.dir r.name r.kind r.ino).2 r.ino else makeR t r.dir r.name r.kind r.ino)
 else if r.act = 2 then linkR t r.dir r.name r.ino
 else if r.act = 3 then unlinkP t r
 else if r.act = 4 then renameP t r
 else if r.act = 5 then resizeR t r.ino r.size
 else if r.act = 6 then (if (writeR t r.ino r.page r.data).1 ≠ 0 then writeR t r.ino r.page r.data else resizeR (writeR t r.ino r.page r.data).2 r.ino r.size)
 else if thereB t r.ino = false then (3, t) else if 0 < linksV t r.ino then (2, t) else dropR t r.ino
set_option maxRecDepth 100000 in
set_option maxHeartbeats 8000000 in
theorem t_play1 (P G : Nat) (t : Tr) (r : R) (w : World) (h : TreeAt w P G t) (hf : Fine t) (hok : r.Texts) (ha : r.act = 1) (e0 : Int) (t' : Tr) (hr : (if (makeR t r.dir r.name r.kind r.ino).1 = 0 ∧ r.kind = 1 then holdR (makeR t r.dir r.name r.kind r.ino).2 r.ino else makeR t r.dir r.name r.kind r.ino) = (e0, t')) :
  Calls Tryz.prog 26 #[.pointer (some ⟨P, 0, none⟩), r.val] w fun e w' => e = .returned (.int .i64 e0) ∧ TreeAt w' P G t' ∧ w.grownBy w' (some G) := by
 unfold R.val
 obtain ⟨st, act, dir, name, ino, kind, dir2, name2, old, size, page, data⟩ := r
 have hs : name.size ≤ maxLen := hok.name
 have hs3 : data.size ≤ maxLen := hok.data
 have h0 : 0 ≤ dir := hok.ok.dir.1
 have i0 : 0 ≤ ino := hok.ok.ino.1
 have z0 : 0 ≤ size := hok.ok.size.1
 have z1 : size ≤ 4294967295 := hok.ok.size.2
 have hbG : w.heap.size ≠ G := by have := h.ltG; omega
 simp only [] at hr ha ⊢
 subst ha
 obtain ⟨em, tm, hm⟩ : ∃ em tm, makeR t dir name kind ino = (em, tm) := ⟨_, _, rfl⟩
 rw [hm] at hr
 simp only [] at hr
 have HM := Lib.hid hm
 cases he : (em == 0) with
 | false =>
  have he' : em ≠ 0 := by simpa using he
  rw [if_neg (fun hh => he' hh.1)] at hr
  injection hr with e1 e2
  subst e1
  subst e2
  clear he' hm
  go_enter Tryz.func26, Tryz.ntmps26
  go_wp2_with (first | (go_at_call 59; refine (t_make P G t dir name kind ino _ (h.alloc _) h0 hs hf.small _ _ HM.out).mono ?_; rintro e w1 ⟨rfl, ht1, hg1⟩; have HT1 := Lib.hid ht1; have HG1 := Lib.hid (grown_trans (grown_of_below ((Below.refl _ _).alloc (Nat.le_refl _) _)) hg1); have c4 : w1.cell? ⟨w.heap.size, 4, none⟩ = some (.int .u32 ino) := ((grown_cellat hg1 (by simp) hbG 4).trans (by simp [go_sem])); have c5 : w1.cell? ⟨w.heap.size, 5, none⟩ = some (.int .u8 kind) := ((grown_cellat hg1 (by simp) hbG 5).trans (by simp [go_sem])); clear ht1 hg1))
  go_ret
  exact ⟨ret_i64 rfl, HT1.out, HG1.out⟩
 | true =>
  have he' : em = 0 := by simpa using he
  cases hk : (kind == 1) with
  | false =>
   have hk' : kind ≠ 1 := by simpa using hk
   rw [if_neg (fun hh => hk' hh.2)] at hr
   injection hr with e1 e2
   subst e1
   subst e2
   clear he' hk' hm
   go_enter Tryz.func26, Tryz.ntmps26
   go_wp2_with (first | (go_at_call 59; refine (t_make P G t dir name kind ino _ (h.alloc _) h0 hs hf.small _ _ HM.out).mono ?_; rintro e w1 ⟨rfl, ht1, hg1⟩; have HT1 := Lib.hid ht1; have HG1 := Lib.hid (grown_trans (grown_of_below ((Below.refl _ _).alloc (Nat.le_refl _) _)) hg1); have c4 : w1.cell? ⟨w.heap.size, 4, none⟩ = some (.int .u32 ino) := ((grown_cellat hg1 (by simp) hbG 4).trans (by simp [go_sem])); have c5 : w1.cell? ⟨w.heap.size, 5, none⟩ = some (.int .u8 kind) := ((grown_cellat hg1 (by simp) hbG 5).trans (by simp [go_sem])); clear ht1 hg1))
   go_ret
   exact ⟨ret_i64 rfl, HT1.out, HG1.out⟩
  | true =>
   have hk' : kind = 1 := by simpa using hk
   rw [if_pos ⟨he', hk'⟩] at hr
   subst he'
   obtain ⟨rfl, _, _, i1, i2, hd, _, hnt⟩ := make_zero hm
   obtain ⟨_, htd, _⟩ := dirE_zero hd
   obtain ⟨b1, b2, _⟩ := thereB_bounds htd
   have hne : dir ≠ ino := fun hh => by subst hh; rw [htd] at hnt; cases hnt
   have hat := made_at (s := name) (kind := kind) b1 b2 i1 i2 hne
   have hlen : (made t dir name kind ino).length = t.length := by unfold made; rw [setNd_length, setNd_length]
   have HF1 : Hid (fileE (made t dir name kind ino) ino = 0) := by
    show _ = _
    unfold fileE thereB
    rw [hat, hlen, hk']
    simp [i1, i2]
   have HH1 : Hid (0 ≤ (ndAt (made t dir name kind ino) ino).held ∧ (ndAt (made t dir name kind ino) ino).held ≤ 1000000) := by
    show _ ∧ _
    rw [hat]; simp [noNd]
   unfold holdR at hr
   rw [if_neg (by rw [HF1.out]; simp)] at hr
   injection hr with e1 e2
   subst e1
   subst e2
   obtain ⟨tm, htm⟩ : ∃ tm, made t dir name kind ino = tm := ⟨_, rfl⟩
   rw [htm] at HF1 HH1 HM ⊢
   clear hm hd hnt htd hat hlen hk' htm
   go_enter Tryz.func26, Tryz.ntmps26
   go_wp2_with (first | (go_at_call 59; refine (t_make P G t dir name kind ino _ (h.alloc _) h0 hs hf.small _ _ HM.out).mono ?_; rintro e w1 ⟨rfl, ht1, hg1⟩; have HT1 := Lib.hid ht1; have HG1 := Lib.hid (grown_trans (grown_of_below ((Below.refl _ _).alloc (Nat.le_refl _) _)) hg1); have c4 : w1.cell? ⟨w.heap.size, 4, none⟩ = some (.int .u32 ino) := ((grown_cellat hg1 (by simp) hbG 4).trans (by simp [go_sem])); have c5 : w1.cell? ⟨w.heap.size, 5, none⟩ = some (.int .u8 kind) := ((grown_cellat hg1 (by simp) hbG 5).trans (by simp [go_sem])); clear ht1 hg1) | (go_at_call 60; refine (t_hold_ok P G tm ino _ HT1.out i0 HF1.out HH1.out).mono ?_; rintro e w2 ⟨rfl, ht2, hg2⟩; have HT2 := Lib.hid ht2; have HG2 := Lib.hid (grown_trans HG1.out hg2); clear ht2 hg2))
   go_ret
   exact ⟨ret_i64 rfl, HT2.out, HG2.out⟩
set_option maxRecDepth 100000 in
set_option maxHeartbeats 8000000 in
theorem t_play2 (P G : Nat) (t : Tr) (r : R) (w : World) (h : TreeAt w P G t) (hf : Fine t) (hok : r.Texts) (ha : r.act = 2) (e0 : Int) (t' : Tr) (hr : linkR t r.dir r.name r.ino = (e0, t')) :
  Calls Tryz.prog 26 #[.pointer (some ⟨P, 0, none⟩), r.val] w fun e w' => e = .returned (.int .i64 e0) ∧ TreeAt w' P G t' ∧ w.grownBy w' (some G) := by
 unfold R.val
 obtain ⟨st, act, dir, name, ino, kind, dir2, name2, old, size, page, data⟩ := r
 have hs : name.size ≤ maxLen := hok.name
 have hs3 : data.size ≤ maxLen := hok.data
 have h0 : 0 ≤ dir := hok.ok.dir.1
 have i0 : 0 ≤ ino := hok.ok.ino.1
 have z0 : 0 ≤ size := hok.ok.size.1
 have z1 : size ≤ 4294967295 := hok.ok.size.2
 have hbG : w.heap.size ≠ G := by have := h.ltG; omega
 simp only [] at hr ha ⊢
 subst ha
 have HR := Lib.hid hr
 clear hr
 go_enter Tryz.func26, Tryz.ntmps26
 go_wp2_with (first | (go_at_call 61; refine (t_link P G t dir name ino _ (h.alloc _) h0 i0 hs hf.small _ _ HR.out).mono ?_; rintro e w1 ⟨rfl, ht1, hg1⟩; have HT1 := Lib.hid ht1; have HG1 := Lib.hid (grown_trans (grown_of_below ((Below.refl _ _).alloc (Nat.le_refl _) _)) hg1); clear ht1 hg1))
 go_ret
 exact ⟨ret_i64 rfl, HT1.out, HG1.out⟩
set_option maxRecDepth 100000 in
set_option maxHeartbeats 8000000 in
theorem t_play3 (P G : Nat) (t : Tr) (r : R) (w : World) (h : TreeAt w P G t) (hf : Fine t) (hok : r.Texts) (ha : r.act = 3) (e0 : Int) (t' : Tr) (hr : unlinkP t r = (e0, t')) :
  Calls Tryz.prog 26 #[.pointer (some ⟨P, 0, none⟩), r.val] w fun e w' => e = .returned (.int .i64 e0) ∧ TreeAt w' P G t' ∧ w.grownBy w' (some G) := by
 unfold R.val
 obtain ⟨st, act, dir, name, ino, kind, dir2, name2, old, size, page, data⟩ := r
 have hs : name.size ≤ maxLen := hok.name
 have hs3 : data.size ≤ maxLen := hok.data
 have h0 : 0 ≤ dir := hok.ok.dir.1
 have i0 : 0 ≤ ino := hok.ok.ino.1
 have z0 : 0 ≤ size := hok.ok.size.1
 have z1 : size ≤ 4294967295 := hok.ok.size.2
 have hbG : w.heap.size ≠ G := by have := h.ltG; omega
 simp only [] at hr ha ⊢
 subst ha
 have HR := Lib.hid hr
 clear hr
 go_enter Tryz.func26, Tryz.ntmps26
 go_wp2_with (first | (go_at_call 62; refine (t_unlinkP P G t (⟨st, 3, dir, name, ino, kind, dir2, name2, old, size, page, data⟩ : R) _ (h.alloc _) hf hok _ _ HR.out).mono ?_; rintro e w1 ⟨rfl, ht1, hg1⟩; have HT1 := Lib.hid ht1; have HG1 := Lib.hid (grown_trans (grown_of_below ((Below.refl _ _).alloc (Nat.le_refl _) _)) hg1); clear ht1 hg1))
 go_ret
 exact ⟨ret_i64 rfl, HT1.out, HG1.out⟩
set_option maxRecDepth 100000 in
set_option maxHeartbeats 8000000 in
theorem t_play4 (P G : Nat) (t : Tr) (r : R) (w : World) (h : TreeAt w P G t) (hf : Fine t) (hok : r.Texts) (ha : r.act = 4) (e0 : Int) (t' : Tr) (hr : renameP t r = (e0, t')) :
  Calls Tryz.prog 26 #[.pointer (some ⟨P, 0, none⟩), r.val] w fun e w' => e = .returned (.int .i64 e0) ∧ TreeAt w' P G t' ∧ w.grownBy w' (some G) := by
 unfold R.val
 obtain ⟨st, act, dir, name, ino, kind, dir2, name2, old, size, page, data⟩ := r
 have hs : name.size ≤ maxLen := hok.name
 have hs3 : data.size ≤ maxLen := hok.data
 have h0 : 0 ≤ dir := hok.ok.dir.1
 have i0 : 0 ≤ ino := hok.ok.ino.1
 have z0 : 0 ≤ size := hok.ok.size.1
 have z1 : size ≤ 4294967295 := hok.ok.size.2
 have hbG : w.heap.size ≠ G := by have := h.ltG; omega
 simp only [] at hr ha ⊢
 subst ha
 have HR := Lib.hid hr
 clear hr
 go_enter Tryz.func26, Tryz.ntmps26
 go_wp2_with (first | (go_at_call 63; refine (t_renameP P G t (⟨st, 4, dir, name, ino, kind, dir2, name2, old, size, page, data⟩ : R) _ (h.alloc _) hf hok _ _ HR.out).mono ?_; rintro e w1 ⟨rfl, ht1, hg1⟩; have HT1 := Lib.hid ht1; have HG1 := Lib.hid (grown_trans (grown_of_below ((Below.refl _ _).alloc (Nat.le_refl _) _)) hg1); clear ht1 hg1))
 go_ret
 exact ⟨ret_i64 rfl, HT1.out, HG1.out⟩
set_option maxRecDepth 100000 in
set_option maxHeartbeats 8000000 in
theorem t_play5 (P G : Nat) (t : Tr) (r : R) (w : World) (h : TreeAt w P G t) (hf : Fine t) (hok : r.Texts) (ha : r.act = 5) (e0 : Int) (t' : Tr) (hr : resizeR t r.ino r.size = (e0, t')) :
  Calls Tryz.prog 26 #[.pointer (some ⟨P, 0, none⟩), r.val] w fun e w' => e = .returned (.int .i64 e0) ∧ TreeAt w' P G t' ∧ w.grownBy w' (some G) := by
 unfold R.val
 obtain ⟨st, act, dir, name, ino, kind, dir2, name2, old, size, page, data⟩ := r
 have hs : name.size ≤ maxLen := hok.name
 have hs3 : data.size ≤ maxLen := hok.data
 have h0 : 0 ≤ dir := hok.ok.dir.1
 have i0 : 0 ≤ ino := hok.ok.ino.1
 have z0 : 0 ≤ size := hok.ok.size.1
 have z1 : size ≤ 4294967295 := hok.ok.size.2
 have hbG : w.heap.size ≠ G := by have := h.ltG; omega
 simp only [] at hr ha ⊢
 subst ha
 have hds : (ndAt t ino).data.size ≤ 100000 := by
  by_cases hi : 1 ≤ ino ∧ ino ≤ t.length
  · exact hf.data _ (ndAt_mem hi.1 hi.2)
  · unfold ndAt nd
    rw [List.getD_eq_getElem?_getD]
    cases hx : t[ino.toNat - 1]? with
    | none => simp [noNd]
    | some x => exact hf.data x (List.mem_of_getElem? hx)
 have HR := Lib.hid hr
 clear hr
 go_enter Tryz.func26, Tryz.ntmps26
 go_wp2_with (first | (go_at_call 64; refine (t_resize P G t ino size _ (h.alloc _) i0 z0 z1 hds _ _ HR.out).mono ?_; rintro e w1 ⟨rfl, ht1, hg1⟩; have HT1 := Lib.hid ht1; have HG1 := Lib.hid (grown_trans (grown_of_below ((Below.refl _ _).alloc (Nat.le_refl _) _)) hg1); clear ht1 hg1))
 go_ret
 exact ⟨ret_i64 rfl, HT1.out, HG1.out⟩
set_option maxRecDepth 100000 in
set_option maxHeartbeats 8000000 in
theorem t_play6 (P G : Nat) (t : Tr) (r : R) (w : World) (h : TreeAt w P G t) (hf : Fine t) (hok : r.Texts) (ha : r.act = 6) (e0 : Int) (t' : Tr) (hr : (if (writeR t r.ino r.page r.data).1 ≠ 0 then writeR t r.ino r.page r.data else resizeR (writeR t r.ino r.page r.data).2 r.ino r.size) = (e0, t')) :
  Calls Tryz.prog 26 #[.pointer (some ⟨P, 0, none⟩), r.val] w fun e w' => e = .returned (.int .i64 e0) ∧ TreeAt w' P G t' ∧ w.grownBy w' (some G) := by
 unfold R.val
 obtain ⟨st, act, dir, name, ino, kind, dir2, name2, old, size, page, data⟩ := r
 have hs : name.size ≤ maxLen := hok.name
 have hs3 : data.size ≤ maxLen := hok.data
 have h0 : 0 ≤ dir := hok.ok.dir.1
 have i0 : 0 ≤ ino := hok.ok.ino.1
 have z0 : 0 ≤ size := hok.ok.size.1
 have z1 : size ≤ 4294967295 := hok.ok.size.2
 have hbG : w.heap.size ≠ G := by have := h.ltG; omega
 simp only [] at hr ha ⊢
 subst ha
 have hds : (ndAt t ino).data.size ≤ 100000 := by
  by_cases hi : 1 ≤ ino ∧ ino ≤ t.length
  · exact hf.data _ (ndAt_mem hi.1 hi.2)
  · unfold ndAt nd
    rw [List.getD_eq_getElem?_getD]
    cases hx : t[ino.toNat - 1]? with
    | none => simp [noNd]
    | some x => exact hf.data x (List.mem_of_getElem? hx)
 obtain ⟨em, tm, hm⟩ : ∃ em tm, writeR t ino page data = (em, tm) := ⟨_, _, rfl⟩
 rw [hm] at hr
 simp only [] at hr
 have HM := Lib.hid hm
 by_cases he : em ≠ 0
 · rw [if_pos he] at hr
   have hne : (em != 0) = true := by simpa using he
   injection hr with e1 e2
   subst e1
   subst e2
   clear he hm
   go_enter Tryz.func26, Tryz.ntmps26
   go_wp2_with (first | (go_at_call 65; refine (t_write P G t ino page data _ (h.alloc _) i0 hs3 hds _ _ HM.out).mono ?_; rintro e w1 ⟨rfl, ht1, hg1⟩; have HT1 := Lib.hid ht1; have HG1 := Lib.hid (grown_trans (grown_of_below ((Below.refl _ _).alloc (Nat.le_refl _) _)) hg1); have c4 : w1.cell? ⟨w.heap.size, 4, none⟩ = some (.int .u32 ino) := ((grown_cellat hg1 (by simp) hbG 4).trans (by simp [go_sem])); have c9 : w1.cell? ⟨w.heap.size, 9, none⟩ = some (.int .u32 size) := ((grown_cellat hg1 (by simp) hbG 9).trans (by simp [go_sem])); clear ht1 hg1))
   go_ret
   exact ⟨ret_i64 rfl, HT1.out, HG1.out⟩
 · rw [if_neg he] at hr
   obtain rfl : em = 0 := by omega
   have HD1 := Lib.hid (writeR_data hm hds).2.2
   have HR := Lib.hid hr
   clear he hm hr
   go_enter Tryz.func26, Tryz.ntmps26
   go_wp2_with (first | (go_at_call 65; refine (t_write P G t ino page data _ (h.alloc _) i0 hs3 hds _ _ HM.out).mono ?_; rintro e w1 ⟨rfl, ht1, hg1⟩; have HT1 := Lib.hid ht1; have HG1 := Lib.hid (grown_trans (grown_of_below ((Below.refl _ _).alloc (Nat.le_refl _) _)) hg1); have c4 : w1.cell? ⟨w.heap.size, 4, none⟩ = some (.int .u32 ino) := ((grown_cellat hg1 (by simp) hbG 4).trans (by simp [go_sem])); have c9 : w1.cell? ⟨w.heap.size, 9, none⟩ = some (.int .u32 size) := ((grown_cellat hg1 (by simp) hbG 9).trans (by simp [go_sem])); clear ht1 hg1) | (go_at_call 64; refine (t_resize P G tm ino size _ HT1.out i0 z0 z1 HD1.out _ _ HR.out).mono ?_; rintro e w2 ⟨rfl, ht2, hg2⟩; have HT2 := Lib.hid ht2; have HG2 := Lib.hid (grown_trans HG1.out hg2); clear ht2 hg2))
   go_ret
   exact ⟨ret_i64 rfl, HT2.out, HG2.out⟩
set_option maxRecDepth 100000 in
set_option maxHeartbeats 8000000 in
theorem t_play7 (P G : Nat) (t : Tr) (r : R) (w : World) (h : TreeAt w P G t) (hf : Fine t) (hok : r.Texts) (ha : r.act = 7) (e0 : Int) (t' : Tr) (hr : (if thereB t r.ino = false then (3, t) else if 0 < linksV t r.ino then (2, t) else dropR t r.ino) = (e0, t')) :
  Calls Tryz.prog 26 #[.pointer (some ⟨P, 0, none⟩), r.val] w fun e w' => e = .returned (.int .i64 e0) ∧ TreeAt w' P G t' ∧ w.grownBy w' (some G) := by
 unfold R.val
 obtain ⟨st, act, dir, name, ino, kind, dir2, name2, old, size, page, data⟩ := r
 have hs : name.size ≤ maxLen := hok.name
 have hs3 : data.size ≤ maxLen := hok.data
 have h0 : 0 ≤ dir := hok.ok.dir.1
 have i0 : 0 ≤ ino := hok.ok.ino.1
 have z0 : 0 ≤ size := hok.ok.size.1
 have z1 : size ≤ 4294967295 := hok.ok.size.2
 have hbG : w.heap.size ≠ G := by have := h.ltG; omega
 simp only [] at hr ha ⊢
 subst ha
 cases hth : thereB t ino with
 | false =>
  rw [if_pos hth] at hr
  have HTH := Lib.hid hth
  injection hr with e1 e2
  subst e1
  subst e2
  clear hth
  go_enter Tryz.func26, Tryz.ntmps26
  go_wp2_with (first | (go_at_call 66; refine (t_stat_no P G t ino _ (h.alloc _) i0 HTH.out).mono ?_; unfold statV; rintro e w1 ⟨rfl, hb1⟩; have HT1 := Lib.hid ((h.alloc _).below hb1); have HB1 := Lib.hid (((Below.refl _ w).alloc (Nat.le_refl _) _).trans (hb1.mono (by simp))); clear hb1))
  go_ret
  exact ⟨ret_i64 rfl, HT1.out.alloc _, grown_of_below (HB1.out.alloc HB1.out.size _)⟩
 | true =>
  rw [if_neg (by rw [hth]; simp)] at hr
  obtain ⟨v1, v2, _⟩ := thereB_bounds hth
  have hds : (ndAt t ino).data.size ≤ 100000 := hf.data _ (ndAt_mem v1 v2)
  have hh : 0 ≤ (ndAt t ino).held ∧ (ndAt t ino).held ≤ 1000000 := by have := hf.held _ (ndAt_mem v1 v2); omega
  have HTH := Lib.hid hth
  obtain ⟨lv, hlv⟩ : ∃ lv, linksV t ino = lv := ⟨_, rfl⟩
  rw [hlv] at hr
  have HLV := Lib.hid hlv
  clear hth hlv
  by_cases hl : 0 < lv
  · rw [if_pos hl] at hr
    injection hr with e1 e2
    subst e1
    subst e2
    go_enter Tryz.func26, Tryz.ntmps26
    go_wp2_with (first | (go_at_call 66; refine (t_stat_ok P G t ino lv _ (h.alloc _) HTH.out HLV.out hf.small hds).mono ?_; unfold statV; rintro e w1 ⟨rfl, hb1⟩; obtain ⟨hcb, hfb⟩ := bcell0 hb1; have HT1 := Lib.hid ((h.alloc _).below hb1); have HB1 := Lib.hid (((Below.refl _ w).alloc (Nat.le_refl _) _).trans (hb1.mono (by simp))); have hz : w.heap.size < w1.heap.size := (by have := hb1.size; simp at this; omega); clear hb1))
    go_ret
    exact ⟨ret_i64 rfl, HT1.out.alloc _, grown_of_below (HB1.out.alloc HB1.out.size _)⟩
  · rw [if_neg hl] at hr
    have HR := Lib.hid hr
    clear hr
    go_enter Tryz.func26, Tryz.ntmps26
    go_wp2_with (first | (go_at_call 66; refine (t_stat_ok P G t ino lv _ (h.alloc _) HTH.out HLV.out hf.small hds).mono ?_; unfold statV; rintro e w1 ⟨rfl, hb1⟩; obtain ⟨hcb, hfb⟩ := bcell0 hb1; have HT1 := Lib.hid ((h.alloc _).below hb1); have HB1 := Lib.hid (((Below.refl _ w).alloc (Nat.le_refl _) _).trans (hb1.mono (by simp))); have hz : w.heap.size < w1.heap.size := (by have := hb1.size; simp at this; omega); clear hb1) | (go_at_call 67; refine (t_drop P G t ino _ (HT1.out.alloc _) i0 hh _ _ HR.out).mono ?_; rintro e w3 ⟨rfl, ht3, hg3⟩; have HT3 := Lib.hid ht3; have HG3 := Lib.hid (grown_trans (grown_of_below (HB1.out.alloc HB1.out.size _)) hg3); clear ht3 hg3))
    go_ret
    exact ⟨ret_i64 rfl, HT3.out, HG3.out⟩
theorem t_play (P G : Nat) (t : Tr) (r : R) (w : World) (h : TreeAt w P G t) (hf : Fine t) (hok : r.Texts) (ha : 1 ≤ r.act ∧ r.act ≤ 7) (e0 : Int) (t' : Tr) (hr : playR t r = (e0, t')) :
  Calls Tryz.prog 26 #[.pointer (some ⟨P, 0, none⟩), r.val] w fun e w' => e = .returned (.int .i64 e0) ∧ TreeAt w' P G t' ∧ w.grownBy w' (some G) := by
 unfold playR at hr
 by_cases a1 : r.act = 1
 · rw [if_pos a1] at hr; exact t_play1 P G t r w h hf hok a1 e0 t' hr
 rw [if_neg a1] at hr
 by_cases a2 : r.act = 2
 · rw [if_pos a2] at hr; exact t_play2 P G t r w h hf hok a2 e0 t' hr
 rw [if_neg a2] at hr
 by_cases a3 : r.act = 3
 · rw [if_pos a3] at hr; exact t_play3 P G t r w h hf hok a3 e0 t' hr
 rw [if_neg a3] at hr
 by_cases a4 : r.act = 4
 · rw [if_pos a4] at hr; exact t_play4 P G t r w h hf hok a4 e0 t' hr
 rw [if_neg a4] at hr
 by_cases a5 : r.act = 5
 · rw [if_pos a5] at hr; exact t_play5 P G t r w h hf hok a5 e0 t' hr
 rw [if_neg a5] at hr
 by_cases a6 : r.act = 6
 · rw [if_pos a6] at hr; exact t_play6 P G t r w h hf hok a6 e0 t' hr
 rw [if_neg a6] at hr
 exact t_play7 P G t r w h hf hok (by omega) e0 t' hr
theorem Well.unlinkP {n s : Nat} {t : Tr} (h : Well n s t) {r : R} {e : Int} {t1 : Tr} (hr : unlinkP t r = (e, t1)) : Well n s t1 := by
 unfold Proofs.YtogljgiefmfafaaGreat.D.unlinkP at hr
 split at hr
 · injection hr with _ hr; subst hr; exact h
 · split at hr
   · injection hr with _ hr; subst hr; exact h
   · split at hr
     · injection hr with _ hr; subst hr; exact h.rmdirR
     · injection hr with _ hr; subst hr; exact h.unlinkR
theorem Well.renameP {n s : Nat} {t : Tr} (h : Well n s t) {r : R} {e : Int} {t1 : Tr} (hr : renameP t r = (e, t1)) : Well n (s + 1) t1 := by
 unfold Proofs.YtogljgiefmfafaaGreat.D.renameP at hr
 split at hr
 · injection hr with _ hr; subst hr; exact h.mono (by omega)
 · split at hr
   · injection hr with _ hr; subst hr; exact h.mono (by omega)
   · split at hr
     · injection hr with _ hr; subst hr; exact h.mono (by omega)
     · split at hr
       · injection hr with _ hr; subst hr; exact h.mono (by omega)
       · exact h.renameR hr
theorem Well.play {n s : Nat} {t : Tr} (h : Well n s t) {r : R} {e : Int} {t1 : Tr} (hr : playR t r = (e, t1)) : Well n (s + 2) t1 := by
 unfold playR at hr
 split at hr
 · obtain ⟨em, tm, hm⟩ : ∃ em tm, Proofs.YtogljgiefmfafaaGreat.D.makeR t r.dir r.name r.kind r.ino = (em, tm) := ⟨_, _, rfl⟩
   rw [hm] at hr
   have w1 := h.makeR hm
   split at hr
   · exact w1.holdR hr
   · injection hr with _ hr; subst hr; exact w1.mono (by omega)
 · split at hr
   · exact (h.linkR hr).mono (by omega)
   · split at hr
     · exact (h.unlinkP hr).mono (by omega)
     · split at hr
       · exact (h.renameP hr).mono (by omega)
       · split at hr
         · exact (h.resizeR hr).mono (by omega)
         · split at hr
           · obtain ⟨em, tm, hm⟩ : ∃ em tm, Proofs.YtogljgiefmfafaaGreat.D.writeR t r.ino r.page r.data = (em, tm) := ⟨_, _, rfl⟩
             rw [hm] at hr
             have w1 := h.writeR hm
             split at hr
             · injection hr with _ hr; subst hr; exact w1.mono (by omega)
             · exact (w1.resizeR hr).mono (by omega)
           · split at hr
             · injection hr with _ hr; subst hr; exact h.mono (by omega)
             · split at hr
               · injection hr with _ hr; subst hr; exact h.mono (by omega)
               · exact (h.dropR hr).mono (by omega)
end Go.Proofs.YtogljgiefmfafaaGreat.D

namespace Go.Proofs.YtogljgiefmfafaaGreat
open Go.RowKit
theorem ret_bool {a b : Bool} (h : a = b) : Ending.returned (.bool a) = .returned (.bool b) := by rw [h]
def plainTo (s : ByteArray) (k : Nat) : Bool := (s.data.toList.take k).all fun c => c != 47 && c != 0
def nameB (s : ByteArray) : Bool := decide (1 ≤ s.size) && decide (s.size ≤ 27) && !(s.toList == [46]) && !(s.toList == [46, 46]) && plainTo s s.size
theorem plainTo_succ {s : ByteArray} {k : Nat} (hk : k < s.size) : plainTo s (k + 1) = (plainTo s k && (s[k] != 47 && s[k] != 0)) := by
 unfold plainTo
 rw [List.take_add_one, List.getElem?_eq_getElem (by simpa using hk), List.all_append]
 simp; rfl
theorem plainTo_bad {s : ByteArray} : ∀ {k m : Nat}, k ≤ m → plainTo s k = false → plainTo s m = false := by
 intro k m hkm h
 unfold plainTo at *
 rw [List.all_eq_false] at *
 obtain ⟨x, hx, hp⟩ := h
 exact ⟨x, List.take_subset_take_left _ hkm hx, hp⟩
theorem byte_eq (c : UInt8) (n : Nat) (hn : n < 256) : ((c.toNat : Int) == (n : Int)) = (c == UInt8.ofNat n) := by
 rw [Bool.eq_iff_iff, beq_iff_eq, beq_iff_eq]
 constructor
 · intro h
   apply UInt8.toNat_inj.1
   rw [UInt8.toNat_ofNat_of_lt' (by simpa using hn)]
   omega
 · intro h
   subst h
   rw [UInt8.toNat_ofNat_of_lt' (by simpa using hn)]
set_option maxHeartbeats 4000000 in
theorem t_name (s : ByteArray) (b : Bool) (hb : nameB s = b) (w : World) (hs : s.size ≤ maxLen) :
  Calls Tryz.prog 58 #[.string s] w fun e w' => e = .returned (.bool b) ∧ w = w' := by
 unfold maxLen at hs
 have HB := Lib.hid hb
 clear hb
 by_cases h1 : 1 ≤ s.size
 · by_cases h2 : s.size ≤ 27
   · by_cases h3 : (s.toList == [46]) = true
     · have HF : Hid (false = b) := by show _ = _; rw [← HB.out]; unfold nameB; simp [h3]
       go_enter Tryz.func58, Tryz.ntmps58
       go_wp2
       go_ret
       exact ⟨ret_bool HF.out, rfl⟩
     · have h3' : (s.toList == [46]) = false := by simpa using h3
       clear h3
       by_cases h4 : (s.toList == [46, 46]) = true
       · have HF : Hid (false = b) := by show _ = _; rw [← HB.out]; unfold nameB; simp [h4]
         go_enter Tryz.func58, Tryz.ntmps58
         go_wp2
         go_ret
         exact ⟨ret_bool HF.out, rfl⟩
       · have h4' : (s.toList == [46, 46]) = false := by simpa using h4
         have HP : Hid (plainTo s s.size = b) := by show _ = _; rw [← HB.out]; unfold nameB; rw [h3', h4']; simp [h1, h2]
         clear h4
         go_enter Tryz.func58, Tryz.ntmps58
         go_wp2
         go_loop [3] (fun i => ∃ k : Nat, k ≤ s.size ∧ i = .int .i64 k ∧ Hid (plainTo s k = true)) (fun i => s.size + 1 - (intOf i).toNat)
         case atStart => exact ⟨0, by omega, rfl, rfl⟩
         case round =>
          obtain ⟨k, hk, rfl, hp⟩ := hrel
          by_cases hkn : k < s.size
          · have hsu := plainTo_succ hkn
            have e47 := byte_eq s[k] 47 (by omega)
            have e0 := byte_eq s[k] 0 (by omega)
            by_cases hq : (s[k] == 47) = true
            · have q1 : ((s[k].toNat : Int) == 47) = true := e47.trans hq
              have HF : Hid (false = b) := by
               show _ = _
               rw [← HP.out, plainTo_bad (k := k + 1) (by omega) (by rw [hsu, hp.out]; simp [bne, hq])]
              clear e47 e0 hq hsu
              go_wp2
              go_ret
              exact ⟨ret_bool HF.out, rfl⟩
            · have q1 : ((s[k].toNat : Int) == 47) = false := e47.trans (by simpa using hq)
              by_cases hz : (s[k] == 0) = true
              · have q2 : ((s[k].toNat : Int) == 0) = true := e0.trans hz
                have HF : Hid (false = b) := by
                 show _ = _
                 rw [← HP.out, plainTo_bad (k := k + 1) (by omega) (by rw [hsu, hp.out]; simp [bne, hz])]
                clear e47 e0 hq hz hsu
                go_wp2
                go_ret
                exact ⟨ret_bool HF.out, rfl⟩
              · have q2 : ((s[k].toNat : Int) == 0) = false := e0.trans (by simpa using hz)
                have HQ : Hid (plainTo s (k + 1) = true) := by
                 show _ = _
                 rw [hsu, hp.out]
                 have a1 : (s[k] == 47) = false := by simpa using hq
                 have a2 : (s[k] == 0) = false := by simpa using hz
                 simp [bne, a1, a2]
                clear e47 e0 hq hz hsu
                go_wp2
                go_round
                case rel => exact ⟨k + 1, by omega, by go_num, HQ⟩
                case measure => simp [intOf]; omega
          · have HF : Hid (true = b) := by
             show _ = _
             rw [← HP.out, show s.size = k by omega]; exact hp.out.symm
            go_wp2
            go_ret
            exact ⟨ret_bool HF.out, rfl⟩
   · have HF : Hid (false = b) := by show _ = _; rw [← HB.out]; unfold nameB; simp [h2]
     go_enter Tryz.func58, Tryz.ntmps58
     go_wp2
     go_ret
     exact ⟨ret_bool HF.out, rfl⟩
 · have HF : Hid (false = b) := by show _ = _; rw [← HB.out]; unfold nameB; simp [h1]
   go_enter Tryz.func58, Tryz.ntmps58
   go_wp2
   go_ret
   exact ⟨ret_bool HF.out, rfl⟩
def needsA (d : Int) : Array Value :=
 if d = 1 ∨ d = 3 then #[.bool true, .bool true, .bool false, .bool false, .bool false]
 else if d = 2 then #[.bool true, .bool false, .bool false, .bool false, .bool false]
 else if d = 4 then #[.bool true, .bool true, .bool true, .bool false, .bool false]
 else if d = 5 then #[.bool false, .bool false, .bool false, .bool true, .bool false]
 else if d = 6 then #[.bool false, .bool false, .bool false, .bool true, .bool true]
 else #[.bool false, .bool false, .bool false, .bool false, .bool false]
set_option maxHeartbeats 2000000 in
theorem t_of_lit (d : Int) (hd : d = 1 ∨ d = 2 ∨ d = 3 ∨ d = 4 ∨ d = 5 ∨ d = 6 ∨ d = 7) (w : World) : Calls Tryz.prog 56 #[.int .u8 d] w fun e w' => e = .returned (.agg (needsA d)) ∧ w.alloc (.cells (needsA d) 107) = w' := by
 rcases hd with rfl | rfl | rfl | rfl | rfl | rfl | rfl
 all_goals
  go_enter Tryz.func56, Tryz.ntmps56
  go_wp2
  exact bodyPost_ret (by simp [results, Tryz.f56, go_sem]; rfl) rfl ⟨rfl, rfl⟩
theorem t_of_other (d : Int) (h1 : d ≠ 1) (h2 : d ≠ 2) (h3 : d ≠ 3) (h4 : d ≠ 4) (h5 : d ≠ 5) (h6 : d ≠ 6) (w : World) : Calls Tryz.prog 56 #[.int .u8 d] w fun e w' => e = .returned (.agg #[.bool false, .bool false, .bool false, .bool false, .bool false]) ∧ w.alloc (.cells #[.bool false, .bool false, .bool false, .bool false, .bool false] 107) = w' := by
 have b1 : (d == 1) = false := by simpa using h1
 have b2 : (d == 2) = false := by simpa using h2
 have b3 : (d == 3) = false := by simpa using h3
 have b4 : (d == 4) = false := by simpa using h4
 have b5 : (d == 5) = false := by simpa using h5
 have b6 : (d == 6) = false := by simpa using h6
 clear h1 h2 h3 h4 h5 h6
 go_enter Tryz.func56, Tryz.ntmps56
 go_wp2
 exact bodyPost_ret (v := .agg #[.bool false, .bool false, .bool false, .bool false, .bool false]) (by simp [results, Tryz.f56, go_sem]) rfl ⟨rfl, rfl⟩
def rinoB (v : Int) : Bool := decide (1 ≤ v) && decide (v ≤ 256)
set_option maxHeartbeats 2000000 in
theorem t_rino (v : Int) (b : Bool) (hb : rinoB v = b) (w : World) : Calls Tryz.prog 57 #[.int .u32 v] w fun e w' => e = .returned (.bool b) ∧ w = w' := by
 have HB := Lib.hid hb
 clear hb
 by_cases h1 : 1 ≤ v
 · go_enter Tryz.func57, Tryz.ntmps57
   go_wp2
   go_ret
   exact ⟨ret_bool (by rw [← HB.out]; unfold rinoB; simp [h1]), rfl⟩
 · go_enter Tryz.func57, Tryz.ntmps57
   go_wp2
   go_ret
   exact ⟨ret_bool (by rw [← HB.out]; unfold rinoB; simp; omega), rfl⟩
def mayB (r : R) : Bool :=
 decide (1 ≤ r.act) && decide (r.act ≤ 7) && rinoB r.ino
 && (if r.act = 1 ∨ r.act = 2 ∨ r.act = 3 ∨ r.act = 4 then rinoB r.dir && nameB r.name else r.dir == 0 && r.name.toList.isEmpty)
 && (if r.act = 1 ∨ r.act = 3 ∨ r.act = 4 then r.kind == 1 || r.kind == 2 else r.kind == 0)
 && (if r.act = 4 then rinoB r.dir2 && nameB r.name2 && decide (r.old ≤ 256) else r.dir2 == 0 && r.name2.toList.isEmpty && r.old == 0)
 && (if r.act = 5 ∨ r.act = 6 then decide (r.size ≤ 2304) else r.size == 0)
 && (if r.act = 6 then decide (0 ≤ r.page) && decide (r.page < 36) && r.data.size == 64 else r.page == 0 && r.data.toList.isEmpty)
end Go.Proofs.YtogljgiefmfafaaGreat
