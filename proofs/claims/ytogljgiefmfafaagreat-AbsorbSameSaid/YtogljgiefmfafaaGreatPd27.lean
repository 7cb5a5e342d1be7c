/- Rows played, as the laws of absorb play them, walked. -/
import Derived.Test.YtogljgiefmfafaaGreatPd13
import Derived.Test.YtogljgiefmfafaaGreatPd26
namespace Go.Proofs.YtogljgiefmfafaaGreat
open Go.RowKit Go.Maps
def AtO (w : World) (P : Nat) (t : PT) (l : List R) (k : Nat) (wr : World) : Prop := ∃ u, Own w.heap.size w P (1 + 2 * k) u wr ∧ runA t (l.take k) = some u
set_option maxRecDepth 100000 in
set_option maxHeartbeats 16000000 in
theorem t_plays24 (q : Nat) (hq1 : 2 ≤ q) (hq2 : q ≤ 256) (A : Option Addr) (n c : Nat) (l : List R) (w : World) (hl : RecsAt w A l) (hn : l.length = n) (hn2 : n ≤ 1000) :
  Calls Tryz.prog 8 #[.int .i64 (q : Int), .slice A n c] w (PlaysQ (q : Int) l w) := by
 have HL := Lib.hid hl
 have HN := Lib.hid hn
 clear hl hn
 go_enter Tryz.func8, Tryz.ntmps8
 go_wp2_with (go_at_call 24; with_reducible refine (D.t_new q (by omega) (by omega) _).mono ?_; rintro e w4 ⟨P2, G2, rfl, hD, hb, _, hG⟩; have HD := Lib.hid hD; have HB4 := Lib.hid hb; have HG := Lib.hid hG; clear hD hb hG)
 have HS0 : Hid (AtD w (q : Int) l P2 G2 0 w4) := ⟨_, _, HD.out, HG.out, HB4.out, Pl.start' q (by omega) (by omega), rfl⟩
 clear HD HG HB4
 go_loopw [6] (fun v wr => ∃ k : Nat, v = .int .i64 (k : Int) ∧ k ≤ n ∧ Hid (AtD w (q : Int) l P2 G2 k wr)) (fun v _ => n - (intOf v).toNat)
 case atStart => exact ⟨0, rfl, Nat.zero_le _, HS0.out⟩
 case round =>
  clear HS0
  obtain ⟨k, rfl, hk, HA⟩ := hrel
  obtain ⟨t, d, hD, hG, hB, hP, hR⟩ := HA.out
  have HD := Lib.hid hD
  have HG := Lib.hid hG
  have HB := Lib.hid hB
  have HP := Lib.hid hP
  have HRun := Lib.hid hR
  clear hD hG hB hP hR HA
  by_cases he : k = n
  · subst he
    go_wp2
    go_ret
    exact ⟨true, rfl, fun _ => ⟨t, by have := HRun.out; rw [List.take_of_length_le (Nat.le_of_eq HN.out)] at this; exact this⟩, HB.out⟩
  · have hkn : k < n := by omega
    have hx := rAt_at (l := l) (k := k) (by rw [HN.out]; exact hkn)
    obtain ⟨r, hr⟩ : ∃ r, r = rAt l k := ⟨_, rfl⟩
    rw [← hr] at hx
    have hrt := (HL.out.ok r (List.mem_of_getElem? hx)).texts
    have hcc : ∀ W, Below w.heap.size w W → ∀ b o, A = some ⟨b, o, none⟩ → (W.cell? ⟨b, o + k * 12, none⟩ = some (.int .u64 r.stamp) ∧ W.cell? ⟨b, o + k * 12 + 1, none⟩ = some (.int .u8 r.act) ∧ W.cell? ⟨b, o + k * 12 + 2, none⟩ = some (.int .u32 r.dir) ∧ W.cell? ⟨b, o + k * 12 + 3, none⟩ = some (.string r.name) ∧ W.cell? ⟨b, o + k * 12 + 4, none⟩ = some (.int .u32 r.ino) ∧ W.cell? ⟨b, o + k * 12 + 5, none⟩ = some (.int .u8 r.kind) ∧ W.cell? ⟨b, o + k * 12 + 6, none⟩ = some (.int .u32 r.dir2) ∧ W.cell? ⟨b, o + k * 12 + 7, none⟩ = some (.string r.name2) ∧ W.cell? ⟨b, o + k * 12 + 8, none⟩ = some (.int .u32 r.old) ∧ W.cell? ⟨b, o + k * 12 + 9, none⟩ = some (.int .u32 r.size) ∧ W.cell? ⟨b, o + k * 12 + 10, none⟩ = some (.int .i64 r.page) ∧ W.cell? ⟨b, o + k * 12 + 11, none⟩ = some (.string r.data)) := fun W hb b o hA => by
     obtain ⟨b', o', hA', _, hc⟩ := (HL.out.below hb).at_ (fun e => by rw [e] at hx; simp at hx)
     rw [hA] at hA'
     cases hA'
     have f := hc k r hx
     exact ⟨f 0 _ rfl, f 1 _ rfl, f 2 _ rfl, f 3 _ rfl, f 4 _ rfl, f 5 _ rfl, f 6 _ rfl, f 7 _ rfl, f 8 _ rfl, f 9 _ rfl, f 10 _ rfl, f 11 _ rfl⟩
    obtain ⟨b, o, rfl, _⟩ := HL.out.at_ (fun e => by rw [e] at hx; simp at hx)
    have hcc2 := fun W hb => hcc W hb b o rfl
    have HC := Lib.hid hcc2
    obtain ⟨c0, c1, c2, c3, c4, c5, c6, c7, c8, c9, c10, c11⟩ := hcc2 _ HB.out
    obtain ⟨a, t', hpa⟩ : ∃ a t', playA t r = (a, t') := ⟨_, _, rfl⟩
    obtain ⟨a2, d', hpo⟩ : ∃ a2 d', playO d r = (a2, d') := ⟨_, _, rfl⟩
    obtain ⟨e1, hP'⟩ := HP.out.record (r := r) hrt.ok
    rw [hpa, hpo] at e1 hP'
    simp only at e1 hP'
    subst e1
    have hfine : D.Fine d := HP.out.wr.fine (by omega)
    have hmay := fun W => t_may r W hrt.name hrt.name2 hrt.data
    rw [mayB_check] at hmay
    have hrun2 : a2 = 0 → runA (newT (q : Int)) (l.take (k + 1)) = some t' := fun h0 => by
     rw [List.take_add_one, hx]
     refine runA_append.2 ⟨t, HRun.out, runA_one.2 ?_⟩
     rw [hpa]
     exact ⟨h0, rfl⟩
    have HR2 := Lib.hid hrun2
    have HP' := Lib.hid hP'
    cases hc : checkB r with
    | true =>
     rw [hc] at hmay
     have h2 := fun W (hD : D.TreeAt W P2 G2 d) => D.t_play P2 G2 d r W hD hfine hrt (check_one hc) a2 d' (by unfold playO at hpo; rw [if_pos hc] at hpo; exact hpo)
     unfold R.val at hmay h2
     have H2 := Lib.hid h2
     have HMay := Lib.hid hmay
     clear h2 hmay hx hcc hcc2 hpa hpo hP' hfine hc hrt hr he hrun2
     have hgrow : ∀ W W', Below w.heap.size w W → W.grownBy W' (some G2) → Below w.heap.size w W' := fun W W' h1 h2 => ⟨h2.os.trans h1.os, h2.tape.trans h1.tape, h2.output.trans h1.output, Nat.le_trans h1.size h2.size, fun b hb => (h2.block b (Nat.lt_of_lt_of_le hb h1.size) (fun e => by have := HG.out; injection e; omega)).trans (h1.block b hb)⟩
     have HGr := Lib.hid hgrow
     clear hgrow
     by_cases h0 : a2 = 0
     · have h0b : (a2 != 0) = false := by simpa using h0
       have h0c : (a2 == 0) = true := by simpa using h0
       have HZ := Lib.hid h0
       clear h0
       go_wp2_with (first
        | (go_at_call 25; (with_reducible refine (HMay.out _).mono ?_); rintro e w5 ⟨rfl, hb⟩; replace HD := Lib.hid (HD.out.below hb); replace HB := Lib.hid (ptrans HB.out hb); clear c0 c1 c2 c3 c4 c5 c6 c7 c8 c9 c10 c11; obtain ⟨c0, c1, c2, c3, c4, c5, c6, c7, c8, c9, c10, c11⟩ := HC.out _ HB.out; clear hb)
        | (go_at_call 26; (with_reducible refine (H2.out _ HD.out).mono ?_); rintro e w6 ⟨rfl, h, hg⟩; have HD2 := Lib.hid h; replace HB := Lib.hid (HGr.out _ _ HB.out hg); clear h hg))
       go_roundw
       case rel => exact ⟨k + 1, by go_num, by omega, t', d', HD2.out, HG.out, HB.out, HP'.out, HR2.out HZ.out⟩
       case measure => simp [intOf]; omega
     · have h0b : (a2 != 0) = true := by simpa using h0
       have h0c : (a2 == 0) = false := by simpa using h0
       clear h0
       go_wp2_with (first
        | (go_at_call 25; (with_reducible refine (HMay.out _).mono ?_); rintro e w5 ⟨rfl, hb⟩; replace HD := Lib.hid (HD.out.below hb); replace HB := Lib.hid (ptrans HB.out hb); clear c0 c1 c2 c3 c4 c5 c6 c7 c8 c9 c10 c11; obtain ⟨c0, c1, c2, c3, c4, c5, c6, c7, c8, c9, c10, c11⟩ := HC.out _ HB.out; clear hb)
        | (go_at_call 26; (with_reducible refine (H2.out _ HD.out).mono ?_); rintro e w6 ⟨rfl, h, hg⟩; have HD2 := Lib.hid h; replace HB := Lib.hid (HGr.out _ _ HB.out hg); clear h hg))
       go_ret
       exact PlaysQ.no HB.out
    | false =>
     rw [hc] at hmay
     unfold R.val at hmay
     have HMay := Lib.hid hmay
     clear hmay hx hcc hcc2 hpa hpo hP' hfine hc hrt hr he hrun2
     go_wp2_with (go_at_call 25; (with_reducible refine (HMay.out _).mono ?_); rintro e w5 ⟨rfl, hb⟩; replace HB := Lib.hid (ptrans HB.out hb); clear hb)
     go_ret
     exact PlaysQ.no HB.out
set_option maxRecDepth 100000 in
set_option maxHeartbeats 16000000 in
theorem t_played24 (q : Nat) (hq1 : 2 ≤ q) (hq2 : q ≤ 256) (A : Option Addr) (n c : Nat) (l : List R) (u : PT) (w : World)
  (hl : RecsAt w A l) (hn : l.length = n) (hn2 : n ≤ 1000) (hr : runA (newT (q : Int)) l = some u) :
  Calls Tryz.prog 10 #[.int .i64 (q : Int), .slice A n c] w fun e w' => ∃ P, e = .returned (.pointer (some ⟨P, 0, none⟩)) ∧ Own w.heap.size w P (1 + 2 * n) u w' := by
 have hok : ∀ r ∈ l, r.Texts := fun r hr => (hl.ok r hr).texts
 have HL := Lib.hid hl
 have HN := Lib.hid hn
 have HR := Lib.hid hr
 have HOk := Lib.hid hok
 clear hl hn hr hok
 go_enter Tryz.func10, Tryz.ntmps10
 go_wp2_with (go_at_call 16; with_reducible refine (own_new (q : Int) w (by omega) (by omega)).mono ?_; rintro e w4 ⟨P, rfl, hb⟩; have J0 := Lib.hid hb; clear hb)
 have HS0 : Hid (AtO w P (newT (q : Int)) l 0 w4) := ⟨_, J0.out, rfl⟩
 clear J0
 go_loopw [7] (fun v wr => ∃ k : Nat, v = .int .i64 (k : Int) ∧ k ≤ n ∧ Hid (AtO w P (newT (q : Int)) l k wr)) (fun v _ => n - (intOf v).toNat)
 case atStart => exact ⟨0, rfl, Nat.zero_le _, HS0.out⟩
 case round =>
  clear HS0
  obtain ⟨k, rfl, hk, HA⟩ := hrel
  obtain ⟨v, hP, hv⟩ := HA.out
  have HP := Lib.hid hP
  have HV := Lib.hid hv
  clear hP hv HA
  by_cases he : k = n
  · subst he
    have hvu : v = u := by
     have h1 := HV.out
     rw [List.take_of_length_le (Nat.le_of_eq HN.out), HR.out] at h1
     exact (Option.some.inj h1).symm
    have HVU := Lib.hid hvu
    clear hvu
    go_wp2
    go_ret
    exact ⟨_, rfl, HVU.out ▸ HP.out⟩
  · have hkn : k < n := by omega
    have hx := rAt_at (l := l) (k := k) (by rw [HN.out]; exact hkn)
    obtain ⟨r, hr⟩ : ∃ r, r = rAt l k := ⟨_, rfl⟩
    rw [← hr] at hx
    have hrt := HOk.out r (List.mem_of_getElem? hx)
    obtain ⟨bb, o, rfl, _, hc⟩ := (HL.out.below HP.out.mem).at_ (fun e => by rw [e] at hx; simp at hx)
    have f6 := hc k r hx
    have r0 := f6 0 _ rfl
    rw [Nat.add_zero] at r0
    have r1 := f6 1 _ rfl
    have r2 := f6 2 _ rfl
    have r3 := f6 3 _ rfl
    have r4 := f6 4 _ rfl
    have r5 := f6 5 _ rfl
    have r6 := f6 6 _ rfl
    have r7 := f6 7 _ rfl
    have r8 := f6 8 _ rfl
    have r9 := f6 9 _ rfl
    have r10 := f6 10 _ rfl
    have r11 := f6 11 _ rfl
    have hsplit : l = l.take k ++ r :: l.drop (k + 1) := by
     have h1 := List.take_append_drop k l
     rw [List.drop_eq_getElem_cons (by rw [HN.out]; exact hkn)] at h1
     have h2 : l[k]'(by rw [HN.out]; exact hkn) = r := by
      have := hx
      rw [List.getElem?_eq_getElem (by rw [HN.out]; exact hkn)] at this
      exact Option.some.inj this
     rw [h2] at h1
     exact h1.symm
    have hr2 := HR.out
    rw [hsplit] at hr2
    obtain ⟨v', e1, e2⟩ := runA_append.1 hr2
    have hvv : v' = v := by
     have := HV.out
     rw [e1] at this
     exact Option.some.inj this
    rw [hvv] at e2
    obtain ⟨e3, e4⟩ := runA_cons.1 e2
    obtain ⟨f, t1, hf⟩ : ∃ f t1, playA v r = (f, t1) := ⟨_, _, rfl⟩
    have hf0 : f = 0 := by rw [hf] at e3; exact e3
    subst hf0
    have hkv : HeldK (0 + k) v := by
     have := runA_held (heldK_newT (q : Int)) (by omega) HV.out
     refine this.mono ?_
     rw [List.length_take]
     omega
    have g1 := own_recK r hrt 0 t1 hf HP.out (hkv.mono (by omega)) (by omega)
    have hrun2 : runA (newT (q : Int)) (l.take (k + 1)) = some t1 := by
     rw [List.take_add_one, hx]
     refine runA_append.2 ⟨v, HV.out, runA_one.2 ?_⟩
     rw [hf]
     exact ⟨rfl, rfl⟩
    unfold R.val at g1
    have H1 := Lib.hid g1
    have HR2 := Lib.hid hrun2
    clear hc hx f6 hr hrt g1 hf he hsplit hr2 e1 e2 e3 e4 hvv hkv hrun2
    go_wp2_with (go_at_call 27; (with_reducible refine H1.out.mono ?_); rintro e x2 ⟨rfl, hb, _⟩; have J2 := Lib.hid hb; clear hb)
    go_roundw
    case rel => exact ⟨k + 1, by go_num, by omega, t1, J2.out, HR2.out⟩
    case measure => simp [intOf]; omega
end Go.Proofs.YtogljgiefmfafaaGreat

namespace Go.Proofs.YtogljgiefmfafaaGreat
open Go.RowKit Go.Maps
section
open Classical
noncomputable def cutL (L : Int → Prop) (l : List UInt8 → Option Int) : List UInt8 → Option Int := fun s => match l s with
 | some v => if L v then none else some v
 | none => none
noncomputable def FN (L : Int → Prop) (i : Int) (P : Int → Option (List UInt8)) (z : Int) (j : Int) (x : PN) : PN := { x with l := cutL L x.l, pages := if j = i then P else x.pages, size := if j = i then z else x.size }
noncomputable def FT (L : Int → Prop) (i : Int) (P : Int → Option (List UInt8)) (z : Int) (t : PT) : PT := { t with n := fun j => if L j then none else (t.n j).map (FN L i P z j) }
end
section
variable {L : Int → Prop} {i z : Int} {P : Int → Option (List UInt8)} {t : PT} {j k d v : Int} {x y : PN} {s : ByteArray} {q : List UInt8}
theorem cutL_none {l : List UInt8 → Option Int} (h : l q = none) : cutL L l q = none := by unfold cutL; rw [h]
theorem cutL_some {l : List UInt8 → Option Int} (h : l q = some v) (hv : ¬ L v) : cutL L l q = some v := by unfold cutL; rw [h]; simp only; rw [if_neg hv]
theorem cutL_upd {l : List UInt8 → Option Int} (hv : ¬ L v) : cutL L (updL l q v) = updL (cutL L l) q v := by
 funext c
 by_cases e : c = q
 · subst e
   rw [cutL_some (v := v) (by unfold updL; rw [if_pos rfl]) hv]
   unfold updL
   rw [if_pos rfl]
 · unfold cutL
   rw [updL_ne e, updL_ne e]
theorem cutL_del {l : List UInt8 → Option Int} : cutL L (delL l q) = delL (cutL L l) q := by
 funext c
 by_cases e : c = q
 · subst e
   rw [cutL_none (by unfold delL; rw [if_pos rfl])]
   unfold delL
   rw [if_pos rfl]
 · unfold cutL
   rw [delL_ne e, delL_ne e]
theorem FN_kind : (FN L i P z j x).kind = x.kind := rfl
theorem FN_l : (FN L i P z j x).l = cutL L x.l := rfl
theorem FN_upd (hv : ¬ L v) : FN L i P z j { x with l := updL x.l q v } = { FN L i P z j x with l := updL (FN L i P z j x).l q v } := by
 unfold FN
 simp only [cutL_upd hv]
theorem FN_del : FN L i P z j { x with l := delL x.l q } = { FN L i P z j x with l := delL (FN L i P z j x).l q } := by
 unfold FN
 simp only [cutL_del]
theorem FN_in : FN L i P z j (inN x d) = inN (FN L i P z j x) d := by
 unfold inN
 rw [FN_kind]
 split <;> rfl
theorem FN_out : FN L i P z j (outN x) = outN (FN L i P z j x) := by
 unfold outN
 rw [FN_kind]
 split <;> rfl
theorem FT_some (h : t.n j = some x) (hL : ¬ L j) : (FT L i P z t).n j = some (FN L i P z j x) := by
 unfold FT
 simp only
 rw [if_neg hL, h]
 rfl
theorem FT_none (h : t.n j = none) : (FT L i P z t).n j = none := by
 unfold FT
 simp only
 rw [h]
 split <;> rfl
theorem FT_in (hL : L j) : (FT L i P z t).n j = none := by
 unfold FT
 simp only
 rw [if_pos hL]
theorem FT_congr {u : PT} (h : t.n j = u.n j) : (FT L i P z t).n j = (FT L i P z u).n j := by
 unfold FT
 simp only
 rw [h]
theorem FT_isSome (hL : ¬ L j) : ((FT L i P z t).n j).isSome = (t.n j).isSome := by
 cases h : t.n j with
 | none => rw [FT_none h]
 | some x => rw [FT_some h hL]; rfl
theorem FT_set (hL : ¬ L k) : FT L i P z (t.set k x) = (FT L i P z t).set k (FN L i P z k x) := by
 refine PT.ext' rfl fun j => ?_
 rw [PT.set_n]
 by_cases e : j = k
 · subst e
   rw [if_pos rfl]
   exact FT_some (by rw [PT.set_n, if_pos rfl]) hL
 · rw [if_neg e]
   exact FT_congr (by rw [PT.set_n, if_neg e])
theorem FT_del : FT L i P z (t.del k) = (FT L i P z t).del k := by
 refine PT.ext' rfl fun j => ?_
 rw [PT.del_n]
 by_cases e : j = k
 · rw [if_pos e]
   exact FT_none (by rw [PT.del_n, if_pos e])
 · rw [if_neg e]
   exact FT_congr (by rw [PT.del_n, if_neg e])
theorem FT_enter (hd : ¬ L d) (hk : ¬ L k) : FT L i P z (enterT t d x s k y) = enterT (FT L i P z t) d (FN L i P z d x) s k (FN L i P z k y) := by
 unfold enterT
 rw [FT_set hk, FT_set hd, FN_in, FN_upd hk]
theorem FT_leave (hd : ¬ L d) (hk : ¬ L k) : FT L i P z (leaveT t d x s k y) = leaveT (FT L i P z t) d (FN L i P z d x) s k (FN L i P z k y) := by
 unfold leaveT
 rw [FT_set hd, FT_set hk, FN_out, FN_del]
theorem gone_FN : goneB k (FN L i P z j x) = goneB k x := rfl
theorem FT_free (_hk : ¬ L k) : FT L i P z (freeP t k y) = freeP (FT L i P z t) k (FN L i P z k y) := by
 unfold freeP
 rw [gone_FN]
 split
 · exact FT_del
 · rfl
theorem FT_drop (hd : ¬ L d) (hk : ¬ L k) : FT L i P z (dropT t d x s k y) = dropT (FT L i P z t) d (FN L i P z d x) s k (FN L i P z k y) := by
 unfold dropT
 rw [FT_free hk, FT_leave hd hk, FN_out]
theorem empty_FN (h : emptyB x.l = true) : emptyB (FN L i P z j x).l = true := by
 rw [emptyB_iff] at h ⊢
 intro c
 exact cutL_none (h c)
theorem FT_there {is : List Int} (h : ∀ a ∈ is, ¬ L a) : thereE (FT L i P z t) is = thereE t is := there_congr fun a ha => FT_isSome (h a ha)
theorem FT_dirs {is : List Int} (h : ∀ a ∈ is, ¬ L a) : dirsE (FT L i P z t) is = dirsE t is := by
 have e : is.any (isFile (FT L i P z t)) = is.any (isFile t) := by
  induction is with
  | nil => rfl
  | cons a is ih =>
   rw [List.any_cons, List.any_cons, ih fun b hb => h b (List.mem_cons_of_mem _ hb)]
   congr 1
   unfold isFile
   cases hx : t.n a with
   | none => rw [FT_none hx]
   | some x => rw [FT_some hx (h a (by simp))]; rfl
 unfold dirsE
 rw [e]
theorem FT_look (hd : ¬ L d) {v : Int} (hv : ¬ L v) (h : lookP t d s = (v, 0)) (h0 : v ≠ 0) : lookP (FT L i P z t) d s = (v, 0) := by
 unfold lookP at h ⊢
 rw [FT_there (is := [d]) (by simpa using hd), FT_dirs (is := [d]) (by simpa using hd)]
 split
 · rename_i h1
   rw [if_pos h1] at h
   injection h with h2 h3
   exact absurd h2.symm h0
 · rename_i h1
   rw [if_neg h1] at h
   cases hx : t.n d with
   | none =>
    rw [hx] at h
    injection h with h2 _
    exact absurd h2.symm h0
   | some x =>
    rw [hx] at h
    rw [FT_some hx hd]
    simp only at h ⊢
    injection h with h2 h3
    cases hl : x.l s.data.toList with
    | none =>
     rw [hl] at h2
     exact absurd h2.symm h0
    | some w =>
     rw [hl] at h2
     have : w = v := h2
     subst this
     rw [FN_l, cutL_some hl hv]
     simp [h0]
theorem FT_lookNo (hd : ¬ L d) (h : (lookP t d s).1 = 0) : (lookP (FT L i P z t) d s).1 = 0 := by
 unfold lookP at h ⊢
 rw [FT_there (is := [d]) (by simpa using hd), FT_dirs (is := [d]) (by simpa using hd)]
 split
 · rfl
 · rename_i h1
   rw [if_neg h1] at h
   cases hx : t.n d with
   | none => rw [FT_none hx]
   | some x =>
    rw [hx] at h
    rw [FT_some hx hd]
    simp only at h ⊢
    cases hl : x.l s.data.toList with
    | none => rw [FN_l, cutL_none hl]; rfl
    | some w =>
     rw [hl] at h
     have : w = 0 := h
     subst this
     rw [FN_l]
     unfold cutL
     rw [hl]
     simp only
     split <;> rfl
theorem FT_fresh (hd : ¬ L d) (h : freshE' t d s = 0) : freshE' (FT L i P z t) d s = 0 := by
 unfold freshE' at h ⊢
 cases hx : t.n d with
 | none => rw [FT_none hx]
 | some x =>
  rw [hx] at h
  rw [FT_some hx hd]
  simp only at h ⊢
  unfold freshE at h ⊢
  cases hl : x.l s.data.toList with
  | none => rw [FN_l, cutL_none hl]; rfl
  | some w =>
   rw [hl] at h
   by_cases hw : w = 0
   · subst hw
     rw [FN_l]
     unfold cutL
     rw [hl]
     simp only
     split <;> rfl
   · have h' : (if (w != 0) = true then (9 : Int) else 0) = 0 := h
     rw [if_pos (by simpa using hw)] at h'
     cases h'
theorem FT_file (hk : ¬ L k) : fileE' (FT L i P z t) k = fileE' t k := by
 unfold fileE'
 cases hx : t.n k with
 | none => rw [FT_none hx]
 | some x => rw [FT_some hx hk]; rfl
theorem FT_linksE (hk : ¬ L k) : linksE' (FT L i P z t) k = linksE' t k := by
 unfold linksE'
 cases hx : t.n k with
 | none => rw [FT_none hx]
 | some x => rw [FT_some hx hk]; rfl
theorem FT_heldE (hk : ¬ L k) : heldE' (FT L i P z t) k = heldE' t k := by
 unfold heldE'
 cases hx : t.n k with
 | none => rw [FT_none hx]
 | some x => rw [FT_some hx hk]; rfl
def FilesL (L : Int → Prop) (t : PT) : Prop := ∀ a, L a → ∀ x, t.n a = some x → x.kind ≠ 2
theorem FT_bel (h : WellP t) (hf : FilesL L t) {xb : PN} (hb : t.n d = some xb) (hk : xb.kind = 2) (top : Int) : Bel (FT L i P z t) top d ↔ Bel t top d := by
 refine bel_keeps h (fun j x hx hxk _ => ?_) hb hk top
 have hL : ¬ L j := fun c => hf j c x hx hxk
 unfold upAt
 rw [FT_some hx hL, hx]
 rfl
theorem first_zero : ∀ {es : List Int}, firstE es = 0 ↔ ∀ e ∈ es, e = 0
 | [] => by simp [firstE]
 | e :: es => by
  constructor
  · intro h
    obtain ⟨h1, h2⟩ := firstE_cons h
    intro a ha
    rcases List.mem_cons.1 ha with rfl | ha
    · exact h1
    · exact (first_zero.1 h2) a ha
  · intro h
    unfold firstE
    rw [if_pos (h e (by simp))]
    exact first_zero.2 fun a ha => h a (List.mem_cons_of_mem _ ha)
theorem FT_makeAt {kind ino : Int} {t' : PT} (hd : ¬ L d) (hk : ¬ L ino) (hi : ino ≠ i) (h : makeAtP t d s kind ino = (0, t')) : makeAtP (FT L i P z t) d s kind ino = (0, FT L i P z t') := by
 unfold makeAtP at h ⊢
 split at h
 · rename_i h0
   have e := h0
   unfold makeAtE at e
   rw [first_zero] at e
   simp only [List.mem_cons, List.not_mem_nil, or_false, forall_eq_or_imp, forall_eq] at e
   obtain ⟨e1, e2, e3, e4, e5, e6, e7⟩ := e
   have g : makeAtE (FT L i P z t) d s kind ino = 0 := by
    unfold makeAtE
    rw [first_zero]
    simp only [List.mem_cons, List.not_mem_nil, or_false, forall_eq_or_imp, forall_eq]
    refine ⟨e1, e2, e3, ?_, ?_, FT_fresh hd e6, ?_⟩
    · rw [FT_there (is := [d]) (by simpa using hd)]; exact e4
    · rw [FT_dirs (is := [d]) (by simpa using hd)]; exact e5
    · unfold haveE at e7 ⊢
      rw [FT_isSome hk]
      exact e7
   rw [if_pos g]
   injection h with _ h
   subst h
   congr 1
   obtain ⟨_, _, _, ⟨xd, hx, _, _⟩, hn⟩ := makeAtE_zero h0
   unfold makeT
   rw [hx, FT_some hx hd]
   simp only
   rw [FT_enter hd hk, FT_set hk]
   have e : FN L i P z ino (newN kind) = newN kind := by
    unfold FN newN
    simp only [if_neg hi]
    congr 1
   rw [e]
 · rename_i h0
   injection h with h1 _
   exact absurd h1 h0
theorem FT_hold {t' : PT} (hk : ¬ L k) (h : holdP t k = (0, t')) : holdP (FT L i P z t) k = (0, FT L i P z t') := by
 unfold holdP at h ⊢
 have e : holdE (FT L i P z t) k = holdE t k := by
  unfold holdE
  rw [FT_there (is := [k]) (by simpa using hk), FT_file hk]
 rw [e]
 split at h
 · rename_i h0
   rw [if_pos h0]
   injection h with _ h
   subst h
   congr 1
   cases hx : t.n k with
   | none => rw [FT_none hx]
   | some x =>
    rw [FT_some hx hk]
    simp only
    rw [FT_set hk]
    rfl
 · rename_i h0
   injection h with h1 _
   exact absurd h1 h0
theorem FT_link {t' : PT} (hd : ¬ L d) (hk : ¬ L k) (h : linkP t d s k = (0, t')) : linkP (FT L i P z t) d s k = (0, FT L i P z t') := by
 unfold linkP at h ⊢
 split at h
 · rename_i h0
   have e := h0
   unfold linkE at e
   rw [first_zero] at e
   simp only [List.mem_cons, List.not_mem_nil, or_false, forall_eq_or_imp, forall_eq] at e
   obtain ⟨e1, e2, e3, e4, e5, e6⟩ := e
   have g : linkE (FT L i P z t) d s k = 0 := by
    unfold linkE
    rw [first_zero]
    simp only [List.mem_cons, List.not_mem_nil, or_false, forall_eq_or_imp, forall_eq]
    refine ⟨e1, ?_, ?_, ?_, FT_fresh hd e5, ?_⟩
    · rw [FT_there (is := [d, k]) (by intro a ha; simp at ha; rcases ha with rfl | rfl <;> assumption)]; exact e2
    · rw [FT_dirs (is := [d]) (by simpa using hd)]; exact e3
    · rw [FT_file hk]; exact e4
    · rw [FT_linksE hk]; exact e6
   rw [if_pos g]
   injection h with _ h
   subst h
   congr 1
   unfold linkT
   cases hx : t.n d with
   | none => rw [FT_none hx]
   | some xd =>
    rw [FT_some hx hd]
    cases hy : t.n k with
    | none => rw [FT_none hy]
    | some xi =>
     rw [FT_some hy hk]
     exact (FT_enter hd hk).symm
 · rename_i h0
   injection h with h1 _
   exact absurd h1 h0
theorem FT_dropP (h : WellP t) (hd : ¬ L d) {v : Int} (hv : ¬ L v) (hl : lookP t d s = (v, 0)) (q : PN → Int) (hq : ∀ x, q x = 0 → q (FN L i P z v x) = 0) (h0 : (dropP t d s q).1.2 = 0) :
  (dropP (FT L i P z t) d s q).1.2 = 0 ∧ (dropP (FT L i P z t) d s q).2 = FT L i P z (dropP t d s q).2 := by
 obtain ⟨xd, xi, hxd, hx, hi, hne, _⟩ := look_zero h (by rw [hl])
 rw [hl] at hx hi hne
 simp only at hx hi hne
 have hv0 : v ≠ 0 := by have := (h.range v xi hi).1; omega
 have hl2 := FT_look (i := i) (P := P) (z := z) hd hv hl hv0
 unfold dropP at h0 ⊢
 rw [hl] at h0 ⊢
 rw [hl2]
 simp only [ne_eq, not_true_eq_false, if_false] at h0 ⊢
 rw [hxd, hi] at h0 ⊢
 rw [FT_some hxd hd, FT_some hi hv]
 simp only at h0 ⊢
 by_cases c : q xi = 0
 · have c2 := hq xi c
   have m1 : ¬ ¬ q xi = 0 := fun n => n c
   have m2 : ¬ ¬ q (FN L i P z v xi) = 0 := fun n => n c2
   rw [if_neg m1, if_neg m2]
   exact ⟨rfl, (FT_drop hd hv).symm⟩
 · rw [if_pos c] at h0
   exact absurd h0 c
theorem FT_move {a b : Int} {s s2 : ByteArray} {xa xb y : PN} (ha : ¬ L a) (hb : ¬ L b) (hk : ¬ L k) (hxa : t.n a = some xa) (hy : t.n k = some y) (hxb : t.n b = some xb) (hka : k ≠ a) (hkb : k ≠ b) :
  FT L i P z (moveT t a s b s2 k) = moveT (FT L i P z t) a s b s2 k := by
 have h3 : ∃ xb', (leaveT t a xa s k y).n b = some xb' := by
  rw [leave_n hka]
  split
  · exact ⟨_, rfl⟩
  · rw [if_neg (fun e => hkb e.symm)]
    exact ⟨_, hxb⟩
 obtain ⟨xb', h3⟩ := h3
 unfold moveT
 rw [hxa, hy, FT_some hxa ha, FT_some hy hk]
 simp only
 rw [h3, ← FT_leave ha hk, FT_some h3 hb]
 simp only
 rw [FT_enter hb hk, FN_out]
theorem gives_of {x old : PN} (h1 : old.kind = 2 ↔ x.kind = 2) (h2 : ∀ k, old.l k = none) : givesE x old = 0 := by
 have h3 := emptyB_iff.2 h2
 unfold givesE
 by_cases c : x.kind = 2
 · simp [c, h1.2 c, h3]
 · have c2 : old.kind ≠ 2 := fun e => c (h1.1 e)
   simp [c, c2, h3]
theorem FT_rename (h : WellP t) (hf : FilesL L t) {a b : Int} {s s2 : ByteArray} {ino old : Int} {t' : PT} (ha : ¬ L a) (hb : ¬ L b) (hk : ¬ L ino) (hold : ¬ L old) (hl : lookP t a s = (ino, 0)) (ho : (lookP t b s2).1 = old) (hr : renameP t a s b s2 = (0, t')) :
  renameP (FT L i P z t) a s b s2 = (0, FT L i P z t') := by
 obtain ⟨xd, xi, hxd, hx, hi, hne, hdk⟩ := look_zero h (by rw [hl])
 rw [hl] at hx hi hne
 simp only at hx hi hne
 have hv0 : ino ≠ 0 := by have := (h.range ino xi hi).1; omega
 have hl2 := FT_look (i := i) (P := P) (z := z) ha hk hl hv0
 unfold renameP at hr ⊢
 rw [FT_there (is := [a, b]) (by intro c hc; simp at hc; rcases hc with rfl | rfl <;> assumption), FT_dirs (is := [a, b]) (by intro c hc; simp at hc; rcases hc with rfl | rfl <;> assumption), hl2]
 rw [hl] at hr
 by_cases h1 : firstE [namesE [s, s2], thereE t [a, b], dirsE t [a, b]] = 0
 · have m1 : ¬ firstE [namesE [s, s2], thereE t [a, b], dirsE t [a, b]] ≠ 0 := fun n => n h1
   rw [if_neg m1] at hr ⊢
   simp only [ne_eq, not_true_eq_false, if_false] at hr ⊢
   obtain ⟨xa, xb, hxa, hxb, hak, hbk⟩ := rename_dirs h1
   rw [hi, hxb] at hr
   rw [FT_some hi hk, FT_some hxb hb]
   simp only at hr ⊢
   have hbel := FT_bel (i := i) (P := P) (z := z) h hf hxb hbk ino
   by_cases h2 : xi.kind = 2 ∧ Bel t ino b
   · rw [if_pos h2] at hr
     injection hr with c _
     cases c
   · rw [if_neg h2] at hr
     have h2' : ¬ ((FN L i P z ino xi).kind = 2 ∧ Bel (FT L i P z t) ino b) := fun c => h2 ⟨c.1, hbel.1 c.2⟩
     rw [if_neg h2']
     have hib : ino ≠ b := fun e => by
      rw [← e, hi] at hxb
      cases hxb
      exact h2 ⟨hbk, e ▸ bel_self hv0⟩
     obtain ⟨n1, n2, n3⟩ := names_both' (firstE_cons h1).1
     cases hxl : xb.l s2.data.toList with
     | none =>
      rw [hxl] at hr
      rw [FN_l, cutL_none hxl]
      simp only at hr ⊢
      injection hr with _ hr
      subst hr
      congr 1
      exact (FT_move ha hb hk hxd hi hxb hne hib).symm
     | some w =>
      have e1 := old_of h n2 hxb hbk hxl
      rw [e1] at ho
      have ho : w = old := ho
      subst ho
      rw [hxl] at hr
      rw [FN_l, cutL_some hxl hold]
      simp only at hr ⊢
      by_cases h3 : w = ino
      · rw [if_pos h3] at hr ⊢
        injection hr with _ hr
        subst hr
        rfl
      · rw [if_neg h3] at hr ⊢
        obtain ⟨_, _, hob, xo, hxo, _⟩ := h.ent _ _ _ _ hxb hxl
        rw [hxo] at hr
        rw [FT_some hxo hold]
        simp only at hr ⊢
        by_cases h4 : givesE xi xo = 0
        · have m4 : ¬ ¬ givesE xi xo = 0 := fun n => n h4
          obtain ⟨gk, ge⟩ := gives_zero h4
          have h5 : givesE (FN L i P z ino xi) (FN L i P z w xo) = 0 := by
           exact gives_of gk fun c => cutL_none (ge c)
          have m5 : ¬ ¬ givesE (FN L i P z ino xi) (FN L i P z w xo) = 0 := fun n => n h5
          rw [if_neg m4] at hr
          rw [if_neg m5]
          injection hr with _ hr
          subst hr
          congr 1
          have hod : w ≠ a := fun e => by
           rw [← e, hxo] at hxd
           cases hxd
           rw [ge] at hx
           cases hx
          have hne3 : ino ≠ w := fun e => h3 e.symm
          have n1 : (dropT t b xb s2 w xo).n ino = some xi := by
           rw [drop_n hob, if_neg hib, if_neg hne3]
           exact hi
          have n2 : ∃ xa', (dropT t b xb s2 w xo).n a = some xa' := by
           rw [drop_n hob]
           split
           · exact ⟨_, rfl⟩
           · rw [if_neg (fun e => hod e.symm)]
             exact ⟨_, hxd⟩
          have n3 : ∃ xb', (dropT t b xb s2 w xo).n b = some xb' := by
           rw [drop_n hob, if_pos rfl]
           exact ⟨_, rfl⟩
          obtain ⟨_, n2⟩ := n2
          obtain ⟨_, n3⟩ := n3
          rw [← FT_drop hb hold]
          exact (FT_move ha hb hk n2 n1 n3 hne hib).symm
        · rw [if_pos h4] at hr
          injection hr with c _
          exact absurd c h4
 · rw [if_pos h1] at hr
   injection hr with c _
   exact absurd c h1
theorem FN_res {n : Int} (hk : k ≠ i) : FN L i P z k { x with pages := cutP n x.pages, size := n } = { FN L i P z k x with pages := cutP n (FN L i P z k x).pages, size := n } := by
 unfold FN
 simp only [if_neg hk]
theorem FT_resize {t' : PT} {n : Int} (hk : ¬ L k) (hi : k ≠ i) (h : resizeP t k n = (0, t')) : resizeP (FT L i P z t) k n = (0, FT L i P z t') := by
 unfold resizeP at h ⊢
 have e : resizeE (FT L i P z t) k n = resizeE t k n := by
  unfold resizeE
  rw [FT_there (is := [k]) (by simpa using hk), FT_file hk]
 rw [e]
 split at h
 · rename_i h0
   rw [if_pos h0]
   injection h with _ h
   subst h
   congr 1
   unfold resizeT
   cases hx : t.n k with
   | none => rw [FT_none hx]
   | some x =>
    rw [FT_some hx hk]
    simp only
    rw [FT_set hk, FN_res hi]
 · rename_i h0
   injection h with h1 _
   exact absurd h1 h0
theorem FT_write {t' : PT} {p : Int} {b : ByteArray} (hk : ¬ L k) (hi : k ≠ i) (h : writeP t k p b = (0, t')) : writeP (FT L i P z t) k p b = (0, FT L i P z t') := by
 unfold writeP at h ⊢
 have e : writeE (FT L i P z t) k p b = writeE t k p b := by
  unfold writeE
  rw [FT_there (is := [k]) (by simpa using hk), FT_file hk]
 rw [e]
 split at h
 · rename_i h0
   rw [if_pos h0]
   injection h with _ h
   subst h
   congr 1
   unfold writeT
   cases hx : t.n k with
   | none => rw [FT_none hx]
   | some x =>
    rw [FT_some hx hk]
    simp only
    rw [FT_set hk]
    congr 1
    unfold FN
    simp only [if_neg hi]
 · rename_i h0
   injection h with h1 _
   exact absurd h1 h0
theorem FT_free7 {t' : PT} {r : R} (hk : ¬ L r.ino) (h : freeA t r = (0, t')) : freeA (FT L i P z t) r = (0, FT L i P z t') := by
 unfold freeA at h ⊢
 cases hx : t.n r.ino with
 | none =>
  rw [hx] at h
  injection h with h1 _
  cases h1
 | some x =>
  rw [hx] at h
  rw [FT_some hx hk]
  simp only at h ⊢
  by_cases hl : 0 < x.links
  · rw [if_pos hl] at h
    injection h with h1 _
    cases h1
  · rw [if_neg hl] at h
    rw [if_neg (show ¬ 0 < (FN L i P z r.ino x).links from hl)]
    unfold unholdP at h ⊢
    have e : unholdE (FT L i P z t) r.ino = unholdE t r.ino := by
     unfold unholdE
     rw [FT_there (is := [r.ino]) (by simpa using hk), FT_heldE hk]
    rw [e]
    split at h
    · rename_i h0
      rw [if_pos h0]
      injection h with _ h
      subst h
      congr 1
      rw [hx, FT_some hx hk]
      simp only
      unfold unholdT
      rw [FT_free hk, FT_set hk]
      rfl
    · rename_i h0
      injection h with h1 _
      exact absurd h1 h0
theorem FT_act (h : WellP t) (hf : FilesL L t) {r : R} {t' : PT} (hc : checkB r = true) (hk : ¬ L r.ino) (hd : 1 ≤ r.act ∧ r.act ≤ 4 → ¬ L r.dir) (hd2 : r.act = 4 → ¬ L r.dir2 ∧ ¬ L r.old) (hp : r.act = 1 ∨ 5 ≤ r.act → r.ino ≠ i) (e : actA t r = (0, t')) :
  actA (FT L i P z t) r = (0, FT L i P z t') := by
 have hact : 1 ≤ r.act ∧ r.act ≤ 7 := by
  unfold checkB at hc
  simp only [Bool.and_eq_true, decide_eq_true_eq] at hc
  exact hc.1.1.1.1.1.1
 have look0 : lookA t r = 0 → lookP t r.dir r.name = (r.ino, 0) ∧ r.ino ≠ 0 := fun hl => by
  obtain ⟨h0, h1⟩ := lookA_zero hl
  obtain ⟨_, xi, _, _, hi, _⟩ := look_zero h h0
  rw [h1] at hi
  exact ⟨Prod.ext h1 h0, by have := (h.range _ xi hi).1; omega⟩
 have lookF : 1 ≤ r.act ∧ r.act ≤ 4 → lookA t r = 0 → lookA (FT L i P z t) r = 0 := fun ha hl => by
  obtain ⟨q1, q2⟩ := look0 hl
  unfold lookA
  rw [FT_look (hd ha) hk q1 q2]
  simp
 unfold actA at e ⊢
 by_cases a1 : r.act = 1
 · rw [if_pos a1] at e ⊢
   have hdd := hd (by omega)
   have hni : r.ino ≠ i := hp (.inl a1)
   unfold madeA at e ⊢
   obtain ⟨e0, t1, hm⟩ : ∃ e0 t1, makeAtP t r.dir r.name r.kind r.ino = (e0, t1) := ⟨_, _, rfl⟩
   rw [hm] at e
   by_cases h0 : e0 = 0
   · subst h0
     rw [FT_makeAt hdd hk hni hm]
     by_cases hk2 : r.kind = 2
     · rw [if_pos (.inr hk2)] at e ⊢
       injection e with _ e
       rw [e]
     · have m : ∀ q : Int × PT, q.1 = 0 → ¬ (q.1 ≠ 0 ∨ r.kind = 2) := fun q hq c => c.elim (fun n => n hq) hk2
       rw [if_neg (m _ rfl)] at e ⊢
       exact FT_hold hk e
   · rw [if_pos (.inl h0)] at e
     injection e with e _
     exact absurd e h0
 rw [if_neg a1] at e ⊢
 by_cases a2 : r.act = 2
 · rw [if_pos a2] at e ⊢
   exact FT_link (hd (by omega)) hk e
 rw [if_neg a2] at e ⊢
 by_cases a3 : r.act = 3
 · rw [if_pos a3] at e ⊢
   have hdd := hd (by omega)
   unfold unlinkA at e ⊢
   by_cases hl : lookA t r = 0
   · have n1 : ¬ lookA t r ≠ 0 := fun c => c hl
     have n2 : ¬ lookA (FT L i P z t) r ≠ 0 := fun c => c (lookF (by omega) hl)
     rw [if_neg n1] at e
     rw [if_neg n2]
     obtain ⟨q1, q2⟩ := look0 hl
     by_cases hk2 : r.kind = 2
     · rw [if_pos hk2] at e ⊢
       injection e with c1 c2
       obtain ⟨g1, g2⟩ := FT_dropP (i := i) (P := P) (z := z) h hdd hk q1 rmdirE (fun x hx => by
        have q5 : x.kind = 2 := by
         unfold rmdirE at hx
         by_cases c : x.kind = 2
         · exact c
         · simp [c] at hx
        have q6 : emptyB x.l = true := by
         unfold rmdirE at hx
         cases c : emptyB x.l
         · simp [q5, c] at hx
         · rfl
        have q7 := empty_FN (L := L) (i := i) (P := P) (z := z) (j := r.ino) q6
        unfold rmdirE
        rw [q7]
        simp [FN_kind, q5]) c1
       rw [g1, g2, c2]
     · rw [if_neg hk2] at e ⊢
       injection e with c1 c2
       obtain ⟨g1, g2⟩ := FT_dropP (i := i) (P := P) (z := z) h hdd hk q1 unlinkE (fun x hx => hx) c1
       rw [g1, g2, c2]
   · rw [if_pos hl] at e
     injection e with e _
     exact absurd e hl
 rw [if_neg a3] at e ⊢
 by_cases a4 : r.act = 4
 · rw [if_pos a4] at e ⊢
   have hdd := hd (by omega)
   obtain ⟨hd2', hold⟩ := hd2 a4
   unfold renameA at e ⊢
   by_cases hl : lookA t r = 0
   · have n1 : ¬ lookA t r ≠ 0 := fun c => c hl
     have n2 : ¬ lookA (FT L i P z t) r ≠ 0 := fun c => c (lookF (by omega) hl)
     rw [if_neg n1] at e
     rw [if_neg n2]
     obtain ⟨q1, q2⟩ := look0 hl
     by_cases hko : kindAt t r.ino ≠ r.kind ∨ oldAt t r ≠ r.old
     · rw [if_pos hko] at e
       injection e with e _
       cases e
     · rw [if_neg hko] at e
       have k1 : kindAt t r.ino = r.kind := Decidable.byContradiction fun c => hko (.inl c)
       have k2 : oldAt t r = r.old := Decidable.byContradiction fun c => hko (.inr c)
       have k3 : kindAt (FT L i P z t) r.ino = r.kind := by
        rw [← k1]
        unfold kindAt
        cases hx : t.n r.ino with
        | none => rw [FT_none hx]
        | some x => rw [FT_some hx hk]; rfl
       have k5 : (lookP t r.dir2 r.name2).1 = r.old := by
        by_cases c : (lookP t r.dir2 r.name2).2 = 0
        · unfold oldAt at k2
          rw [if_pos c] at k2
          exact k2
        · unfold oldAt at k2
          rw [if_neg c] at k2
          rw [← k2]
          unfold lookP at c ⊢
          split
          · rfl
          · rename_i c1
            rw [if_neg c1] at c
            cases hx : t.n r.dir2 with
            | none => rfl
            | some x =>
             rw [hx] at c
             simp only at c ⊢
             split at c
             · rename_i c2; exact c2
             · exact absurd rfl c
       have k4 : oldAt (FT L i P z t) r = r.old := by
        by_cases c : r.old = 0
        · unfold oldAt
          split
          · rw [c]; exact FT_lookNo hd2' (by rw [k5, c])
          · exact c.symm
        · have c2 : lookP t r.dir2 r.name2 = (r.old, 0) := by
           by_cases c3 : (lookP t r.dir2 r.name2).2 = 0
           · exact Prod.ext k5 c3
           · unfold oldAt at k2
             rw [if_neg c3] at k2
             exact absurd k2.symm c
          unfold oldAt
          rw [FT_look hd2' hold c2 c]
          simp
       have hko2 : ¬ (kindAt (FT L i P z t) r.ino ≠ r.kind ∨ oldAt (FT L i P z t) r ≠ r.old) := fun c => c.elim (fun n => n k3) (fun n => n k4)
       rw [if_neg hko2]
       exact FT_rename h hf hdd hd2' hk hold q1 k5 e
   · rw [if_pos hl] at e
     injection e with e _
     exact absurd e hl
 rw [if_neg a4] at e ⊢
 have hni : r.ino ≠ i := hp (.inr (by omega))
 by_cases a5 : r.act = 5
 · rw [if_pos a5] at e ⊢
   exact FT_resize hk hni e
 rw [if_neg a5] at e ⊢
 by_cases a6 : r.act = 6
 · rw [if_pos a6] at e ⊢
   unfold pageA at e ⊢
   obtain ⟨e0, t1, hm⟩ : ∃ e0 t1, writeP t r.ino r.page r.data = (e0, t1) := ⟨_, _, rfl⟩
   rw [hm] at e
   by_cases h0 : e0 = 0
   · subst h0
     rw [FT_write hk hni hm]
     have m : ∀ q : Int × PT, q.1 = 0 → ¬ (q.1 ≠ 0) := fun q hq c => c hq
     rw [if_neg (m _ rfl)] at e ⊢
     exact FT_resize hk hni e
   · rw [if_pos h0] at e
     injection e with e _
     exact absurd e h0
 rw [if_neg a6] at e ⊢
 exact FT_free7 hk e
end
end Go.Proofs.YtogljgiefmfafaaGreat
