/- Rows played on the document's tree and on the program's, walked. -/
import Derived.Test.YtogljgiefmfafaaGreatPc18
import Derived.Test.YtogljgiefmfafaaGreatPc31
import Derived.Laws.StructEq
import Derived.OwnWalk
namespace Go.Proofs.YtogljgiefmfafaaGreat
section
open Go.RowKit Go.Maps
def AtD (w : World) (n : Int) (l : List R) (P2 G2 k : Nat) (wr : World) : Prop := ∃ t d, D.TreeAt wr P2 G2 d ∧ w.heap.size ≤ G2 ∧ Below w.heap.size w wr ∧ Pl (2 * k) t d ∧ runA (newT n) (l.take k) = some t
def PlaysQ (n : Int) (l : List R) (w : World) (e : Ending) (w' : World) : Prop := ∃ b : Bool, e = .returned (.bool b) ∧ (b = true → ∃ u, runA (newT n) l = some u) ∧ Below w.heap.size w w'
theorem PlaysQ.get {n : Int} {l : List R} {w w' : World} {e : Ending} (h : PlaysQ n l w e w') : ∃ b : Bool, e = .returned (.bool b) ∧ (b = true → ∃ u, runA (newT n) l = some u) ∧ Below w.heap.size w w' := h
theorem PlaysQ.no {n : Int} {l : List R} {w w' : World} (h : Below w.heap.size w w') : PlaysQ n l w (.returned (.bool false)) w' := ⟨false, rfl, (fun h => by cases h), h⟩
set_option maxRecDepth 100000 in
set_option maxHeartbeats 16000000 in
theorem t_plays25 (q : Nat) (hq1 : 2 ≤ q) (hq2 : q ≤ 256) (A : Option Addr) (n c : Nat) (l : List R) (w : World) (hl : RecsAt w A l) (hn : l.length = n) (hn2 : n ≤ 1000) :
  Calls Tryz.prog 14 #[.int .i64 (q : Int), .slice A n c] w (PlaysQ (q : Int) l w) := by
 have HL := zz hl
 have HN := zz hn
 clear hl hn
 go_enter Tryz.func14, Tryz.ntmps14
 go_wp2_with (go_at_call 24; with_reducible refine (D.t_new q (by omega) (by omega) _).mono ?_; rintro e w4 ⟨P2, G2, rfl, hD, hb, _, hG⟩; have HD := zz hD; have HB4 := zz hb; have HG := zz hG; clear hD hb hG)
 have HS0 : Hid (AtD w (q : Int) l P2 G2 0 w4) := ⟨_, _, HD.out, HG.out, HB4.out, Pl.start' q (by omega) (by omega), rfl⟩
 clear HD HG HB4
 go_loopw [6] (fun v wr => ∃ k : Nat, v = .int .i64 (k : Int) ∧ k ≤ n ∧ Hid (AtD w (q : Int) l P2 G2 k wr)) (fun v _ => n - (intOf v).toNat)
 case atStart => exact ⟨0, rfl, Nat.zero_le _, HS0.out⟩
 case round =>
  clear HS0
  obtain ⟨k, rfl, hk, HA⟩ := hrel
  obtain ⟨t, d, hD, hG, hB, hP, hR⟩ := HA.out
  have HD := zz hD
  have HG := zz hG
  have HB := zz hB
  have HP := zz hP
  have HRun := zz hR
  clear hD hG hB hP hR HA
  by_cases he : k = n
  · subst he
    go_wp2
    go_ret
    exact ⟨true, rfl, fun _ => ⟨t, by have := HRun.out; rw [List.take_of_length_le (Nat.le_of_eq HN.out)] at this; exact this⟩, HB.out⟩
  · have hkn : k < n := by omega
    have hx := rAt_at (l := l) (k := k) (by rw [HN.out]; exact hkn)
    obtain ⟨r, hr⟩ : ∃ r, r = rAt l k := ⟨_, rfl⟩
    rw [← hr] at hx
    have hrt := (HL.out.ok r (List.mem_of_getElem? hx)).texts
    have hcc : ∀ W, Below w.heap.size w W → ∀ b o, A = some ⟨b, o, none⟩ → (W.cell? ⟨b, o + k * 12, none⟩ = some (.int .u64 r.stamp) ∧ W.cell? ⟨b, o + k * 12 + 1, none⟩ = some (.int .u8 r.act) ∧ W.cell? ⟨b, o + k * 12 + 2, none⟩ = some (.int .u32 r.dir) ∧ W.cell? ⟨b, o + k * 12 + 3, none⟩ = some (.string r.name) ∧ W.cell? ⟨b, o + k * 12 + 4, none⟩ = some (.int .u32 r.ino) ∧ W.cell? ⟨b, o + k * 12 + 5, none⟩ = some (.int .u8 r.kind) ∧ W.cell? ⟨b, o + k * 12 + 6, none⟩ = some (.int .u32 r.dir2) ∧ W.cell? ⟨b, o + k * 12 + 7, none⟩ = some (.string r.name2) ∧ W.cell? ⟨b, o + k * 12 + 8, none⟩ = some (.int .u32 r.old) ∧ W.cell? ⟨b, o + k * 12 + 9, none⟩ = some (.int .u32 r.size) ∧ W.cell? ⟨b, o + k * 12 + 10, none⟩ = some (.int .i64 r.page) ∧ W.cell? ⟨b, o + k * 12 + 11, none⟩ = some (.string r.data)) := fun W hb b o hA => by
     obtain ⟨b', o', hA', _, hc⟩ := (HL.out.below hb).at_ (fun e => by rw [e] at hx; simp at hx)
     rw [hA] at hA'
     cases hA'
     have f := hc k r hx
     exact ⟨f 0 _ rfl, f 1 _ rfl, f 2 _ rfl, f 3 _ rfl, f 4 _ rfl, f 5 _ rfl, f 6 _ rfl, f 7 _ rfl, f 8 _ rfl, f 9 _ rfl, f 10 _ rfl, f 11 _ rfl⟩
    obtain ⟨b, o, rfl, _⟩ := HL.out.at_ (fun e => by rw [e] at hx; simp at hx)
    have hcc2 := fun W hb => hcc W hb b o rfl
    have HC := zz hcc2
    obtain ⟨c0, c1, c2, c3, c4, c5, c6, c7, c8, c9, c10, c11⟩ := hcc2 _ HB.out
    obtain ⟨a, t', hpa⟩ : ∃ a t', playA t r = (a, t') := ⟨_, _, rfl⟩
    obtain ⟨a2, d', hpo⟩ : ∃ a2 d', playO d r = (a2, d') := ⟨_, _, rfl⟩
    obtain ⟨e1, hP'⟩ := HP.out.record (r := r) hrt.ok
    rw [hpa, hpo] at e1 hP'
    simp only at e1 hP'
    subst e1
    have hfine : D.Fine d := HP.out.wr.fine (by omega)
    have hmay := fun W => t_may r W hrt.name hrt.name2 hrt.data
    rw [mayB_check] at hmay
    have hrun2 : a2 = 0 → runA (newT (q : Int)) (l.take (k + 1)) = some t' := fun h0 => by
     rw [List.take_add_one, hx]
     refine runA_append.2 ⟨t, HRun.out, runA_one.2 ?_⟩
     rw [hpa]
     exact ⟨h0, rfl⟩
    have HR2 := zz hrun2
    have HP' := zz hP'
    cases hc : checkB r with
    | true =>
     rw [hc] at hmay
     have h2 := fun W (hD : D.TreeAt W P2 G2 d) => D.t_play P2 G2 d r W hD hfine hrt (check_one hc) a2 d' (by unfold playO at hpo; rw [if_pos hc] at hpo; exact hpo)
     unfold R.val at hmay h2
     have H2 := zz h2
     have HMay := zz hmay
     clear h2 hmay hx hcc hcc2 hpa hpo hP' hfine hc hrt hr he hrun2
     have hgrow : ∀ W W', Below w.heap.size w W → W.grownBy W' (some G2) → Below w.heap.size w W' := fun W W' h1 h2 => ⟨h2.os.trans h1.os, h2.tape.trans h1.tape, h2.output.trans h1.output, Nat.le_trans h1.size h2.size, fun b hb => (h2.block b (Nat.lt_of_lt_of_le hb h1.size) (fun e => by have := HG.out; injection e; omega)).trans (h1.block b hb)⟩
     have HGr := zz hgrow
     clear hgrow
     by_cases h0 : a2 = 0
     · have h0b : (a2 != 0) = false := by simpa using h0
       have h0c : (a2 == 0) = true := by simpa using h0
       have HZ := zz h0
       clear h0
       go_wp2_with (first
        | (go_at_call 25; (with_reducible refine (HMay.out _).mono ?_); rintro e w5 ⟨rfl, hb⟩; replace HD := zz (HD.out.below hb); replace HB := zz (ptrans HB.out hb); clear c0 c1 c2 c3 c4 c5 c6 c7 c8 c9 c10 c11; obtain ⟨c0, c1, c2, c3, c4, c5, c6, c7, c8, c9, c10, c11⟩ := HC.out _ HB.out; clear hb)
        | (go_at_call 26; (with_reducible refine (H2.out _ HD.out).mono ?_); rintro e w6 ⟨rfl, h, hg⟩; have HD2 := zz h; replace HB := zz (HGr.out _ _ HB.out hg); clear h hg))
       go_roundw
       case rel => exact ⟨k + 1, by go_num, by omega, t', d', HD2.out, HG.out, HB.out, HP'.out, HR2.out HZ.out⟩
       case measure => simp [intOf]; omega
     · have h0b : (a2 != 0) = true := by simpa using h0
       have h0c : (a2 == 0) = false := by simpa using h0
       clear h0
       go_wp2_with (first
        | (go_at_call 25; (with_reducible refine (HMay.out _).mono ?_); rintro e w5 ⟨rfl, hb⟩; replace HD := zz (HD.out.below hb); replace HB := zz (ptrans HB.out hb); clear c0 c1 c2 c3 c4 c5 c6 c7 c8 c9 c10 c11; obtain ⟨c0, c1, c2, c3, c4, c5, c6, c7, c8, c9, c10, c11⟩ := HC.out _ HB.out; clear hb)
        | (go_at_call 26; (with_reducible refine (H2.out _ HD.out).mono ?_); rintro e w6 ⟨rfl, h, hg⟩; have HD2 := zz h; replace HB := zz (HGr.out _ _ HB.out hg); clear h hg))
       go_ret
       exact PlaysQ.no HB.out
    | false =>
     rw [hc] at hmay
     unfold R.val at hmay
     have HMay := zz hmay
     clear hmay hx hcc hcc2 hpa hpo hP' hfine hc hrt hr he hrun2
     go_wp2_with (go_at_call 25; (with_reducible refine (HMay.out _).mono ?_); rintro e w5 ⟨rfl, hb⟩; replace HB := zz (ptrans HB.out hb); clear hb)
     go_ret
     exact PlaysQ.no HB.out
def KeepP (W W' : World) : Prop := ∀ (b : Nat) (o : Obj), W.heap[b]? = some o → ¬ isPo o → W'.heap[b]? = some o
theorem KeepP.refl (W : World) : KeepP W W := fun _ _ h _ => h
theorem KeepP.trans {W1 W2 W3 : World} (h : KeepP W1 W2) (g : KeepP W2 W3) : KeepP W1 W3 := fun b o h1 h2 => g b o (h b o h1 h2) h2
section
variable {B P P2 N : Nat} {w1 w w' : World} {t t2 : PT}
theorem own_recK (r : R) (hr : r.Texts) (a : Int) (t' : PT) (he : playA t r = (a, t')) (h : Own B w1 P N t w) (hK : HeldK 999999999 t) (hN : N < 800000) :
  Calls Tryz.prog 27 #[.pointer (some ⟨P, 0, none⟩), r.val] w fun e w' => e = .returned (.int .i64 a) ∧ Own B w1 P (N + 2) t' w' ∧ KeepP w w' := by
 obtain ⟨y, F, hT, hW, hF, hs, hB⟩ := h
 have hx := hT.exact
 refine (t_playA r hr a t' he w hx hW hK hN).mono fun e w' ⟨he2, y', F', hT', hU⟩ => ⟨he2, ⟨y', F', hT', ?_, fun b hb => ?_, Nat.le_trans hs hU.size, hB.trans (hU.below (fun b hb => hF b (hT.sub hb)) hs)⟩, fun b o hb ho => ?_⟩
 · have := hW.playA_ hr.ok
   rw [he] at this
   exact this
 · rcases hU.foot b hb with h1 | h1
   · exact hF b (hT.sub h1)
   · exact Nat.le_trans hs h1
 · rw [← hb]
   refine hU.block b (Array.getElem?_eq_some_iff.1 hb).1 fun hf => ?_
   obtain ⟨o', h1, h2⟩ := hx.isP hf
   rw [hb] at h1
   obtain rfl := Option.some.inj h1
   exact ho h2
theorem pair_recK (r : R) (hr : r.Texts) (a : Int) (t' : PT) (he : playA t r = (a, t')) (h : Pair B w1 P P2 N t t2 w) (hK : HeldK 999999999 t) (hN : N < 800000) :
  Calls Tryz.prog 27 #[.pointer (some ⟨P, 0, none⟩), r.val] w fun e w' => e = .returned (.int .i64 a) ∧ Pair B w1 P P2 (N + 2) t' t2 w' ∧ KeepP w w' := by
 obtain ⟨y, F, y2, F2, hT, hT2, hW, hW2, hF, hF2, hd, hs, hB⟩ := h
 have hx := hT.exact
 refine (t_playA r hr a t' he w hx hW hK hN).mono fun e w' ⟨he2, y', F', hT', hU⟩ => ⟨he2, ?_, fun b o hb ho => ?_⟩
 · have hW' : WellP t' := by
    have := hW.playA_ hr.ok
    rw [he] at this
    exact this
   refine ⟨y', F', y2, F2, hT', (hT2.same (fun b hb2 => hU.block b (hT2.lt b hb2) (fun h1 => hd b (hT.sub h1) hb2)) hU.size).mono (by omega), hW', hW2, fun b hb2 => ?_, hF2, fun b h1 hb2 => ?_, Nat.le_trans hs hU.size, hB.trans (hU.below (fun b hb => hF b (hT.sub hb)) hs)⟩
   · rcases hU.foot b hb2 with h1 | h1
     · exact hF b (hT.sub h1)
     · exact Nat.le_trans hs h1
   · rcases hU.foot b h1 with h3 | h3
     · exact hd b (hT.sub h3) hb2
     · have := hT2.lt b hb2
       omega
 · rw [← hb]
   refine hU.block b (Array.getElem?_eq_some_iff.1 hb).1 fun hf => ?_
   obtain ⟨o', h1, h2⟩ := hx.isP hf
   rw [hb] at h1
   obtain rfl := Option.some.inj h1
   exact ho h2
end
def AtP (B : Nat) (w1 w : World) (P P2 N : Nat) (t t2 : PT) (l : List R) (k : Nat) (wr : World) : Prop := ∃ u, Pair B w1 P P2 (N + 2 * k) u t2 wr ∧ runA t (l.take k) = some u ∧ KeepP w wr
set_option maxRecDepth 100000 in
set_option maxHeartbeats 16000000 in
theorem t_playedK (B : Nat) (w1 : World) (P P2 N : Nat) (t t2 : PT) (K : Int) (A : Option Addr) (n c : Nat) (l : List R) (u : PT) (w : World) (hp : Pair B w1 P P2 N t t2 w) (hK : HeldK K t) (hK0 : 0 ≤ K) (hK1 : K ≤ 1000000) (hN : N ≤ 100000)
  (hok : ∀ r ∈ l, r.Texts) (hl : ∀ W, KeepP w W → Below B w1 W → RecsAt W A l) (hn : l.length = n) (hn2 : n ≤ 1000) (hr : runA t l = some u) :
  Calls Tryz.prog 17 #[.pointer (some ⟨P, 0, none⟩), .slice A n c] w fun e w' => e = .returned (.pointer (some ⟨P, 0, none⟩)) ∧ Pair B w1 P P2 (N + 2 * n) u t2 w' ∧ KeepP w w' := by
 have HL := zz hl
 have HN := zz hn
 have HR := zz hr
 have HOk := zz hok
 have HK := zz hK
 have HS0 : Hid (AtP B w1 w P P2 N t t2 l 0 w) := ⟨t, hp, rfl, KeepP.refl w⟩
 clear hl hn hr hok hK hp
 go_enter Tryz.func17, Tryz.ntmps17
 go_wp2
 go_loopw [5] (fun v wr => ∃ k : Nat, v = .int .i64 (k : Int) ∧ k ≤ n ∧ Hid (AtP B w1 w P P2 N t t2 l k wr)) (fun v _ => n - (intOf v).toNat)
 case atStart => exact ⟨0, rfl, Nat.zero_le _, HS0.out⟩
 case round =>
  clear HS0
  obtain ⟨k, rfl, hk, HA⟩ := hrel
  obtain ⟨v, hP, hv, hKe⟩ := HA.out
  have HP := zz hP
  have HV := zz hv
  have HKe := zz hKe
  clear hP hv hKe HA
  by_cases he : k = n
  · subst he
    have hvu : v = u := by
     have h1 := HV.out
     rw [List.take_of_length_le (Nat.le_of_eq HN.out), HR.out] at h1
     exact (Option.some.inj h1).symm
    have HVU := zz hvu
    clear hvu
    go_wp2
    go_ret
    exact ⟨rfl, HVU.out ▸ HP.out, HKe.out⟩
  · have hkn : k < n := by omega
    have hx := rAt_at (l := l) (k := k) (by rw [HN.out]; exact hkn)
    obtain ⟨r, hr⟩ : ∃ r, r = rAt l k := ⟨_, rfl⟩
    rw [← hr] at hx
    have hrt := HOk.out r (List.mem_of_getElem? hx)
    obtain ⟨bb, o, rfl, _, hc⟩ := (HL.out _ HKe.out HP.out.mem).at_ (fun e => by rw [e] at hx; simp at hx)
    have f6 := hc k r hx
    have r0 := f6 0 _ rfl
    rw [Nat.add_zero] at r0
    have r1 := f6 1 _ rfl
    have r2 := f6 2 _ rfl
    have r3 := f6 3 _ rfl
    have r4 := f6 4 _ rfl
    have r5 := f6 5 _ rfl
    have r6 := f6 6 _ rfl
    have r7 := f6 7 _ rfl
    have r8 := f6 8 _ rfl
    have r9 := f6 9 _ rfl
    have r10 := f6 10 _ rfl
    have r11 := f6 11 _ rfl
    have hsplit : l = l.take k ++ r :: l.drop (k + 1) := by
     have h1 := List.take_append_drop k l
     rw [List.drop_eq_getElem_cons (by rw [HN.out]; exact hkn)] at h1
     have h2 : l[k]'(by rw [HN.out]; exact hkn) = r := by
      have := hx
      rw [List.getElem?_eq_getElem (by rw [HN.out]; exact hkn)] at this
      exact Option.some.inj this
     rw [h2] at h1
     exact h1.symm
    have hr2 := HR.out
    rw [hsplit] at hr2
    obtain ⟨v', e1, e2⟩ := runA_append.1 hr2
    have hvv : v' = v := by
     have := HV.out
     rw [e1] at this
     exact Option.some.inj this
    rw [hvv] at e2
    obtain ⟨e3, e4⟩ := runA_cons.1 e2
    obtain ⟨f, t1, hf⟩ : ∃ f t1, playA v r = (f, t1) := ⟨_, _, rfl⟩
    have hf0 : f = 0 := by rw [hf] at e3; exact e3
    subst hf0
    have hkv : HeldK (K + k) v := by
     have := runA_held HK.out hK0 HV.out
     refine this.mono ?_
     rw [List.length_take]
     omega
    have g1 := pair_recK r hrt 0 t1 hf HP.out (hkv.mono (by omega)) (by omega)
    have hrun2 : runA t (l.take (k + 1)) = some t1 := by
     rw [List.take_add_one, hx]
     refine runA_append.2 ⟨v, HV.out, runA_one.2 ?_⟩
     rw [hf]
     exact ⟨rfl, rfl⟩
    unfold R.val at g1
    have H1 := zz g1
    have HR2 := zz hrun2
    clear hc hx f6 hr hrt g1 hf he hsplit hr2 e1 e2 e3 e4 hvv hkv hrun2
    go_wp2_with (go_at_call 27; (with_reducible refine H1.out.mono ?_); rintro e x2 ⟨rfl, hb, hkp⟩; have J2 := zz hb; have JK := zz (HKe.out.trans hkp); clear hb hkp)
    go_roundw
    case rel => exact ⟨k + 1, by go_num, by omega, t1, J2.out, HR2.out, JK.out⟩
    case measure => simp [intOf]; omega
end

section
open Go.RowKit Go.Maps
set_option maxHeartbeats 2000000 in
theorem t_indexInt (A : Option Addr) (n c : Nat) (xs : List Value) (g : Nat) (lb : Array Value) (p : Value → Bool) (w : World) (hl : xs.length = n) (hn : n ≤ maxLen) (hs : SliceAt w A xs)
  (eg : ∀ args w, (callFunc g args).run Tryz.prog w = .ok (.enter g args) w) (hp : PredV w g lb p xs) :
  Calls Tryz.prog 153 #[.slice A n c, .func (.func g) #[] lb] w fun e w' => FoundI (xs.any p) e ∧ Below w.heap.size w w' := by
 subst hl
 unfold maxLen at hn
 have HP := zz hp
 have HS := zz hs
 clear hp hs
 go_enter Tryz.func153, Tryz.ntmps153
 go_wp2
 go_loopw [8] (fun i wr => ∃ j : Nat, j ≤ xs.length ∧ i = .int .i64 j ∧ Hid ((xs.take j).any p = false) ∧ Below w.heap.size w wr) (fun i _ => xs.length - (intOf i).toNat)
 case atStart => exact ⟨0, Nat.zero_le _, rfl, rfl, Below.refl _ _⟩
 case round =>
  obtain ⟨j, hj, rfl, hno, hb⟩ := hrel
  by_cases hjn : j < xs.length
  · obtain ⟨b, o, rfl, hlt, hc⟩ := HS.out (by omega)
    have hx := List.getElem?_eq_getElem hjn
    have c1 := (hb.cell (p := ⟨b, o + j, none⟩) hlt).trans (hc j _ hx)
    have cS := HP.out wr xs[j] (List.getElem_mem hjn) hb
    have HX := zz hx
    obtain ⟨x, hxe⟩ : ∃ x, xs[j] = x := ⟨_, rfl⟩
    have HM : Hid (x ∈ xs) := by rw [← hxe]; exact List.getElem_mem hjn
    rw [hxe] at c1 cS HX
    clear hx hc hxe
    cases hpx : p x with
    | true =>
     rw [hpx] at cS
     have HF : Hid (FoundI (xs.any p) (.returned (.int .i64 (j : Int)))) := ⟨_, rfl, by rw [any_hit HM.out hpx]; simp⟩
     clear hpx
     go_wp2_with (go_at_fn g; refine cS.mono ?_; rintro e W' ⟨rfl, hb2⟩)
     go_ret
     exact ⟨HF.out, ptrans hb hb2⟩
    | false =>
     rw [hpx] at cS
     have HF : Hid ((xs.take (j + 1)).any p = false) := any_take_false hno.out HX.out hpx
     clear hpx
     go_wp2_with (go_at_fn g; refine cS.mono ?_; rintro e W' ⟨rfl, hb2⟩)
     go_roundw
     case rel => exact ⟨j + 1, by omega, by go_num, HF, ptrans hb hb2⟩
     case measure => simp [intOf]; omega
  · have HF : Hid (FoundI (xs.any p) (.returned (.int .i64 (-1)))) := ⟨_, rfl, by rw [List.take_of_length_le (by omega)] at hno; rw [hno.out]; rfl⟩
    go_wp2
    go_ret
    exact ⟨HF.out, hb⟩
theorem t_containsInt (A : Option Addr) (n c : Nat) (xs : List Value) (g : Nat) (lb : Array Value) (p : Value → Bool) (r : Bool) (hr : xs.any p = r) (w : World) (hl : xs.length = n) (hn : n ≤ maxLen) (hs : SliceAt w A xs)
  (eg : ∀ args w, (callFunc g args).run Tryz.prog w = .ok (.enter g args) w) (hp : PredV w g lb p xs) :
  Calls Tryz.prog 87 #[.slice A n c, .func (.func g) #[] lb] w fun e w' => e = .returned (.bool r) ∧ Below w.heap.size w w' := by
 have HR := zz hr
 clear hr
 have HP := zz (t_indexInt A n c xs g lb p w hl hn hs eg hp)
 clear hp hs
 go_enter Tryz.func87, Tryz.ntmps87
 go_wp2_with (go_at_call 153; refine HP.out.mono ?_; rintro e w' ⟨⟨k, rfl, hk⟩, hb⟩; have HN : Hid (decide (0 ≤ k) = r) := hk.trans HR.out; clear hk)
 go_ret
 exact ⟨pret_bool HN.out, hb⟩
def onZ (l : List R) (k : Int) : List Nat := if 0 ≤ k ∧ k < l.length then onL l k.toNat else []
theorem onZ_nat (l : List R) (k : Nat) (hk : k < l.length) : onZ l (k : Int) = onL l k := by
 unfold onZ
 rw [if_pos ⟨by omega, by omega⟩]
 simp
theorem onZ_len (l : List R) (k : Int) : (onZ l k).length ≤ l.length := by
 unfold onZ
 split
 · rename_i h
   unfold onL
   refine Nat.le_trans (List.length_filter_le _ _) ?_
   simp
   omega
 · simp
set_option maxRecDepth 100000 in
set_option maxHeartbeats 4000000 in
theorem t_onZ (A : Option Addr) (c n : Nat) (k : Int) (hk : I64 k) (l : List R) (w : World) (hl : RecsAt w A l) (hn : l.length = n) (hn2 : n ≤ 60000) (hnc : n ≤ c) :
  Calls Tryz.prog 44 #[.slice A n c, .int .i64 k] w fun e w' => ∃ v, e = .returned v ∧ w'.ownsRow w.heap.size 3 1 v (onZ l k).length (natV (onZ l k)) ∧ Below w.heap.size w w' := by
 by_cases h0 : k < 0
 · have hz : onZ l k = [] := by unfold onZ; rw [if_neg (by omega)]
   rw [hz]
   go_enter Tryz.func44, Tryz.ntmps44
   go_wp2
   go_ret
   exact ⟨_, rfl, World.ownsRow_nil _ _ _ _, Below.refl _ _⟩
 · by_cases h1 : (n : Int) ≤ k
   · have hz : onZ l k = [] := by unfold onZ; rw [if_neg (by omega)]
     rw [hz]
     go_enter Tryz.func44, Tryz.ntmps44
     go_wp2
     go_ret
     exact ⟨_, rfl, World.ownsRow_nil _ _ _ _, Below.refl _ _⟩
   · obtain ⟨j, rfl⟩ : ∃ j : Nat, k = (j : Int) := ⟨k.toNat, by omega⟩
     rw [onZ_nat l j (by omega)]
     exact t_on A c n j l w hl hn hn2 hnc (by omega)
def lackP (ks : List Int) : Value → Bool
 | .int .i64 k => ks.count k == 0
 | _ => false
theorem t_lacks (Bh M N : Nat) (ks : List Int) (w : World) (hB : w.heap[Bh]? = some (.cells #[.map (some M)] 142 (0, 0))) (hM : MapAt w Tryz.prog 3 M N (cntI ks)) (k : Int) (hk : I64 k) :
  Calls Tryz.prog 86 #[.int .i64 k, .pointer (some ⟨Bh, 0, none⟩)] w fun e w' => e = .returned (.bool (lackP ks (.int .i64 k))) ∧ Below w.heap.size w w' := by
 have cB := box_cell hB
 have hlk := cntI_look hM hk
 have hq : lackP ks (.int .i64 k) = (((ks.count k : Nat) : Int) == 0) := by
  show (ks.count k == 0) = _
  rw [Bool.eq_iff_iff]
  simp only [beq_iff_eq]
  omega
 obtain ⟨cc, hcc⟩ : ∃ cc, ks.count k = cc := ⟨_, rfl⟩
 rw [hq]
 rw [hcc] at hlk ⊢
 clear hcc hq hM hB
 go_enter Tryz.func86, Tryz.ntmps86
 go_wp2
 go_ret
 exact ⟨rfl, Below.refl _ _⟩
def lacksAny (l : List R) (ks : List Int) (k : Int) : Bool := (natV (onZ l k)).any (lackP ks)
def closedB (l : List R) (ks : List Int) : Bool := !ks.any (lacksAny l ks)
theorem enters_lacks : Enters 86 := enters_of Tryz.func86 (by kernel_rfl) rfl
theorem onZ_small {l : List R} {k : Int} (hl : l.length ≤ 60000) : ∀ j ∈ onZ l k, I64 (j : Int) := fun j hj => by
 unfold onZ at hj
 split at hj
 · rename_i h
   have := (onL_mem.1 hj).1
   exact ⟨by omega, by omega⟩
 · simp at hj
theorem lacks_pred (Bh M N : Nat) (ks : List Int) (l : List Nat) (w : World) (hB : w.heap[Bh]? = some (.cells #[.map (some M)] 142 (0, 0))) (hM : MapAt w Tryz.prog 3 M N (cntI ks)) (hl : ∀ j ∈ l, I64 (j : Int)) :
  PredV w 86 #[.pointer (some ⟨Bh, 0, none⟩)] (lackP ks) (natV l) := fun W x hx hb => by
 unfold natV at hx
 obtain ⟨j, hj, rfl⟩ := List.mem_map.1 hx
 exact t_lacks Bh M N ks W ((hb.block _ (lt_heap hB)).trans hB) (hM.below hb) j (hl j hj)
theorem slice_of_row {w : World} {base n c : Nat} {A : Option Addr} {e : TypeId} {xs : List Value} (h : w.ownsRow base e 1 (.slice A n c) n xs) : SliceAt w A xs := fun h0 => by
 have hl : xs.length = n := by have := h.1; omega
 rcases h.2 with ⟨h', h1⟩ | ⟨g, cap, cur, h', _, hc, _⟩
 · omega
 · simp only [Value.slice.injEq] at h'
   obtain ⟨rfl, _, rfl⟩ := h'
   refine ⟨g, 0, rfl, lt_heap hc, fun j x hx => ?_⟩
   have hj := (List.getElem?_eq_some_iff.1 hx).1
   rw [Nat.zero_add, h.cellAt j (by omega), hx]
def IntsAt (w : World) (A : Option Addr) (l : List Int) : Prop := SliceAt w A (l.map (Value.int .i64))
theorem ints_cell {w : World} {A : Option Addr} {l : List Int} (h : IntsAt w A l) {k : Nat} (hk : k < l.length) : ∃ b o, A = some ⟨b, o, none⟩ ∧ w.cell? ⟨b, o + k, none⟩ = some (.int .i64 l[k]) := by
 obtain ⟨b, o, rfl, _, hc⟩ := h (by simp; omega)
 exact ⟨b, o, rfl, hc k _ (by simp [List.getElem?_eq_getElem hk])⟩
theorem wpList_next_I {ops : Array Oper} {rest : List Oper} {o : Oper} {a : Act} {w : World} {Q : Exit → Act → World → Prop} {b r n cnt : Nat} {ks : List Int} {left : Lit → Bool} (hg : o.guard = none) (it : Operand) (hop : o.op = Op.next it false)
  (hit : a.eval it = .pointer (some ⟨r, 0, none⟩)) (h : RangeAt w Tryz.prog 3 b r n (cntI ks) left cnt)
  (hDone : (∀ kl, left kl = false) → wpList Tryz.prog ops Q rest (a.put o.dst (.tuple #[.bool false])) w)
  (hMore : ∀ (k : Int) (c : Nat) (w' : World) (cnt' : Nat), left (.int .i64 k) = true → k ∈ ks → RangeAt w' Tryz.prog 3 b r n (cntI ks) (fun x => left x && !x.sameKey (.int .i64 k)) cnt' → cnt' < cnt → w.grownBy w' (some r) → w'.heap.size = w.heap.size →
   (Instr.entry (.pointer (some ⟨r, 0, none⟩))).run Tryz.prog w' = .ok (.tuple #[.int .i64 k, .int .i64 (c : Int)]) w' → wpList Tryz.prog ops Q rest (a.put o.dst (.tuple #[.bool true, .int .i64 k, .int .i64 (c : Int)])) w') :
  wpList Tryz.prog ops Q (o :: rest) a w := by
 refine wpList_plain hg fun K' hK' => ?_
 unfold Oper.wp
 rcases h.next law64 o.type with ⟨h0, hl, hrun⟩ | ⟨key, v, kl, w', cnt', hkey, hlk, hv, hrun, hrg, hlt, hgr, hsz, hen⟩
 · simp [execOp, hop, hit, hrun, Result.andThen]
   exact hK' _ _ (hDone hl)
 · obtain ⟨k, rfl, rfl, _⟩ := Maps.keyOf_int_inv Tryz.underlying3 hkey
   have hin : k ∈ ks := cntI_some.1 (by rw [hv]; rfl)
   obtain ⟨c, rfl⟩ : ∃ c : Nat, v = .int .i64 (c : Int) := by
    unfold cntI at hv
    simp only at hv
    split at hv
    · cases hv
    · injection hv with hv
      exact ⟨_, hv.symm⟩
   simp [execOp, hop, hit, hrun, Result.andThen]
   exact hK' _ _ (hMore k c w' cnt' hlk hin hrg hlt hgr hsz hen)
def Cnt1 (w : World) (ps : List Int) (wr : World) (i : Nat) : Prop :=
 MapAt wr Tryz.prog 3 w.heap.size i (cntI (ps.take i)) ∧ wr.heap[w.heap.size + 1]? = some (.cells #[.map (some w.heap.size)] 142 (0, 0)) ∧ Below w.heap.size w wr
theorem Cnt1.start (w : World) (ps : List Int) : Cnt1 w ps ((w.alloc (.map #[] 0)).alloc (.cells #[.map (some w.heap.size)] 142)) 0 := by
 have z1 : (w.alloc (.map #[] 0)).heap.size = w.heap.size + 1 := by simp
 refine ⟨?_, ?_, (below_a1' w _).trans (((Below.refl _ _).alloc (by rw [z1]; omega) _))⟩
 · refine MapAt.congr ?_ (m := fun _ => none) fun kl _ => by cases kl with | int q a => cases q <;> rfl | _ => rfl
   exact (MapAt.made w Tryz.prog 3).below ((Below.refl _ _).alloc (Nat.le_refl _) _)
 · have := heap_alloc_new (w.alloc (.map #[] 0)) (.cells #[.map (some w.heap.size)] 142)
   rw [z1] at this
   exact this
def Seen2 (w : World) (l : List R) (ps : List Int) (RB N : Nat) (wr : World) : Prop :=
 ∃ left cnt, RangeAt wr Tryz.prog 3 w.heap.size RB N (cntI ps) left cnt ∧ (∀ k ∈ ps, left (.int .i64 k) = false → lacksAny l ps k = false) ∧ wr.heap[w.heap.size + 1]? = some (.cells #[.map (some w.heap.size)] 142 (0, 0)) ∧ Below w.heap.size w wr ∧ w.heap.size + 1 < RB
theorem closed_all {l : List R} {ps : List Int} {left : Lit → Bool} (h : ∀ k ∈ ps, left (.int .i64 k) = false → lacksAny l ps k = false) (hl : ∀ kl, left kl = false) : closedB l ps = true := by
 unfold closedB
 rw [Bool.not_eq_true', List.any_eq_false]
 intro k hk
 rw [h k hk (hl _)]
 simp
theorem closed_not {l : List R} {ps : List Int} {k : Int} (h : k ∈ ps) (hl : lacksAny l ps k = true) : closedB l ps = false := by
 unfold closedB
 rw [List.any_eq_true.2 ⟨k, h, hl⟩]
 rfl
set_option maxRecDepth 100000 in
set_option maxHeartbeats 4000000 in
theorem t_closed (A : Option Addr) (c n : Nat) (l : List R) (Ap : Option Addr) (np cp : Nat) (ps : List Int) (w : World) (hl : RecsAt w A l) (hn : l.length = n) (hn2 : n ≤ 1000) (hnc : n ≤ c) (hp : IntsAt w Ap ps) (hnp : ps.length = np) (hnp2 : np ≤ 60000) (hps : ∀ x ∈ ps, I64 x) :
  Calls Tryz.prog 43 #[.slice A n c, .slice Ap np cp] w fun e w' => e = .returned (.bool (closedB l ps)) ∧ Below w.heap.size w w' := by
 have HN := zz hn
 have HL := zz hl
 have HP := zz hp
 have HNP := zz hnp
 have HPS := zz hps
 clear hl hn hp hnp hps
 have hmm := @run_makeMap Tryz.prog
 go_enter Tryz.func43, Tryz.ntmps43
 go_wp2
 go_loopw [13] (fun x wr => ∃ i : Nat, x = .int .i64 (i : Int) ∧ i ≤ np ∧ Hid (Cnt1 w ps wr i)) (fun x _ => np - (intOf x).toNat)
 case atStart => exact ⟨0, rfl, Nat.zero_le _, Cnt1.start w ps⟩
 case round =>
  obtain ⟨i, rfl, hi, HI⟩ := hrel
  by_cases he : i = np
  · have he' : np = i := he.symm
    clear he
    subst he'
    obtain ⟨hM, hBx, hb⟩ := HI.out
    rw [List.take_of_length_le (by rw [HNP.out]; exact Nat.le_refl _)] at hM
    have cB := box_cell hBx
    obtain ⟨w5, lft, ct, hrng, hRg, hct, hlf, hb5, hs5⟩ := hM.range2 law64 Tryz.underlying142
    obtain ⟨RB, hRB⟩ : ∃ RB, wr.heap.size = RB := ⟨_, rfl⟩
    rw [hRB] at hrng
    have hst : Hid (Seen2 w l ps RB np w5) := by
     rw [hRB] at hRg
     refine ⟨lft, ct, hRg, fun k hk h1 => ?_, (hb5.block _ (lt_heap hBx)).trans hBx, ptrans hb hb5, by rw [← hRB]; exact lt_heap hBx⟩
     rw [hlf (.int .i64 k) trivial, cntI_some.2 hk] at h1
     cases h1
    clear hM hRg hct hlf hb5 hs5 hb hBx hRB HI
    go_wp2
    go_loopw [9] (fun _ wr => Hid (Seen2 w l ps RB np wr)) (fun _ wr => wr.rangeLeft w.heap.size RB)
    case atStart => exact hst
    case round =>
     have HS : Hid (Seen2 w l ps RB np wr) := hrel
     clear hrel
     obtain ⟨left, cnt, hrg, hok, hBx, hb, hRB⟩ := HS.out
     have HOK := zz hok
     have HBX := zz hBx
     have HB := zz hb
     have HRB := zz hRB
     clear hok hBx hb hRB
     go_wp2_with (at_next; refine wpList_next_I rfl _ rfl rfl hrg ?_ ?_)
     · intro hdone
       have HC := zz (closed_all HOK.out hdone)
       clear hdone hrg
       go_wp2
       go_ret
       exact ⟨by rw [HC.out]; rfl, HB.out⟩
     · intro k cc w6 cnt6 hlk hin hrg6 hlt6 hg6 hs6 hen
       have HIN := zz hin
       have HRG := zz hrg6
       have HLT : Hid (cnt6 < wr.rangeLeft w.heap.size RB) := by show _ < _; rw [hrg.left_eq]; exact hlt6
       have HB6 := zz (HB.out.grown hg6 HB.out.size (fun q hq => by injection hq with hq; have := HRB.out; omega))
       have HBX6 := zz ((hg6.block _ (lt_heap HBX.out) (fun e => by injection e with e; have := HRB.out; omega)).trans HBX.out)
       have HI6 := zz (HPS.out k hin)
       clear hlk hin hrg6 hlt6 hg6 hs6 hrg
       go_wp2_with (go_at_call 44; (with_reducible refine (t_onZ A c n k HI6.out l _ (HL.out.below HB6.out) HN.out (by omega) hnc).mono ?_); rintro e w7 ⟨v7, rfl, h1, h2⟩; obtain ⟨A7, c7, rfl⟩ := row_slice h1; have H7 := zz (And.intro h1 h2); clear h1 h2)
       have hcon := t_containsInt A7 (onZ l k).length c7 (natV (onZ l k)) 86 #[.pointer (some ⟨w.heap.size + 1, 0, none⟩)] (lackP ps) (lacksAny l ps k) rfl w7 (by unfold natV; rw [List.length_map]) (Nat.le_trans (onZ_len l k) (by rw [HN.out]; unfold maxLen; omega)) (slice_of_row H7.out.1) enters_lacks
        (lacks_pred _ _ _ ps _ w7 ((H7.out.2.block _ (lt_heap HBX6.out)).trans HBX6.out) (HRG.out.owns.below H7.out.2) (by have := onZ_len l k; rw [HN.out] at this; exact onZ_small (by rw [HN.out]; omega)))
       have HCON := zz hcon
       clear hcon
       go_wp2_with (go_at_call 87; (with_reducible refine HCON.out.mono ?_); rintro e w8 ⟨rfl, hb8⟩; have HB8 := zz (ptrans H7.out.2 hb8); cases hla : lacksAny l ps k <;> clear hb8)
       · have HSS : Hid (Seen2 w l ps RB np w8) := by
          refine ⟨_, _, HRG.out.below HB8.out, fun j hj h9 => ?_, (HB8.out.block _ (lt_heap HBX6.out)).trans HBX6.out, ptrans HB6.out HB8.out, HRB.out⟩
          by_cases e : j = k
          · rw [e]; exact hla
          · refine HOK.out j hj ?_
            simpa [Lit.sameKey, e] using h9
         have HM8 : Hid (w8.rangeLeft w.heap.size RB < wr.rangeLeft w.heap.size RB) := by
          have := (HRG.out.below HB8.out).left_eq
          have h10 := HLT.out
          show _ < _
          omega
         go_roundw
         case rel => exact HSS
         case measure => exact HM8.out
       · have HC := zz (closed_not HIN.out hla)
         go_ret
         exact ⟨by rw [HC.out]; rfl, ptrans HB6.out HB8.out⟩
  · have hi2 : i < np := by omega
    obtain ⟨hM, hBx, hb⟩ := HI.out
    have cB := box_cell hBx
    obtain ⟨b, o, rfl, c1⟩ := ints_cell (HP.out.below hb) (k := i) (by rw [HNP.out]; exact hi2)
    obtain ⟨x, hx⟩ : ∃ x, ps[i]'(by rw [HNP.out]; exact hi2) = x := ⟨_, rfl⟩
    rw [hx] at c1
    have HX : Hid (ps[i]? = some x) := by show _ = _; rw [← hx]; exact List.getElem?_eq_getElem _
    have hxI := HPS.out x (List.mem_of_getElem? HX.out)
    have hlk := cntI_look hM hxI
    obtain ⟨W1, hup, hM1, ht⟩ := cntI_turn hM hxI (by omega)
    have H1 : Hid (Cnt1 w ps W1 (i + 1)) := by
     have hg := ht.grown
     refine ⟨?_, (hg.block _ (lt_heap hBx) (fun e => by have := Option.some.inj e; omega)).trans hBx, ?_⟩
     · rw [List.take_add_one, HX.out]
       exact hM1
     · exact hb.grown hg hb.size (fun q hq => by injection hq with hq; omega)
    have hcl : (ps.take i).count x ≤ 60000 := Nat.le_trans List.count_le_length (by rw [List.length_take]; omega)
    obtain ⟨cc, hcc⟩ : ∃ cc, (ps.take i).count x = cc := ⟨_, rfl⟩
    rw [hcc] at hlk hup hcl
    clear hM hBx hb hM1 ht hcc hx hxI
    go_wp2
    go_roundw
    case rel => exact ⟨i + 1, rfl, hi2, H1⟩
    case measure => simp only [intOf]; omega
end

section
open Go.RowKit Go.Maps
set_option maxRecDepth 100000 in
set_option maxHeartbeats 4000000 in
theorem t_sameInts (A B : Option Addr) (n m ca cb : Nat) (la lb : List Int) (r : Bool) (hr : decide (la = lb) = r) (w : World) (ha : IntsAt w A la) (hn : la.length = n) (hn2 : n ≤ 60000) (hb : IntsAt w B lb) (hm : lb.length = m) (hm2 : m ≤ 60000) :
  Calls Tryz.prog 41 #[.slice A n ca, .slice B m cb] w fun e w' => e = .returned (.bool r) ∧ Below w.heap.size w w' := by
 have HR := zz hr
 have HA := zz ha
 have HB := zz hb
 have HNN := zz hn
 have HMM := zz hm
 clear ha hb hn hm hr
 by_cases hnm : n = m
 · subst hnm
   go_enter Tryz.func41, Tryz.ntmps41
   go_wp2
   go_loopw [5] (fun x wr => ∃ i : Nat, x = .int .i64 (i : Int) ∧ i ≤ n ∧ Hid (Below w.heap.size w wr) ∧ Hid (la.take i = lb.take i)) (fun x _ => n - (intOf x).toNat)
   case atStart => exact ⟨0, rfl, Nat.zero_le _, Below.refl _ _, rfl⟩
   case round =>
    obtain ⟨i, rfl, hi, HW, HT⟩ := hrel
    by_cases he : i = n
    · have hf : Hid (r = true) := by
       show r = true
       rw [← HR.out, decide_eq_true_eq]
       have h := HT.out
       rw [List.take_of_length_le (by rw [HNN.out]; omega), List.take_of_length_le (by rw [HMM.out]; omega)] at h
       exact h
      go_wp2
      go_ret
      exact ⟨by rw [hf.out]; rfl, HW.out⟩
    · have hi2 : i < n := by omega
      obtain ⟨b, o, rfl, c1⟩ := ints_cell (HA.out.below HW.out) (k := i) (by rw [HNN.out]; exact hi2)
      obtain ⟨b2, o2, rfl, c2⟩ := ints_cell (HB.out.below HW.out) (k := i) (by rw [HMM.out]; exact hi2)
      obtain ⟨x, hx⟩ : ∃ x, la[i]'(by rw [HNN.out]; exact hi2) = x := ⟨_, rfl⟩
      obtain ⟨y, hy⟩ : ∃ y, lb[i]'(by rw [HMM.out]; exact hi2) = y := ⟨_, rfl⟩
      rw [hx] at c1
      rw [hy] at c2
      have HX : Hid (la[i]? = some x) := by show _ = _; rw [← hx]; exact List.getElem?_eq_getElem _
      have HY : Hid (lb[i]? = some y) := by show _ = _; rw [← hy]; exact List.getElem?_eq_getElem _
      clear hx hy
      by_cases hxy : x = y
      · subst hxy
        go_wp2
        go_quiet (fail)
        generalize hw2 : wr.drewN _ = w2
        have HB2 : Hid (Below w.heap.size w w2) := by rw [← hw2]; exact pbelow_drewN HW.out _
        clear hw2
        go_wp2
        go_roundw
        case rel => exact ⟨i + 1, rfl, hi2, HB2, by show _ = _; rw [List.take_add_one, List.take_add_one, HT.out, HX.out, HY.out]⟩
        case measure => simp only [intOf]; omega
      · have hxy2 : (x == y) = false := by simpa using hxy
        have hf : Hid (r = false) := by
         show r = false
         rw [← HR.out, decide_eq_false_iff_not]
         intro h
         have h1 := HX.out
         rw [h, HY.out] at h1
         exact hxy (Option.some.inj h1).symm
        clear hxy
        go_wp2
        go_quiet (fail)
        generalize hw2 : wr.drewN _ = w2
        have HB2 : Hid (Below w.heap.size w w2) := by rw [← hw2]; exact pbelow_drewN HW.out _
        clear hw2
        go_wp2
        go_ret
        exact ⟨by rw [hf.out]; rfl, HB2.out⟩
 · have hnm2 : ((n : Int) == m) = false := by simp; omega
   have hf : Hid (r = false) := by
    show r = false
    rw [← HR.out, decide_eq_false_iff_not]
    intro h
    apply hnm
    rw [← HNN.out, ← HMM.out, h]
   go_enter Tryz.func41, Tryz.ntmps41
   go_wp2
   go_ret
   exact ⟨by rw [hf.out]; rfl, Below.refl _ _⟩
theorem flatR_get : ∀ {l : List R} {k : Nat} {r : R}, l[k]? = some r → ∀ {i : Nat} {v : Value}, (cellsR r)[i]? = some v → (flatR l)[k * 12 + i]? = some v
 | [], k, r, h, i, v, hv => by simp at h
 | a :: l, 0, r, h, i, v, hv => by
  simp at h
  subst h
  have hi : i < 12 := (Array.getElem?_eq_some_iff.1 hv).1
  unfold flatR
  rw [List.flatMap_cons, Nat.zero_mul, Nat.zero_add, List.getElem?_append_left (by simpa [cellsL] using hi)]
  show (cellsR a).toList[i]? = _
  rw [Array.getElem?_toList]
  exact hv
 | a :: l, k + 1, r, h, i, v, hv => by
  have h2 : l[k]? = some r := by simpa using h
  have h3 := flatR_get h2 hv
  unfold flatR at h3 ⊢
  have e : (cellsL a).length = 12 := rfl
  rw [List.flatMap_cons, List.getElem?_append_right (by rw [e]; omega), e, show (k + 1) * 12 + i - 12 = k * 12 + i by omega]
  exact h3
theorem recs_of_row {w : World} {base n c : Nat} {A : Option Addr} {l : List R} (h : w.ownsRow base 50 12 (.slice A n c) n (flatR l)) (hn : l.length = n) (hok : ∀ r ∈ l, RecOk r) : RecsAt w A l := ⟨fun hl => by
 rcases h.2 with ⟨h', h1⟩ | ⟨g, cap, cur, h', _, hc, _⟩
 · exact absurd (List.eq_nil_of_length_eq_zero (by omega)) hl
 · simp only [Value.slice.injEq] at h'
   obtain ⟨rfl, _, rfl⟩ := h'
   refine ⟨g, 0, rfl, lt_heap hc, fun k r hk i v hv => ?_⟩
   have hk2 := (List.getElem?_eq_some_iff.1 hk).1
   have hi : i < 12 := (Array.getElem?_eq_some_iff.1 hv).1
   rw [Nat.zero_add, h.cellAt _ (by omega)]
   exact flatR_get hk hv, hok⟩
end

section
open Go.RowKit Go.Maps
def T1 : R := ⟨0, 1, 1, ⟨#[97]⟩, 2, 2, 0, ⟨#[]⟩, 0, 0, 0, ⟨#[]⟩⟩
def T2 : R := ⟨0, 1, 1, ⟨#[98]⟩, 3, 1, 0, ⟨#[]⟩, 0, 0, 0, ⟨#[]⟩⟩
def T3 : R := ⟨0, 1, 2, ⟨#[99]⟩, 4, 1, 0, ⟨#[]⟩, 0, 0, 0, ⟨#[]⟩⟩
def threeL : List R := [T1, T2, T3]
theorem ok_of (r : R) (h : 0 ≤ r.stamp ∧ r.stamp ≤ 18446744073709551615 ∧ 0 ≤ r.act ∧ r.act ≤ 255 ∧ 0 ≤ r.dir ∧ r.dir ≤ 4294967295 ∧ 0 ≤ r.ino ∧ r.ino ≤ 4294967295 ∧ 0 ≤ r.kind ∧ r.kind ≤ 255 ∧ 0 ≤ r.dir2 ∧ r.dir2 ≤ 4294967295 ∧ 0 ≤ r.old ∧ r.old ≤ 4294967295 ∧ 0 ≤ r.size ∧ r.size ≤ 4294967295) (h1 : r.name.size ≤ 100) (h2 : r.name2.size ≤ 100) (h3 : r.data.size ≤ 100) : RecOk r := by
 obtain ⟨a, b, c, d, e, f, g, h, i, j, k, l, m, n, o, p⟩ := h
 exact ⟨⟨⟨a, b⟩, ⟨c, d⟩, ⟨e, f⟩, ⟨g, h⟩, ⟨i, j⟩, ⟨k, l⟩, ⟨m, n⟩, ⟨o, p⟩⟩, Nat.le_trans h1 (by decide), Nat.le_trans h2 (by decide), Nat.le_trans h3 (by decide)⟩
theorem three_ok : ∀ r ∈ threeL, RecOk r := by
 intro r hr
 unfold threeL at hr
 simp only [List.mem_cons, List.not_mem_nil, or_false] at hr
 rcases hr with rfl | rfl | rfl
 · exact ok_of _ (by decide) (by decide) (by decide) (by decide)
 · exact ok_of _ (by decide) (by decide) (by decide) (by decide)
 · exact ok_of _ (by decide) (by decide) (by decide) (by decide)
theorem three_places : placesL threeL [4] = [0, 2] := by decide +kernel
theorem three_of : (pickL threeL [4] true).length = 2 := by decide +kernel
theorem three_rest : (pickL threeL [4] false).length = 1 := by decide +kernel
theorem three_on : onZ threeL 2 = [0] := by decide +kernel
theorem three_closed0 : closedB threeL [0] = true := by decide +kernel
theorem three_closed2 : closedB threeL [2] = false := by decide +kernel
set_option maxRecDepth 100000 in
set_option maxHeartbeats 4000000 in
theorem t_three (w : World) : Calls Tryz.prog 40 #[] w fun e w' => ∃ g, e = .returned (.slice (some ⟨g, 0, none⟩) 3 3) ∧ RecsAt w' (some ⟨g, 0, none⟩) threeL ∧ Below w.heap.size w w' := by
 go_enter Tryz.func40, Tryz.ntmps40
 go_wp2
 have hcells : ∀ (k : Nat) (r : R), threeL[k]? = some r → ∀ (i : Nat) (v : Value), (cellsR r)[i]? = some v → (w.alloc (.cells (flatR threeL).toArray 50)).cell? ⟨w.heap.size, 0 + k * 12 + i, none⟩ = some v := fun k r hk i v hv => by
  rw [Nat.zero_add, World.cell?_alloc_new]
  simpa using flatR_get hk hv
 have HC := zz hcells
 clear hcells
 go_ret
 exact ⟨_, rfl, ⟨fun _ => ⟨_, 0, rfl, by simp, HC.out⟩, three_ok⟩, below_a1' w _⟩
theorem IntsAt.below {w w' : World} {A : Option Addr} {l : List Int} (h : IntsAt w A l) (hb : Below w.heap.size w w') : IntsAt w' A l := SliceAt.below h hb
theorem ints_of_row {w : World} {base n c : Nat} {A : Option Addr} {e : TypeId} {l : List Nat} {m : List Int} (h : w.ownsRow base e 1 (.slice A n c) n (natV l)) (hm : (l.map fun (n : Nat) => (n : Int)) = m) : IntsAt w A m := by
 subst hm
 have := slice_of_row h
 rw [natV_map] at this
 exact this
theorem inos_one (w : World) (x : Int) (T : TypeId) : InosAt (w.alloc (.cells #[.int .u32 x] T)) (some ⟨w.heap.size, 0, none⟩) [x] := fun _ => ⟨_, 0, rfl, by simp, fun k y hk => by
 cases k with
 | zero =>
  simp at hk
  subst hk
  simp [World.cell?_alloc_new]
 | succ k => simp at hk⟩
theorem ints_one (w : World) (x : Int) (T : TypeId) : IntsAt (w.alloc (.cells #[.int .i64 x] T)) (some ⟨w.heap.size, 0, none⟩) [x] := SliceAt.built w [.int .i64 x] T
theorem ints_two (w : World) (x y : Int) (T : TypeId) : IntsAt (w.alloc (.cells #[.int .i64 x, .int .i64 y] T)) (some ⟨w.heap.size, 0, none⟩) [x, y] := SliceAt.built w [.int .i64 x, .int .i64 y] T
theorem i64_0 : I64 0 := ⟨by decide, by decide⟩
theorem i64_2 : I64 2 := ⟨by decide, by decide⟩
theorem i64_one (x : Int) (h : I64 x) : ∀ y ∈ [x], I64 y := fun y hy => by
 simp at hy
 subst hy
 exact h
set_option maxRecDepth 100000 in
set_option maxHeartbeats 4000000 in
theorem t_alive25 (w : World) : Calls Tryz.prog 15 #[] w fun e w' => e = .returned (.bool true) ∧ Below w.heap.size w w' := by
 go_enter Tryz.func15, Tryz.ntmps15
 go_wp2_with (first
  | (go_at_call 40; (with_reducible refine (t_three _).mono ?_); rintro e w1 ⟨g, rfl, h1, h2⟩; have H1 := zz (And.intro h1 h2); clear h1 h2)
  | (go_at_call 42; (with_reducible refine (t_places (some ⟨g, 0, none⟩) 3 3 threeL (some ⟨w1.heap.size, 0, none⟩) 1 1 [4] _ (H1.out.1.below (below_a1' w1 _)) rfl (by decide) (by decide) (inos_one w1 4 _) rfl (by decide)).mono ?_); rintro e w2 ⟨v2, rfl, h1, h2⟩; rw [three_places] at h1; have h1 : w2.ownsRow _ 3 1 v2 2 (natV [0, 2]) := h1; obtain ⟨A2, c2, rfl⟩ := row_slice h1; have HI2 := zz (ints_of_row h1 (m := [0, 2]) rfl); have H2 := zz (ptrans (below_a1' w1 _) h2); clear h1 h2)
  | (go_at_call 41; (with_reducible refine (t_sameInts A2 (some ⟨w2.heap.size, 0, none⟩) 2 2 c2 2 [0, 2] [0, 2] true (by decide) _ (HI2.out.below (below_a1' w2 _)) rfl (by decide) (ints_two w2 0 2 _) rfl (by decide)).mono ?_); rintro e w3 ⟨rfl, h2⟩; have H3 := zz (ptrans H2.out (ptrans (below_a1' w2 _) h2)); clear h2)
  | (go_at_call 18; (with_reducible refine (t_of (some ⟨g, 0, none⟩) 3 3 threeL (some ⟨w3.heap.size, 0, none⟩) 1 1 [4] _ (H1.out.1.below (ptrans H3.out (below_a1' w3 _))) rfl (by decide) (by decide) (inos_one w3 4 _) rfl (by decide)).mono ?_); rintro e w4 ⟨v4, rfl, h1, h2⟩; rw [three_of] at h1; obtain ⟨A4, c4, rfl⟩ := row_slice h1; have H4 := zz (ptrans H3.out (ptrans (below_a1' w3 _) h2)); clear h1 h2)
  | (go_at_call 21; (with_reducible refine (t_rest (some ⟨g, 0, none⟩) 3 3 threeL (some ⟨w4.heap.size, 0, none⟩) 1 1 [4] _ (H1.out.1.below (ptrans H4.out (below_a1' w4 _))) rfl (by decide) (by decide) (inos_one w4 4 _) rfl (by decide)).mono ?_); rintro e w5 ⟨v5, rfl, h1, h2⟩; rw [three_rest] at h1; obtain ⟨A5, c5, rfl⟩ := row_slice h1; have H5 := zz (ptrans H4.out (ptrans (below_a1' w4 _) h2)); clear h1 h2)
  | (go_at_call 43; (with_reducible refine (t_closed (some ⟨g, 0, none⟩) 3 3 threeL (some ⟨w5.heap.size, 0, none⟩) 1 1 [0] _ (H1.out.1.below (ptrans H5.out (below_a1' w5 _))) rfl (by decide) (by decide) (ints_one w5 0 _) rfl (by decide) (i64_one 0 i64_0)).mono ?_); rintro e w6 ⟨rfl, h2⟩; rw [three_closed0]; have H6 := zz (ptrans H5.out (ptrans (below_a1' w5 _) h2)); clear h2)
  | (go_at_call 43; (with_reducible refine (t_closed (some ⟨g, 0, none⟩) 3 3 threeL (some ⟨w6.heap.size, 0, none⟩) 1 1 [2] _ (H1.out.1.below (ptrans H6.out (below_a1' w6 _))) rfl (by decide) (by decide) (ints_one w6 2 _) rfl (by decide) (i64_one 2 i64_2)).mono ?_); rintro e w7 ⟨rfl, h2⟩; rw [three_closed2]; have H7 := zz (ptrans H6.out (ptrans (below_a1' w6 _) h2)); clear h2)
  | (go_at_call 44; (with_reducible refine (t_onZ (some ⟨g, 0, none⟩) 3 3 2 i64_2 threeL _ (H1.out.1.below H7.out) rfl (by decide) (by decide)).mono ?_); rintro e w8 ⟨v8, rfl, h1, h2⟩; rw [three_on] at h1; have h1 : w8.ownsRow _ 3 1 v8 1 (natV [0]) := h1; obtain ⟨A8, c8, rfl⟩ := row_slice h1; have HI8 := zz (ints_of_row h1 (m := [0]) rfl); have H8 := zz (ptrans H7.out h2); clear h1 h2)
  | (go_at_call 41; (with_reducible refine (t_sameInts A8 (some ⟨w8.heap.size, 0, none⟩) 1 1 c8 1 [0] [0] true (by decide) _ (HI8.out.below (below_a1' w8 _)) rfl (by decide) (ints_one w8 0 _) rfl (by decide)).mono ?_); rintro e w9 ⟨rfl, h2⟩; have H9 := zz (ptrans H8.out (ptrans (below_a1' w8 _) h2)); clear h2))
 go_ret
 exact ⟨rfl, ptrans H1.out.2 H9.out⟩
end

section
open Go.RowKit Go.Maps
set_option maxRecDepth 100000 in
set_option maxHeartbeats 4000000 in
theorem t_long25 (A : Option Addr) (c n : Nat) (l : List R) (w : World) (hl : RecsAt w A l) (hn : l.length = n) (_hnc : n ≤ c) (_hn2 : n ≤ maxLen) :
  Calls Tryz.prog 13 #[.slice A n c] w fun e w' => ∃ b : Bool, e = .returned (.bool b) ∧ (b = false → n ≤ 60) ∧ Below w.heap.size w w' := by
 have HN := zz hn
 have HL := zz hl
 clear hl hn
 go_enter Tryz.func13, Tryz.ntmps13
 go_wp2
 go_loopw [3, 4] (fun v x wr => ∃ (i : Nat) (m : Int), v = .int .i64 m ∧ x = .int .i64 (i : Int) ∧ i ≤ n ∧ i ≤ 100 ∧ Hid (Below w.heap.size w wr)) (fun _ x _ => n - (intOf x).toNat)
 case atStart => exact ⟨0, 0, rfl, rfl, Nat.zero_le _, Nat.zero_le _, Below.refl _ _⟩
 case round =>
  obtain ⟨i, m, rfl, rfl, hi, hi1, HW⟩ := hrel
  by_cases he : i < n ∧ i < 100
  · obtain ⟨he, he1⟩ := he
    obtain ⟨x, hx⟩ : ∃ x, l[i]? = some x := ⟨l[i]'(by rw [HN.out]; omega), List.getElem?_eq_getElem _⟩
    obtain ⟨b, o, rfl, hbl, hc⟩ := (HL.out.below HW.out).at_ (fun e => by rw [e] at hx; simp at hx)
    have c3 := hc i x hx 3 _ rfl
    have c7 := hc i x hx 7 _ rfl
    have c11 := hc i x hx 11 _ rfl
    have hy := HL.out.ok x (List.mem_of_getElem? hx)
    clear hc hx hbl
    clear hy
    go_wp2
    go_quiet (fail)
    generalize hw2 : wr.drewN _ = w2
    have HB2 : Hid (Below w.heap.size w w2) := by rw [← hw2]; exact pbelow_drewN HW.out _
    clear hw2
    go_wp2
    go_roundw
    case rel => exact ⟨i + 1, _, rfl, rfl, he, by omega, HB2⟩
    case measure => simp only [intOf]; omega
  · by_cases h60 : 60 < n <;> by_cases hm : 8192 < m <;> by_cases hin : i < n
    all_goals
     try have h100 : ¬ i < 100 := fun e => he ⟨hin, e⟩
     go_wp2
     all_goals
      go_ret
      first
       | exact .inr ⟨rfl, HW.out⟩
       | exact .inl ⟨rfl, by omega, HW.out⟩
       | exact ⟨true, rfl, (fun h => by cases h), HW.out⟩
       | exact .inl ⟨congrArg (fun b => Ending.returned (.bool b)) (show decide (60 < (n : Int)) = false from decide_eq_false (by omega)), by omega, HW.out⟩
end
end Go.Proofs.YtogljgiefmfafaaGreat
