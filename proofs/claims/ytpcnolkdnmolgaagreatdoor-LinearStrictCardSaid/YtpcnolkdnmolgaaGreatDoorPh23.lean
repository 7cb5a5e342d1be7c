/- linear: the order of commits, who is not answered, who precedes whom. -/
import Derived.Test.YtpcnolkdnmolgaaGreatDoorPh11
import Derived.Test.YtpcnolkdnmolgaaGreatDoorPh15
import Derived.Test.YtpcnolkdnmolgaaGreatDoorPh16
import Derived.Test.YtpcnolkdnmolgaaGreatDoorPh17
import Derived.Test.YtpcnolkdnmolgaaGreatDoorPh20
import Derived.Test.YtpcnolkdnmolgaaGreatDoorPh22
import Derived.Laws.StructEq
namespace Go.Proofs.YtpcnolkdnmolgaaGreatDoor
section
open Go.RowKit Go.Maps
def IReads (w : World) (A : Option Addr) (l : List Int) : Prop := l ≠ [] → ∃ b o, A = some ⟨b, o, none⟩ ∧ b < w.heap.size ∧ ∀ (k : Nat) (x : Int), l[k]? = some x → w.cell? ⟨b, o + k, none⟩ = some (.int .i64 x)
theorem IReads.below {w w' : World} {A : Option Addr} {l : List Int} (h : IReads w A l) (hb : Below w.heap.size w w') : IReads w' A l := fun hn => by
 obtain ⟨b, o, h1, h2, h3⟩ := h hn
 exact ⟨b, o, h1, Nat.lt_of_lt_of_le h2 hb.size, fun k x hk => (World.cell?_of_block (a := ⟨b, _, none⟩) (hb.block b h2)).trans (h3 k x hk)⟩
theorem IReads.get {w : World} {A : Option Addr} {l : List Int} (h : IReads w A l) {k : Nat} {x : Int} (hk : l[k]? = some x) : ∃ b o, A = some ⟨b, o, none⟩ ∧ b < w.heap.size ∧ ∀ W, Below w.heap.size w W → W.cell? ⟨b, o + k, none⟩ = some (.int .i64 x) := by
 obtain ⟨b, o, h1, h2, h3⟩ := h (fun e => by rw [e] at hk; simp at hk)
 exact ⟨b, o, h1, h2, fun W hW => (World.cell?_of_block (a := ⟨b, _, none⟩) (hW.block b h2)).trans (h3 k x hk)⟩
theorem IntR.reads {w W : World} {v : Value} {l : List Int} (h : IntR w W v l) : ∃ A c, v = .slice A l.length c ∧ IReads W A l := by
 rcases h.1.2 with ⟨rfl, h0⟩ | ⟨g, cap, cur, rfl, _, hg, hc1, hc2, hc3, hc4⟩
 · have hl : l = [] := List.eq_nil_of_length_eq_zero h0
   subst hl
   exact ⟨none, 0, rfl, fun e => absurd rfl e⟩
 · refine ⟨_, _, rfl, fun _ => ⟨g, 0, rfl, (Array.getElem?_eq_some_iff.1 hg).1, fun k x hk => ?_⟩⟩
   have hk2 : (l.map intV)[k]? = some (.int .i64 x) := by rw [List.getElem?_map, hk]; rfl
   rw [← hc4, List.getElem?_take_of_lt (by have := (List.getElem?_eq_some_iff.1 hk).1; omega)] at hk2
   simp only [World.cell?, hg, Nat.zero_add]
   simpa using hk2
def FoundN (l : List Int) (x : Int) (e : Ending) : Prop := ∃ k : Int, e = .returned (.int .i64 k) ∧ decide (0 ≤ k) = l.contains x
theorem take_contains {l : List Int} {j : Nat} {x y : Int} (h : (l.take j).contains x = false) (hy : l[j]? = some y) (hne : y ≠ x) : (l.take (j + 1)).contains x = false := by
 rw [List.take_add_one, hy]
 simp only [List.contains_eq_mem, decide_eq_false_iff_not] at h ⊢
 simp [h, Ne.symm hne]
set_option maxRecDepth 100000 in
set_option maxHeartbeats 2000000 in
theorem t_indexN (A : Option Addr) (n c : Nat) (l : List Int) (x : Int) (w : World) (hl : l.length = n) (hn : n ≤ 100000) (hr : IReads w A l) :
  Calls Tryz.prog 92 #[.slice A n c, .int .i64 x] w fun e w' => FoundN l x e ∧ w = w' := by
 have HL := zz hl
 have HR := zz hr
 clear hl hr
 go_enter Tryz.func92, Tryz.ntmps92
 go_wp2
 go_loopw [8] (fun v W => ∃ j : Nat, v = .int .i64 (j : Int) ∧ j ≤ n ∧ Hid ((l.take j).contains x = false) ∧ W = w) (fun v _ => n - (intOf v).toNat)
 case atStart => exact ⟨0, rfl, Nat.zero_le _, rfl, rfl⟩
 case round =>
  obtain ⟨j, rfl, hj, HNo, rfl⟩ := hrel
  by_cases he : j = n
  · have HF : Hid (FoundN l x (.returned (.int .i64 (-1)))) := by
     refine ⟨-1, rfl, ?_⟩
     have h := HNo.out
     rw [List.take_of_length_le (by rw [HL.out, he]; exact Nat.le_refl _)] at h
     rw [h]
     rfl
    subst he
    go_wp2
    go_ret
    exact ⟨HF.out, rfl⟩
  · have hjn : j < n := by omega
    obtain ⟨y, hy⟩ : ∃ y, l[j]? = some y := ⟨l[j]'(by rw [HL.out]; exact hjn), List.getElem?_eq_getElem _⟩
    obtain ⟨b, o, rfl, hb, hc⟩ := HR.out.get hy
    have c1 := hc wr (Below.refl _ _)
    have HY := zz hy
    clear hc hy hb he
    by_cases hxy : x = y
    · subst hxy
      have HF : Hid (FoundN l x (.returned (.int .i64 (j : Int)))) := ⟨j, rfl, by
       have : x ∈ l := List.mem_of_getElem? HY.out
       simp [this]⟩
      go_wp2
      go_ret
      exact ⟨HF.out, rfl⟩
    · have hxb : (x == y) = false := by simpa using hxy
      have HN2 := zz (take_contains HNo.out HY.out (fun e => hxy e.symm))
      go_wp2
      exact ⟨⟨j + 1, by go_num, by omega, HN2, by simp⟩, by simp [intOf]; omega⟩
set_option maxRecDepth 100000 in
theorem t_contN (A : Option Addr) (n c : Nat) (l : List Int) (x : Int) (w : World) (hl : l.length = n) (hn : n ≤ 100000) (hr : IReads w A l) :
  Calls Tryz.prog 58 #[.slice A n c, .int .i64 x] w fun e w' => e = .returned (.bool (l.contains x)) ∧ w = w' := by
 have HT := zz (t_indexN A n c l x w hl hn hr)
 obtain ⟨r, hcr⟩ : ∃ r, l.contains x = r := ⟨_, rfl⟩
 rw [hcr]
 have HC := zz hcr
 clear hl hr hcr
 go_enter Tryz.func58, Tryz.ntmps58
 go_wp2_with (go_at_call 92; (with_reducible refine HT.out.mono ?_); rintro e w1 ⟨⟨k, rfl, hk⟩, rfl⟩; have HK := zz (hk.trans HC.out); clear hk)
 go_ret
 first | exact ⟨rfl, rfl⟩ | exact ⟨by rw [← HK.out]; rfl, rfl⟩
theorem precB_drop {a b k v : Int} {d : Bool} {E : List (Int × Int)} {i : Nat} (h : E[i]? = some (k, v)) : precB a b d (E.drop i) = if v < 0 then precB a b d (E.drop (i + 1)) else if k = 3 ∧ v = a then precB a b true (E.drop (i + 1)) else if k = 1 ∧ v = b ∧ d = true then true else precB a b d (E.drop (i + 1)) := by
 rw [List.drop_eq_getElem_cons (List.getElem?_eq_some_iff.1 h).1, (List.getElem?_eq_some_iff.1 h).2]
 rfl
set_option maxRecDepth 100000 in
set_option maxHeartbeats 2000000 in
theorem t_prec31 (a b : Int) (A : Option Addr) (n c : Nat) (l : List Ev) (w : World) (hl : EvsAt w A l) (hn : l.length = n) (hn2 : n ≤ 1000) (hf : ∀ e ∈ l, Ev.Fits e) :
  Calls Tryz.prog 24 #[.int .i64 a, .int .i64 b, .slice A n c] w fun e w' => e = .returned (.bool (precL a b (ckL l))) ∧ Below w.heap.size w w' := by
 have HL := zz hl
 have HN := zz hn
 have HT := zz (t_of31 A n c l w hl hn hn2 hf)
 obtain ⟨r, hr⟩ : ∃ r, precL a b (ckL l) = r := ⟨_, rfl⟩
 rw [hr]
 have HP := zz hr
 clear hl hn hf hr
 go_enter Tryz.func24, Tryz.ntmps24
 go_wp2_with (go_at_call 56; (with_reducible refine HT.out.mono ?_); rintro e w1 ⟨B, rfl, hr, hB, hb⟩; have HR := zz hr; have HBW := zz hb; clear hr hB hb)
 go_loopw [7, 13] (fun v7 v13 W => ∃ (i : Nat) (d : Bool), v7 = .bool d ∧ v13 = .int .i64 (i : Int) ∧ i ≤ n ∧ Hid (precB a b d ((kn (ckL l)).drop i) = r) ∧ W = w1) (fun _ v _ => n - (intOf v).toNat)
 case atStart => exact ⟨0, false, rfl, rfl, Nat.zero_le _, HP.out, rfl⟩
 case round =>
  obtain ⟨i, d, rfl, rfl, hi, HPB, rfl⟩ := hrel
  by_cases he : i = n
  · have HF : Hid (r = false) := by
     have h := HPB.out
     rw [List.drop_of_length_le (by rw [kn_len, HN.out, he]; exact Nat.le_refl _)] at h
     exact h.symm
    subst he
    go_wp2
    go_ret
    exact ⟨by rw [HF.out]; rfl, HBW.out⟩
  · have hin : i < n := by omega
    obtain ⟨e, hx⟩ : ∃ e, l[i]? = some e := ⟨l[i]'(by rw [HN.out]; exact hin), List.getElem?_eq_getElem _⟩
    obtain ⟨v, hv⟩ := num_at (l := l) (i := i) (by rw [HN.out]; exact hin)
    have hkn := kn_at hx hv
    obtain ⟨bb, o, rfl, hb, hc⟩ := HL.out.get hx
    have c1 : wr.cell? ⟨bb, o + i * 18 + 1, none⟩ = some (.int .u8 e.kind) := hc wr HBW.out 1 _ rfl
    have c2 := HR.out.cell hv
    have hpd := precB_drop (a := a) (b := b) (d := d) hkn
    rw [HPB.out] at hpd
    have HPD := zz hpd
    obtain ⟨kind, hkd⟩ : ∃ kind, e.kind = kind := ⟨_, rfl⟩
    rw [hkd] at c1 HPD
    clear hx hv hkn hb hc hpd he hkd HPB
    by_cases h0 : v < 0
    · have HQ := zz (HPD.out.trans (if_pos h0)).symm
      go_wp2
      exact ⟨⟨i + 1, d, rfl, by go_num, by omega, HQ, by simp⟩, by simp [intOf]; omega⟩
    · have h1 := HPD.out.trans (if_neg h0)
      have h0b : ¬ v < 0 := h0
      by_cases k3 : kind = 3
      · subst k3
        by_cases hva : v = a
        · have HQ := zz (h1.trans (if_pos ⟨rfl, hva⟩)).symm
          subst hva
          clear h1 HPD
          go_wp2
          exact ⟨⟨i + 1, true, rfl, by go_num, by omega, HQ, by simp⟩, by simp [intOf]; omega⟩
        · have HQ := zz ((h1.trans (if_neg (fun h => hva h.2))).trans (if_neg (fun h => absurd h.1 (by decide)))).symm
          have hvb : (v == a) = false := by simpa using hva
          clear h1 HPD
          go_wp2
          exact ⟨⟨i + 1, d, rfl, by go_num, by omega, HQ, by simp⟩, by simp [intOf]; omega⟩
      · have h2 := h1.trans (if_neg (fun h => k3 h.1))
        have j3 : (kind == 3) = false := by simpa using k3
        by_cases k1 : kind = 1
        · subst k1
          by_cases hvb : v = b
          · cases d with
            | true =>
             have HQ := zz (h2.trans (if_pos ⟨rfl, hvb, rfl⟩))
             subst hvb
             clear h1 h2 HPD
             go_wp2
             go_ret
             first | exact ⟨rfl, HBW.out⟩ | exact ⟨by rw [HQ.out]; rfl, HBW.out⟩
            | false =>
             have HQ := zz (h2.trans (if_neg (fun h => absurd h.2.2 (by decide)))).symm
             subst hvb
             clear h1 h2 HPD
             go_wp2
             exact ⟨⟨i + 1, false, rfl, by go_num, by omega, HQ, by simp⟩, by simp [intOf]; omega⟩
          · have HQ := zz (h2.trans (if_neg (fun h => hvb h.2.1))).symm
            have hvc : (v == b) = false := by simpa using hvb
            clear h1 h2 HPD
            go_wp2
            exact ⟨⟨i + 1, d, rfl, by go_num, by omega, HQ, by simp⟩, by simp [intOf]; omega⟩
        · have HQ := zz (h2.trans (if_neg (fun h => k1 h.1))).symm
          have j1 : (kind == 1) = false := by simpa using k1
          clear h1 h2 HPD
          go_wp2
          exact ⟨⟨i + 1, d, rfl, by go_num, by omega, HQ, by simp⟩, by simp [intOf]; omega⟩
set_option maxRecDepth 100000 in
theorem t_order31 (A : Option Addr) (n c : Nat) (l : List Ev) (w : World) (hl : EvsAt w A l) (hn : l.length = n) (hn2 : n ≤ 1000) (hf : ∀ e ∈ l, Ev.Fits e) :
  Calls Tryz.prog 25 #[.slice A n c] w fun e w' => ∃ v, e = .returned v ∧ IntR w w' v (thoseL 2 (kn (ckL l))) := by
 have HT := zz (t_those31 A n c l w hl hn hn2 hf 2)
 clear hl hn hf
 go_enter Tryz.func25, Tryz.ntmps25
 go_wp2_with (go_at_call 57; (with_reducible refine HT.out.mono ?_); rintro e w1 ⟨v, rfl, h⟩; have HI := zz h; clear h)
 go_ret
 exact ⟨_, rfl, HI.out⟩
theorem pend_snoc {E B : List Int} {i : Nat} {x : Int} (h : B[i]? = some x) : ((B.take (i + 1)).filter fun k => !E.contains k) = if E.contains x = true then (B.take i).filter fun k => !E.contains k else ((B.take i).filter fun k => !E.contains k) ++ [x] := by
 rw [List.take_add_one, h, List.filter_append]
 by_cases c : E.contains x = true
 · rw [if_pos c]
   simp only [Option.toList]
   rw [List.filter_cons, c]
   simp
 · rw [if_neg c]
   simp only [Option.toList]
   have c2 : (!E.contains x) = true := by
    cases h : E.contains x with
    | true => exact absurd h c
    | false => rfl
   rw [List.filter_cons, if_pos c2]
   rfl
set_option maxRecDepth 100000 in
set_option maxHeartbeats 2000000 in
theorem t_pending31 (A : Option Addr) (n c : Nat) (l : List Ev) (w : World) (hl : EvsAt w A l) (hn : l.length = n) (hn2 : n ≤ 1000) (hf : ∀ e ∈ l, Ev.Fits e) :
  Calls Tryz.prog 26 #[.slice A n c] w fun e w' => ∃ v, e = .returned v ∧ IntR w w' v (pendL (kn (ckL l))) := by
 have HT := zz (fun (W : World) (hb : Below w.heap.size w W) (kd : Int) => t_those31 A n c l W (hl.below hb) hn hn2 hf kd)
 have HLE := zz (show ∀ kd, (thoseL kd (kn (ckL l))).length ≤ 1000 from fun kd => Nat.le_trans (those_len _ _) (by rw [kn_len, hn]; exact hn2))
 obtain ⟨r, hr⟩ : ∃ r, pendL (kn (ckL l)) = r := ⟨_, rfl⟩
 rw [hr]
 have HPR := zz hr
 clear hl hn hf hr
 go_enter Tryz.func26, Tryz.ntmps26
 go_wp2_with (first
  | (go_at_call 57; (with_reducible refine (HT.out w (Below.refl _ _) 3).mono ?_); rintro e w1 ⟨v1, rfl, h⟩
     obtain ⟨A1, c1, rfl, hr1⟩ := h.reads
     have H1 := zz hr1
     have HB1 := zz h.2
     clear h hr1)
  | (go_at_call 57; (with_reducible refine (HT.out w1 HB1.out 1).mono ?_); rintro e w2 ⟨v2, rfl, h⟩
     obtain ⟨A2, c2, rfl, hr2⟩ := h.reads
     have H2 := zz hr2
     have HB2 := zz h.2
     clear h hr2))
 obtain ⟨E, hE⟩ : ∃ E, thoseL 3 (kn (ckL l)) = E := ⟨_, rfl⟩
 obtain ⟨G, hG⟩ : ∃ G, thoseL 1 (kn (ckL l)) = G := ⟨_, rfl⟩
 have HE := zz (HLE.out 3)
 have HG := zz (HLE.out 1)
 have HPR2 : Hid ((G.filter fun k => !E.contains k) = r) := by
  rw [← HPR.out, ← hE, ← hG]
  exact rfl
 rw [hE] at H1 HE ⊢
 rw [hG] at H2 HG ⊢
 clear hE hG HLE HT HPR
 obtain ⟨p, hp⟩ : ∃ p, G.length = p := ⟨_, rfl⟩
 obtain ⟨q, hq⟩ : ∃ q, E.length = q := ⟨_, rfl⟩
 rw [hp, hq]
 have HP := zz hp
 have HQ := zz hq
 have hp1 : p ≤ 1000 := by
  rw [← hp]
  exact HG.out
 have HR0 : Hid (IntR w2 w2 (.slice none 0 0) ((G.take 0).filter fun k => !E.contains k)) := ⟨⟨rfl, .inl ⟨rfl, rfl⟩⟩, Below.refl _ _⟩
 clear hp hq
 go_loopw [2, 11] (fun v2 v11 W => ∃ (i : Nat), v11 = .int .i64 (i : Int) ∧ i ≤ p ∧ Hid (IntR w2 W v2 ((G.take i).filter fun k => !E.contains k))) (fun _ v _ => p - (intOf v).toNat)
 case atStart => exact ⟨0, rfl, Nat.zero_le _, HR0.out⟩
 case round =>
  clear HR0
  obtain ⟨i, rfl, hi, HRR⟩ := hrel
  by_cases he : i = p
  · subst he
    have HF : Hid (IntR w wr u2 r) := by
     have h := (HRR.out.mono HB2.out).mono HB1.out
     rw [← HP.out, List.take_length, HPR2.out] at h
     exact h
    clear HRR
    go_wp2
    go_ret
    exact ⟨_, rfl, HF.out⟩
  · have hip : i < p := by omega
    obtain ⟨x, hx⟩ : ∃ x, G[i]? = some x := ⟨G[i]'(by rw [HP.out]; exact hip), List.getElem?_eq_getElem _⟩
    obtain ⟨b, o, rfl, hb, hc⟩ := H2.out.get hx
    have d1 := hc wr HRR.out.2
    have HS := zz (pend_snoc (E := E) hx)
    have HC := zz (t_contN A1 q c1 E x wr HQ.out (by have := HE.out; rw [HQ.out] at this; omega) (H1.out.below (ptrans HB2.out HRR.out.2)))
    obtain ⟨bb, hbb⟩ : ∃ bb, E.contains x = bb := ⟨_, rfl⟩
    rw [hbb] at HS HC
    obtain ⟨lx, hlx⟩ : ∃ lx, ((G.take i).filter fun k => !E.contains k) = lx := ⟨_, rfl⟩
    have hlen : lx.length ≤ 1000 := by
     rw [← hlx]
     exact Nat.le_trans (List.length_filter_le _ _) (by rw [List.length_take]; have := HG.out; omega)
    have HRX : Hid (IntR w2 wr u2 lx) := by rw [← hlx]; exact HRR.out
    rw [hlx] at HS
    clear hx hb hc hbb hlx he HRR
    cases bb with
    | true =>
     have HS2 := zz (HS.out.trans (if_pos rfl))
     go_wp2_with (go_at_call 58; (with_reducible refine HC.out.mono ?_); rintro e w3 ⟨rfl, rfl⟩)
     exact ⟨⟨i + 1, by go_num, by omega, by rw [HS2.out]; exact HRX⟩, by simp [intOf]; omega⟩
    | false =>
     have HS2 := zz (HS.out.trans (if_neg (by decide)))
     have hsz := HRX.out.2.size
     have hown := (HRX.out.later ((Below.refl _ _).alloc (Nat.le_refl _) (.cells #[.int .i64 x] 3) : Below wr.heap.size wr (wr.alloc (.cells #[.int .i64 x] 3)))).1
     obtain ⟨m, hm⟩ : ∃ m, lx.length = m := ⟨_, rfl⟩
     rw [hm] at hown hlen
     have HOW := zz hown
     have HM := zz hm
     have HRZ := zz HRX.out.2
     have HQ2 := zz (heap_alloc_new wr (.cells #[.int .i64 x] 3))
     clear hown HRX hm
     go_wp2_with (first
      | (go_at_call 58; (with_reducible refine HC.out.mono ?_); rintro e w3 ⟨rfl, rfl⟩)
      | (refine wpList_append_i rfl _ _ rfl w2.heap.size u2 lx m (m + 1) HM.out rfl rfl HOW.out wr.heap.size x rfl HQ2.out (by omega) (by simp; omega) ?_; intro A3 c3 w' hown' hgrow))
     have HRN : Hid (IntR w2 w' (.slice A3 (m + 1) c3) (lx ++ [x])) := ⟨by rw [List.length_append, HM.out]; exact hown', grow_below HRZ.out HOW.out hgrow⟩
     clear hown' hgrow
     exact ⟨⟨i + 1, by go_num, by omega, by rw [HS2.out]; exact HRN⟩, by simp [intOf]; omega⟩
def plc (l : List Int) (x : Int) : Int := if placeL x l < l.length then (placeL x l : Int) else -1
set_option maxRecDepth 100000 in
set_option maxHeartbeats 2000000 in
theorem t_place31 (A : Option Addr) (n c : Nat) (l : List Int) (x : Int) (w : World) (hl : l.length = n) (hn : n ≤ 100000) (hr : IReads w A l) :
  Calls Tryz.prog 27 #[.slice A n c, .int .i64 x] w fun e w' => e = .returned (.int .i64 (plc l x)) ∧ w = w' := by
 have HL := zz hl
 have HR := zz hr
 obtain ⟨r, hre⟩ : ∃ r, plc l x = r := ⟨_, rfl⟩
 rw [hre]
 have HRE := zz hre
 clear hl hr hre
 go_enter Tryz.func27, Tryz.ntmps27
 go_wp2
 go_loopw [5] (fun v W => ∃ j : Nat, v = .int .i64 (j : Int) ∧ j ≤ n ∧ Hid ((l.take j).contains x = false) ∧ W = w) (fun v _ => n - (intOf v).toNat)
 case atStart => exact ⟨0, rfl, Nat.zero_le _, rfl, rfl⟩
 case round =>
  obtain ⟨j, rfl, hj, HNo, rfl⟩ := hrel
  by_cases he : j = n
  · have hf : r = -1 := by
     have h := HNo.out
     rw [List.take_of_length_le (by rw [HL.out, he]; exact Nat.le_refl _)] at h
     rw [← HRE.out]
     unfold plc
     rw [if_neg]
     rw [place_lt]
     simpa using h
    have HF := zz hf
    clear hf
    subst he
    go_wp2
    go_ret
    exact ⟨by rw [HF.out]; rfl, rfl⟩
  · have hjn : j < n := by omega
    obtain ⟨y, hy⟩ : ∃ y, l[j]? = some y := ⟨l[j]'(by rw [HL.out]; exact hjn), List.getElem?_eq_getElem _⟩
    obtain ⟨b, o, rfl, hb, hc⟩ := HR.out.get hy
    have c1 := hc wr (Below.refl _ _)
    have HY := zz hy
    clear hc hy hb he
    by_cases hxy : y = x
    · subst hxy
      have hf : r = j := by
       have e : placeL y l = j := by
        unfold placeL
        rw [List.findIdx_eq (by rw [HL.out]; exact hjn)]
        refine ⟨by simp [(List.getElem?_eq_some_iff.1 HY.out).2], fun i hi => ?_⟩
        have h := HNo.out
        simp only [List.contains_eq_mem, decide_eq_false_iff_not] at h
        have hil : i < l.length := by rw [HL.out]; omega
        simp only [beq_eq_false_iff_ne, ne_eq]
        intro h2
        refine h ?_
        rw [← h2]
        exact List.mem_of_getElem? (i := i) (by rw [List.getElem?_take_of_lt hi]; exact List.getElem?_eq_getElem hil)
       rw [← HRE.out]
       unfold plc
       rw [e, if_pos (by rw [HL.out]; exact hjn)]
      have HF := zz hf
      clear hf
      go_wp2
      go_ret
      exact ⟨by rw [HF.out]; rfl, rfl⟩
    · have hxb : (y == x) = false := by simpa using hxy
      have HN2 := zz (take_contains HNo.out HY.out hxy)
      go_wp2
      exact ⟨⟨j + 1, by go_num, by omega, HN2, by simp⟩, by simp [intOf]; omega⟩
end

section
open Go.RowKit Go.Maps
structure Rp where
 err : Int
 fd : Int
 ino : Int
 s0 : Int
 s1 : Int
 s2 : Int
 s3 : Int
 lst : List E
 dt : ByteArray
deriving DecidableEq
def Rp.val (r : Rp) (A : Option Addr) (c : Nat) : Value := .agg #[.int .i64 r.err, .int .i64 r.fd, .int .u32 r.ino, .int .u32 r.s0, .int .u8 r.s1, .int .i64 r.s2, .int .u32 r.s3, .slice A r.lst.length c, .string r.dt]
def ERd (w : World) (A : Option Addr) (L : List E) : Prop := L ≠ [] → ∃ b o, A = some ⟨b, o, none⟩ ∧ b < w.heap.size ∧ ∀ (k : Nat) (x : E), L[k]? = some x → w.cell? ⟨b, o + k * 2, none⟩ = some (.string x.1) ∧ w.cell? ⟨b, o + k * 2 + 1, none⟩ = some (.int .u32 x.2)
theorem ERd.of {w : World} {A : Option Addr} {L : List E} (h : EntsAt w A L) : ERd w A L := fun hn => by
 obtain ⟨B, h1, h2, h3⟩ := h.at_ (List.length_pos_iff.2 hn)
 exact ⟨B, 0, h1, h2, fun k x hk => by rw [Nat.zero_add]; exact h3 k x hk⟩
theorem ERd.below {w w' : World} {A : Option Addr} {L : List E} (h : ERd w A L) (hb : Below w.heap.size w w') : ERd w' A L := fun hn => by
 obtain ⟨b, o, h1, h2, h3⟩ := h hn
 exact ⟨b, o, h1, Nat.lt_of_lt_of_le h2 hb.size, fun k x hk => ⟨(World.cell?_of_block (a := ⟨b, _, none⟩) (hb.block b h2)).trans (h3 k x hk).1, (World.cell?_of_block (a := ⟨b, _, none⟩) (hb.block b h2)).trans (h3 k x hk).2⟩⟩
theorem ERd.get {w : World} {A : Option Addr} {L : List E} (h : ERd w A L) {k : Nat} {x : E} (hk : L[k]? = some x) : ∃ b o, A = some ⟨b, o, none⟩ ∧ ∀ W, Below w.heap.size w W → W.cell? ⟨b, o + k * 2, none⟩ = some (.string x.1) ∧ W.cell? ⟨b, o + k * 2 + 1, none⟩ = some (.int .u32 x.2) := by
 obtain ⟨b, o, h1, h2, h3⟩ := h (fun e => by rw [e] at hk; simp at hk)
 exact ⟨b, o, h1, fun W hW => ⟨(World.cell?_of_block (a := ⟨b, _, none⟩) (hW.block b h2)).trans (h3 k x hk).1, (World.cell?_of_block (a := ⟨b, _, none⟩) (hW.block b h2)).trans (h3 k x hk).2⟩⟩
def RAt (w : World) (r : Rp) (v : Value) : Prop := ∃ A c, v = r.val A c ∧ ERd w A r.lst
set_option maxRecDepth 100000 in
set_option maxHeartbeats 2000000 in
theorem t_equalE (A1 A2 : Option Addr) (c1 c2 : Nat) (L1 L2 : List E) (w : World) (h1 : ERd w A1 L1) (h2 : ERd w A2 L2) (hn2 : L2.length ≤ maxLen) :
  Calls Tryz.prog 259 #[.slice A1 L1.length c1, .slice A2 L2.length c2] w fun e w' => e = .returned (.bool (decide (L1 = L2))) ∧ Below w.heap.size w w' := by
 obtain ⟨n, hL⟩ : ∃ n, L1.length = n := ⟨_, rfl⟩
 obtain ⟨m, hM⟩ : ∃ m, L2.length = m := ⟨_, rfl⟩
 obtain ⟨r, hr⟩ : ∃ r, decide (L1 = L2) = r := ⟨_, rfl⟩
 rw [hL]
 rw [hM] at hn2 ⊢
 rw [hr]
 have HL := zz hL
 have HM := zz hM
 have HR := zz hr
 have H1 := zz h1
 have H2 := zz h2
 unfold maxLen at hn2
 clear hL hM hr h1 h2
 by_cases hnm : n = m
 · subst hnm
   go_enter Tryz.func259, Tryz.ntmps259
   go_wp2
   go_loopw [13] (fun v W => ∃ k : Nat, v = .int .i64 (k : Int) ∧ k ≤ n ∧ Hid (L1.take k = L2.take k) ∧ Hid (Below w.heap.size w W)) (fun v _ => n - (intOf v).toNat)
   case atStart => exact ⟨0, rfl, Nat.zero_le _, rfl, Below.refl _ _⟩
   case round =>
    obtain ⟨k, rfl, hk, HT, HB⟩ := hrel
    by_cases he : k = n
    · have hf : r = true := by
       have h := HT.out
       rw [List.take_of_length_le (by rw [HL.out, he]; exact Nat.le_refl _), List.take_of_length_le (by rw [HM.out, he]; exact Nat.le_refl _)] at h
       rw [← HR.out]
       simp [h]
      have HF := zz hf
      clear hf
      go_wp2
      go_ret
      exact ⟨by rw [HF.out]; rfl, HB.out⟩
    · have hk2 : k < n := by omega
      obtain ⟨⟨s, i⟩, hx⟩ : ∃ x, L1[k]? = some x := ⟨L1[k]'(by rw [HL.out]; exact hk2), List.getElem?_eq_getElem _⟩
      obtain ⟨⟨t, j⟩, hy⟩ : ∃ x, L2[k]? = some x := ⟨L2[k]'(by rw [HM.out]; exact hk2), List.getElem?_eq_getElem _⟩
      obtain ⟨b1, o1, rfl, e1⟩ := H1.out.get hx
      obtain ⟨b2, o2, rfl, e2⟩ := H2.out.get hy
      obtain ⟨d1, d2⟩ := e1 _ HB.out
      obtain ⟨d3, d4⟩ := e2 _ HB.out
      have HX := zz hx
      have HY := zz hy
      clear e1 e2 hx hy he
      by_cases hst : s = t
      · subst hst
        by_cases hij : i = j
        · subst hij
          have HT2 := zz (show L1.take (k + 1) = L2.take (k + 1) from by rw [List.take_add_one, List.take_add_one, HT.out, HX.out, HY.out])
          go_wp2
          go_quiet (fail)
          have HB2 := zz (pbelow_drewN HB.out nq)
          generalize wr.drewN _ = w2 at *
          go_wp2
          exact ⟨⟨k + 1, by go_num, by omega, HT2, HB2⟩, by simp [intOf]; omega⟩
        · have hijb : (i == j) = false := by simpa using hij
          have HF := zz (show r = false from by
           rw [← HR.out]
           simp only [decide_eq_false_iff_not]
           intro e
           have h1 := HX.out
           rw [e, HY.out] at h1
           injection h1 with h1
           injection h1 with _ h1
           exact hij h1.symm)
          go_wp2
          go_quiet (fail)
          have HB2 := zz (pbelow_drewN HB.out nq)
          generalize wr.drewN _ = w2 at *
          go_wp2
          go_ret
          exact ⟨by rw [HF.out]; rfl, HB2.out⟩
      · have hstb : (s.toList == t.toList) = false := by
         simp only [Lib.toList_data, beq_eq_false_iff_ne, ne_eq]
         intro e
         exact hst (by cases s; cases t; simp at e; simp [e])
        have HF := zz (show r = false from by
         rw [← HR.out]
         simp only [decide_eq_false_iff_not]
         intro e
         have h1 := HX.out
         rw [e, HY.out] at h1
         injection h1 with h1
         injection h1 with h1 _
         exact hst h1.symm)
        go_wp2
        go_quiet (fail)
        have HB2 := zz (pbelow_drewN HB.out nq)
        generalize wr.drewN _ = w2 at *
        go_wp2
        go_ret
        exact ⟨by rw [HF.out]; rfl, HB2.out⟩
 · have hne : (n : Int) ≠ m := by omega
   have hneb : ((n : Int) != m) = true := by simpa using hne
   have HF : Hid (r = false) := by
    rw [← HR.out]
    simp only [decide_eq_false_iff_not]
    exact fun e => hnm (by rw [← HL.out, ← HM.out, e])
   go_enter Tryz.func259, Tryz.ntmps259
   go_wp2
   go_ret
   exact ⟨by rw [HF.out]; rfl, Below.refl _ _⟩
theorem toList_iff (s t : ByteArray) : s.toList = t.toList ↔ s = t := by
 constructor
 · intro e
   rw [Lib.toList_data, Lib.toList_data] at e
   cases s
   cases t
   simp at e
   simp [e]
 · intro e
   rw [e]
set_option maxRecDepth 100000 in
set_option maxHeartbeats 2000000 in
theorem t_alike31 (a b : Rp) (va vb : Value) (w : World) (ha : RAt w a va) (hb : RAt w b vb) (hn2 : b.lst.length ≤ maxLen) :
  Calls Tryz.prog 219 #[va, vb] w fun e w' => e = .returned (.bool (decide (a = b))) ∧ Below w.heap.size w w' := by
 obtain ⟨A, c, rfl, hE1⟩ := ha
 obtain ⟨B, d, rfl, hE2⟩ := hb
 have HEQ := zz (show ∀ W, Below w.heap.size w W → Calls Tryz.prog 259 #[.slice A a.lst.length c, .slice B b.lst.length d] W fun e w' => e = .returned (.bool (decide (a.lst = b.lst))) ∧ Below W.heap.size W w' from fun W hW => t_equalE A B c d a.lst b.lst W (hE1.below hW) (hE2.below hW) hn2)
 clear hE1 hE2 hn2
 obtain ⟨r, hr⟩ : ∃ r, decide (a = b) = r := ⟨_, rfl⟩
 rw [hr]
 have HR := zz hr
 clear hr
 obtain ⟨e1, f1, i1, a0, a1, a2, a3, l1, d1⟩ := a
 obtain ⟨e2, f2, i2, b0, b1, b2, b3, l2, d2⟩ := b
 dsimp only [Rp.val] at HEQ ⊢
 go_enter Tryz.func219, Tryz.ntmps219
 go_wp2_with (go_at_call 259; (with_reducible refine (HEQ.out _ (((Below.refl _ _).alloc (Nat.le_refl _) _).alloc (by simp) _)).mono ?_); rintro e w5 ⟨rfl, hb5⟩; have HB5 := zz (ptrans (((Below.refl _ _).alloc (Nat.le_refl _) _).alloc (by simp) _) hb5 : Below w.heap.size w w5))
 all_goals go_ret
 all_goals refine ⟨?_, by first | exact HB5.out | exact (((Below.refl _ _).alloc (Nat.le_refl _) _).alloc (by simp) _)⟩
 all_goals rw [← HR.out]
 all_goals try simp only [toList_iff] at *
 all_goals simp [*]
end

section
open Go.RowKit Go.Maps
theorem do_stat4 (m : MD) (core : Int) (x : Cx) : ∃ a b d e : Int, statCells (doM m core x).1.stat = [.int .u32 a, .int .u8 b, .int .i64 d, .int .u32 e] := by
 unfold doM
 split
 · exact ⟨0, 0, 0, 0, rfl⟩
 split
 · exact ⟨0, 0, 0, 0, rfl⟩
 exact deed_stat4 _ _
end

section
open Go.RowKit Go.Maps
def Ev.rp (e : Ev) : Rp := ⟨e.err, e.fd, e.ino, e.s0, e.s1, e.s2, e.s3, e.lst, e.dt⟩
def EvsL (w : World) (l : List Ev) : Prop := ∀ e ∈ l, e.lst.length = e.ln ∧ ERd w e.la e.lst
theorem EvsL.below {w w' : World} {l : List Ev} (h : EvsL w l) (hb : Below w.heap.size w w') : EvsL w' l := fun e he => ⟨(h e he).1, (h e he).2.below hb⟩
structure Go31 where
 x : Cx
 com : Bool
 r : Rp
def zRp : Rp := ⟨0, 0, 0, 0, 0, 0, 0, [], ⟨#[]⟩⟩
def logRp : Rp := ⟨270, 0, 0, 0, 0, 0, 0, [], ⟨#[]⟩⟩
structure R31 where
 m : MD
 c : Int → Option Go31
def R31.put (s : R31) (k : Int) (g : Option Go31) : R31 := ⟨s.m, fun x => if x = k then g else s.c x⟩
def changesB (a : Int) : Bool := a == 2 || a == 4 || a == 5 || a == 6 || a == 7 || a == 8 || a == 9 || a == 10
def endOf (l : List Ev) (i : Nat) (core : Int) : Option Ev := (l.drop i).find? fun y => y.core == core && y.kind == 3
def refusedB (l : List Ev) (i : Nat) (core act : Int) : Bool := match endOf l i core with
 | some y => decide (y.rp = logRp) && (changesB act || act == 13)
 | none => false
noncomputable def rpOf (t : PT) (r : Rs) : Rp := match statCells r.stat with
 | [.int _ a, .int _ b, .int _ c, .int _ d] => ⟨r.err, r.fd, r.ino, a, b, c, d, (match r.ls with | none => [] | some k => entsOf t k), r.data⟩
 | _ => zRp
noncomputable def begin31 (s : R31) (e : Ev) : Int × R31 := if (s.c e.core).isSome = true ∨ checkC e.x ≠ 0 then (310, s) else (0, s.put e.core (some ⟨e.x, false, zRp⟩))
noncomputable def commit31 (l : List Ev) (i : Nat) (s : R31) (e : Ev) : Int × R31 := match s.c e.core with
 | none => (310, s)
 | some g => if g.com = true then (310, s) else if refusedB l i e.core g.x.act = true then (0, s.put e.core (some ⟨g.x, true, logRp⟩)) else (0, (R31.mk (doM s.m e.core g.x).2 s.c).put e.core (some ⟨g.x, true, rpOf s.m.t (doM s.m e.core g.x).1⟩))
def askedR (g : Go31) (e : Ev) : Rp := if (g.x.act = 14 ∨ g.x.act = 15) ∧ g.r.err = 0 then { e.rp with err := 0 } else e.rp
noncomputable def end31 (s : R31) (e : Ev) : Int × R31 := match s.c e.core with
 | none => (310, s)
 | some g => if g.com = false then (310, s) else if g.r = askedR g e then (0, s.put e.core none) else (311, s)
noncomputable def step31 (q : Nat) (l : List Ev) (i : Nat) (s : R31) (e : Ev) : Int × R31 := if ¬ (0 ≤ e.core ∧ e.core < q) then (310, s) else if e.kind = 1 then begin31 s e else if e.kind = 2 then commit31 l i s e else if e.kind = 3 then end31 s e else (310, s)
end
end Go.Proofs.YtpcnolkdnmolgaaGreatDoor
