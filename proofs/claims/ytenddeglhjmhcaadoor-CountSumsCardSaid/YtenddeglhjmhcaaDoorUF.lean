/- count.Sum. -/
import Derived.Test.YtenddeglhjmhcaaDoorUH
namespace Go.Proofs.YtenddeglhjmhcaaDoor
open Go.RowKit

/-- A row of tallies. -/
def TalsAt (w : World) (A : Option Addr) (l : List (List Int)) : Prop := l ≠ [] → ∃ b o, A = some ⟨b, o, none⟩ ∧ b < w.heap.size ∧ ∀ (k : Nat) (t : List Int), l[k]? = some t → w.rangeAt b (o + k * 22) (t.map intV)
theorem TalsAt.below {w w' : World} {A : Option Addr} {l : List (List Int)} (h : TalsAt w A l) (hb : Below w.heap.size w w') : TalsAt w' A l := fun hn => by
  obtain ⟨b, o, h1, h2, h3⟩ := h hn
  exact ⟨b, o, h1, Nat.lt_of_lt_of_le h2 hb.size, fun k t hk j v hv => (World.cell?_of_block (a := ⟨b, _, none⟩) (hb.block b h2)).trans (h3 k t hk j v hv)⟩
theorem TalsAt.get {w : World} {A : Option Addr} {l : List (List Int)} (h : TalsAt w A l) {k : Nat} {t : List Int} (hk : l[k]? = some t) : ∃ b o, A = some ⟨b, o, none⟩ ∧ b < w.heap.size ∧ ∀ W, Below w.heap.size w W → W.rangeAt b (o + k * 22) (t.map intV) := by
  obtain ⟨b, o, h1, h2, h3⟩ := h (fun e => by rw [e] at hk; simp at hk)
  refine ⟨b, o, h1, h2, fun W hW j v hv => ?_⟩
  rw [World.cell?_of_block (a := ⟨b, _, none⟩) (hW.block b h2)]
  exact h3 k t hk j v hv
/-- The sum so far, an empty tally behind it. -/
def SumS (w W : World) (s : List Int) : Prop := TalB W w.heap.size s ∧ TalB W (w.heap.size + 1) zT ∧ Below w.heap.size w W
theorem sum_start (w : World) : SumS w ((w.alloc (.cells (zT.map intV).toArray 26)).alloc (.cells (zT.map intV).toArray 26)) zT := by
  refine ⟨?_, ?_, ((Below.refl _ _).alloc (Nat.le_refl _) _).alloc (by simp) _⟩
  · unfold TalB
    rw [Below.heap_alloc _ _ _ (by simp)]
    exact heap_alloc_new _ _
  · have := heap_alloc_new (w.alloc (.cells (zT.map intV).toArray 26)) (.cells (zT.map intV).toArray 26)
    simpa [TalB] using this
theorem below_store {W W' : World} {o : Obj} (h : (W.alloc o).grownBy W' (some W.heap.size)) : Below W.heap.size W W' := by
  have h0 : Below W.heap.size W (W.alloc o) := (Below.refl _ _).alloc (Nat.le_refl _) _
  exact ⟨h.os.trans h0.os, h.tape.trans h0.tape, h.output.trans h0.output, Nat.le_trans h0.size h.size, fun k hk => (h.block k (Nat.lt_of_lt_of_le hk h0.size) fun e => by injection e with e; omega).trans (h0.block k hk)⟩
theorem SumS.below {w W W' : World} {s : List Int} (h : SumS w W s) (hb : Below W.heap.size W W') : SumS w W' s := ⟨h.1.below hb, h.2.1.below hb, ptrans h.2.2 hb⟩
theorem sum_alloc {w W W' : World} {s : List Int} {o : Obj} (h : SumS w W s) (hg : (W.alloc o).grownBy W' (some W.heap.size)) : SumS w W' s := h.below (below_store hg)
set_option maxRecDepth 100000 in
set_option maxHeartbeats 8000000 in
theorem t_sum (A : Option Addr) (n c : Nat) (l : List (List Int)) (w : World) (hl : TalsAt w A l) (hn : l.length = n) (hn2 : n ≤ 1000) (hf : ∀ t ∈ l, Tal t) :
    Calls Tryd.prog 5 #[.slice A n c] w fun e w' => e = .returned (talV (sumT l)) ∧ Below w.heap.size w w' := by
  have HL := Lib.hid hl
  have HN := Lib.hid hn
  have HF := Lib.hid hf
  clear hl hn hf
  go_enter Tryd.func5, Tryd.ntmps5
  go_wp2
  have hs0 : SumS w (((w.alloc (.cells (zT.map intV).toArray 26)).alloc (.cells (zT.map intV).toArray 26))) (sumT (l.take 0)) := sum_start w
  rw [zT_arr] at hs0
  have HS0 := Lib.hid hs0
  clear hs0
  go_loopw [13] (fun v W => ∃ i : Nat, v = .int .i64 (i : Int) ∧ i ≤ n ∧ Hid (SumS w W (sumT (l.take i)))) (fun v _ => n - (intOf v).toNat)
  case atStart => exact ⟨0, rfl, Nat.zero_le _, HS0⟩
  case round =>
    clear HS0
    obtain ⟨i, rfl, hi, HS⟩ := hrel
    by_cases he : i = n
    · subst he
      have HE : Hid (SumS w wr (sumT l)) := by
        have h := HS.out
        rw [List.take_of_length_le (by rw [HN.out]; exact Nat.le_refl _)] at h
        exact h
      clear HS
      have HLS := Lib.hid (sumT_tal l HF.out).1
      go_wp2_with (first
        | (refine wpList_load_tal rfl _ rfl w.heap.size (sumT l) HLS.out rfl HE.out.1 ?_)
        | (refine wpList_store_tal rfl _ _ rfl w.heap.size (sumT l) (sumT l) HLS.out HLS.out rfl rfl HE.out.1 ?_; intro w4 h4 hg4))
      exact ⟨rfl, _, results_tal (a := 2) rfl rfl h4 HLS.out, rfl, below_grown HE.out.2.2 hg4 (Nat.le_refl _)⟩
    · have hin : i < n := by omega
      obtain ⟨x, hx⟩ : ∃ x, l[i]? = some x := ⟨_, List.getElem?_eq_getElem (by rw [HN.out]; exact hin)⟩
      obtain ⟨b, o, rfl, hb, hr⟩ := HL.out.get hx
      have hxt := HF.out x (List.mem_of_getElem? hx)
      have HRX := Lib.hid (hr wr HS.out.2.2)
      have HXT := Lib.hid hxt
      have hsn : sumT (l.take (i + 1)) = addT (sumT (l.take i)) x := by rw [List.take_add_one, hx, Option.toList_some, sum_snoc]
      have HSN := Lib.hid hsn
      have hst : Tal (sumT (l.take i)) := sumT_tal _ fun t ht => HF.out t (List.mem_of_mem_take ht)
      have HST0 := Lib.hid hst
      obtain ⟨s, hs⟩ : ∃ s, sumT (l.take i) = s := ⟨_, rfl⟩
      rw [hs] at HS HSN HST0
      have HYZ : Hid (TalB (wr.alloc (.cells #[.int .i64 0, .int .i64 0, .int .i64 0, .int .i64 0, .int .i64 0, .int .i64 0, .int .i64 0, .int .i64 0, .int .i64 0, .int .i64 0, .int .i64 0, .int .i64 0, .int .i64 0, .int .i64 0, .int .i64 0, .int .i64 0, .int .i64 0, .int .i64 0, .int .i64 0, .int .i64 0, .int .i64 0, .int .i64 0] 26)) wr.heap.size zT) := by rw [TalB, zT_arr]; exact heap_alloc_new _ _
      clear hx hb hr hxt hsn hst hs
      go_wp2_with (first
        | (refine wpList_load_mid rfl 26 _ rfl b (o + i * 22) rfl (x.map intV) _ HRX.out Tryd.underlying26 rfl (by rw [List.length_map, HXT.out.1]; exact infoT) ?_)
        | (refine wpList_store_tal rfl _ _ rfl wr.heap.size zT x rfl HXT.out.1 rfl rfl HYZ.out ?_; intro w4 h4 hg4
           have HS4 : Hid (SumS w w4 s) := sum_alloc HS.out hg4
           have HY4 : Hid (TalB w4 wr.heap.size x ∧ Below wr.heap.size wr w4) := ⟨h4, below_store hg4⟩
           have e4 := eq_in4 w4 x zT HXT.out.1 rfl
           obtain ⟨r, e5, hr⟩ := eql_tal w4 x zT HXT.out.1 rfl
           have HR5 := Lib.hid hr
           have HE5 := Lib.hid e5
           generalize (x.take 4 == zT.take 4) = r0 at e4
           clear h4 hg4 hr e5
           rcases r0 with _ | _
           rotate_left
           rcases r with _ | _)
        | (refine wpList_eql_talG rfl _ _ _ rfl x zT rfl rfl _ HE5.out ?_)
        | (refine wpList_load_4 rfl _ rfl wr.heap.size x HXT.out.1 rfl HY4.out.1 ?_)
        | (refine wpList_load_4 rfl _ rfl (w.heap.size + 1) zT rfl rfl HS4.out.2.1 ?_)
        | (refine wpList_load_talG rfl _ rfl wr.heap.size x HXT.out.1 rfl HY4.out.1 ?_)
        | (refine wpList_load_talG rfl _ rfl (w.heap.size + 1) zT rfl rfl HS4.out.2.1 ?_))
      · have hY2 : w.heap.size + 2 ≤ wr.heap.size := by have := (Array.getElem?_eq_some_iff.1 HS.out.2.1).1; omega
        obtain ⟨Y1, hY1⟩ : ∃ Y1, wr.heap.size = Y1 := ⟨_, rfl⟩
        rw [hY1] at HY4 hY2 ⊢
        clear hY1 HE5
        go_wp2_with (first
          | (go_at_call 15; (with_reducible refine (t_parts Y1 _).mono ?_); rintro e w5 ⟨vy, rfl, ⟨gy, rfl, hp⟩, hb⟩
             have HP := Lib.hid hp
             have HS5 := Lib.hid (HS4.out.below hb)
             have HY5 := Lib.hid (HY4.out.1.below hb)
             clear hp hb)
          | (go_at_call 15; (with_reducible refine (t_parts w.heap.size _).mono ?_); rintro e w6 ⟨vt, rfl, ⟨gt, rfl, hp⟩, hb⟩
             have HPT := Lib.hid hp
             have HPY := Lib.hid (HP.out.below hb)
             have HS6 := Lib.hid (HS5.out.below hb)
             have HY6 := Lib.hid (HY5.out.below hb)
             clear hp hb))
        have HT0 : Hid (StT (fun a b => wrap64 (a + b)) s x w.heap.size w6 w6 (pOff 0)) := ⟨by rw [show pOff 0 = 0 from rfl, mix_zero]; exact HS6.out.1, pgrown_refl _ _⟩
        go_loopw [30] (fun v W => ∃ p : Nat, v = .int .i64 (p : Int) ∧ p ≤ 4 ∧ Hid (StT (fun a b => wrap64 (a + b)) s x w.heap.size w6 W (pOff p))) (fun v _ => 4 - (intOf v).toNat)
        case atStart => exact ⟨0, rfl, Nat.zero_le _, HT0⟩
        case round =>
          clear HT0
          obtain ⟨p, rfl, hp, HT⟩ := hrel
          by_cases he4 : p = 4
          · subst he4
            have HF4 : Hid (SumS w wr (sumT (l.take (i + 1)))) := by
              have h := HT.out.1
              rw [show pOff 4 = 22 from rfl, mix_all HST0.out.1 HXT.out.1] at h
              rw [HSN.out]
              exact ⟨h, (HT.out.2.block _ (Array.getElem?_eq_some_iff.1 HS6.out.2.1).1 (by intro e; injection e with e; omega)).trans HS6.out.2.1, below_grown HS6.out.2.2 HT.out.2 (Nat.le_refl _)⟩
            clear HT
            go_wp2
            exact ⟨⟨i + 1, by go_num, by omega, HF4⟩, by simp [intOf]; omega⟩
          · have hp4 : p < 4 := by omega
            obtain ⟨gt2, pt2, ct, hrt⟩ := HPT.out.row HS6.out.1 hp4
            obtain ⟨gy2, py2, cy, hry⟩ := HPY.out.row HS6.out.1 hp4
            have c1 := (hrt wr HT.out.2).1
            have c2 := (hry wr HT.out.2).1
            have HPT2 := Lib.hid hrt
            have HPY2 := Lib.hid hry
            have hm16 := pLen_le (n := p)
            have HLT := Lib.hid (fun k (hk : k < pLen p) => pOff_lt hp4 hk)
            have HNX := Lib.hid (pOff_next hp4)
            obtain ⟨m, hm⟩ : ∃ m, pLen p = m := ⟨_, rfl⟩
            obtain ⟨q, hq⟩ : ∃ q, pOff p = q := ⟨_, rfl⟩
            rw [hm] at HPT2 HPY2 hm16 HLT HNX c1 c2
            rw [hq] at HPT2 HPY2 HLT HNX HT
            clear hrt hry hm hq
            have HM := Lib.hid hm16
            go_wp2
            have HT0 : Hid (StT (fun a b => wrap64 (a + b)) s x w.heap.size w6 wr (q + 0)) := HT.out
            go_loopw [40] (fun v W => ∃ k : Nat, v = .int .i64 (k : Int) ∧ k ≤ m ∧ Hid (StT (fun a b => wrap64 (a + b)) s x w.heap.size w6 W (q + k))) (fun v _ => m - (intOf v).toNat)
            case atStart => exact ⟨0, rfl, Nat.zero_le _, HT0⟩
            case round =>
              clear HT0 HT c1 c2
              obtain ⟨k, rfl, hk, HT⟩ := hrel
              by_cases hkm : k = m
              · subst hkm
                have HT2 : Hid (StT (fun a b => wrap64 (a + b)) s x w.heap.size w6 wr (pOff (p + 1))) := by rw [← HNX.out]; exact HT.out
                clear HT
                go_wp2
                exact ⟨⟨p + 1, by go_num, by omega, HT2⟩, by simp [intOf]; omega⟩
              · have hk2 : k < m := by omega
                have hj := HLT.out k hk2
                obtain ⟨j, hjq⟩ : ∃ j, q + k = j := ⟨_, rfl⟩
                have p1 := (HPT2.out wr HT.out.2).2 k hk2
                have p2 := (HPY2.out wr HT.out.2).2 k hk2
                rw [hjq] at p1 p2 HT hj
                obtain ⟨a, ha⟩ : ∃ a, s[j]? = some a := ⟨_, List.getElem?_eq_getElem (by rw [HST0.out.1]; exact hj)⟩
                obtain ⟨b2, hb⟩ : ∃ b2, x[j]? = some b2 := ⟨_, List.getElem?_eq_getElem (by rw [HXT.out.1]; exact hj)⟩
                have hty : TalB wr Y1 x := (HT.out.2.block _ (Array.getElem?_eq_some_iff.1 HY6.out).1 (by intro e; injection e with e; omega)).trans HY6.out
                have c3 := HT.out.1.cell (mix_get HST0.out.1 HXT.out.1 ha)
                have c4 := hty.cell hb
                have HC := Lib.hid (And.intro p1 (And.intro c3 c4))
                have HST : Hid (∀ W, Below wr.heap.size wr W → StT (fun a b => wrap64 (a + b)) s x w.heap.size w6 (W.setCell ⟨w.heap.size, j, none⟩ (.int .i64 (IntKind.i64.wrap (a + b2)))) (j + 1)) := fun W h => by rw [wrap_k]; exact (HT.out.below h).set HST0.out.1 HXT.out.1 ha hb
                have HFZ := Lib.hid (fun (W : World) (h : Below wr.heap.size wr W) => (HT.out.1.below h).froz j)
                have HJQ := Lib.hid hjq
                clear HT hty ha hb p1 c3 c4 hj hjq
                go_wp2
                refine wp_region_last 11 RelB (phi [isV (.slice (some ⟨gt2, pt2, none⟩) m ct), isV (.int .i64 (k : Int)), isV (.pointer (some ⟨gt2, pt2 + k, none⟩)), isV (.pointer (some ⟨w.heap.size, j, none⟩)), isV (.pointer (some ⟨w.heap.size, j, none⟩)), isV (.int .i64 a), isV (.pointer (some ⟨Y1, j, none⟩)), isV (.pointer (some ⟨Y1, j, none⟩)), isV (.int .i64 b2), isV (.int .i64 (IntKind.i64.wrap (a + b2))), isV (.pointer (some ⟨w.heap.size, j, none⟩))]) (fun W => StT (fun a b => wrap64 (a + b)) s x w.heap.size w6 W (j + 1)) (by kernel_rfl) (by kernel_rfl) (by kernel_rfl) (RelB.of (below_drew _)) (fun _ _ _ a b => a.trans b) ?_ ?_ ?_ ?_
                · refine stays_phiR ?_
                  simp only [List.forall_mem_cons]
                  exact ⟨fun _ _ _ h _ => h, fun _ _ _ h _ => h, fun _ _ _ h _ => h, fun _ _ _ h _ => h, fun _ _ _ h _ => h, fun _ _ _ h _ => h, fun _ _ _ h _ => h, fun _ _ _ h _ => h, fun _ _ _ h _ => h, fun _ _ _ h _ => h, fun _ _ _ h _ => h, fun _ h => absurd h (by simp)⟩
                · refine ⟨?_, ?_, ?_, ?_, ?_, ?_, ?_, ?_, ?_, ?_, ?_, trivial⟩
                  · refine opR_mk rfl fun aa W2 hB hp hq K hK => ?_
                    have e8 : aa.tmps[8]?.getD undef = .slice (some ⟨gt2, pt2, none⟩) m ct := hp 8 (by kernel_rfl)
                    clear hp hq
                    go_simp
                    exact hK _ _ (RelB.refl _) rfl
                  · refine opR_mk rfl fun aa W2 hB hp hq K hK => ?_
                    have e9 : aa.tmps[9]?.getD undef = .int .i64 (k : Int) := hp 9 (by kernel_rfl)
                    clear hp hq
                    go_simp
                    exact hK _ _ (RelB.refl _) rfl
                  · refine opR_mk rfl fun aa W2 hB hp hq K hK => ?_
                    have e45 : aa.tmps[45]?.getD undef = .slice (some ⟨gt2, pt2, none⟩) m ct := hq 0 _ (by kernel_rfl) rfl
                    have e46 : aa.tmps[46]?.getD undef = .int .i64 (k : Int) := hq 1 _ (by kernel_rfl) rfl
                    clear hp hq
                    go_simp
                    exact hK _ _ (RelB.refl _) rfl
                  · refine opR_mk rfl fun aa W2 hB hp hq K hK => ?_
                    have e47 : aa.tmps[47]?.getD undef = .pointer (some ⟨gt2, pt2 + k, none⟩) := hq 2 _ (by kernel_rfl) rfl
                    have c1 := cell_bel HC.out.1 hB
                    clear hp hq
                    go_simp
                    exact hK _ _ (RelB.refl _) rfl
                  · refine opR_mk rfl fun aa W2 hB hp hq K hK => ?_
                    have e48 : aa.tmps[48]?.getD undef = .pointer (some ⟨w.heap.size, j, none⟩) := hq 3 _ (by kernel_rfl) rfl
                    clear hp hq
                    go_simp
                    exact hK _ _ (RelB.refl _) rfl
                  · refine opR_mk rfl fun aa W2 hB hp hq K hK => ?_
                    have e49 : aa.tmps[49]?.getD undef = .pointer (some ⟨w.heap.size, j, none⟩) := hq 4 _ (by kernel_rfl) rfl
                    have c1 := cell_bel HC.out.2.1 hB
                    clear hp hq
                    go_simp
                    exact hK _ _ (RelB.refl _) rfl
                  · refine opR_mk rfl fun aa W2 hB hp hq K hK => ?_
                    have e10 : aa.tmps[10]?.getD undef = .pointer (some ⟨Y1, j, none⟩) := hp 10 (by kernel_rfl)
                    clear hp hq
                    go_simp
                    exact hK _ _ (RelB.refl _) rfl
                  · refine opR_mk rfl fun aa W2 hB hp hq K hK => ?_
                    have e51 : aa.tmps[51]?.getD undef = .pointer (some ⟨Y1, j, none⟩) := hq 6 _ (by kernel_rfl) rfl
                    clear hp hq
                    go_simp
                    exact hK _ _ (RelB.refl _) rfl
                  · refine opR_mk rfl fun aa W2 hB hp hq K hK => ?_
                    have e52 : aa.tmps[52]?.getD undef = .pointer (some ⟨Y1, j, none⟩) := hq 7 _ (by kernel_rfl) rfl
                    have c1 := cell_bel HC.out.2.2 hB
                    clear hp hq
                    go_simp
                    exact hK _ _ (RelB.refl _) rfl
                  · refine opR_mk rfl fun aa W2 hB hp hq K hK => ?_
                    have e50 : aa.tmps[50]?.getD undef = .int .i64 a := hq 5 _ (by kernel_rfl) rfl
                    have e53 : aa.tmps[53]?.getD undef = .int .i64 b2 := hq 8 _ (by kernel_rfl) rfl
                    clear hp hq
                    go_simp
                    exact hK _ _ (RelB.refl _) rfl
                  · refine opR_mk rfl fun aa W2 hB hp hq K hK => ?_
                    have e48 : aa.tmps[48]?.getD undef = .pointer (some ⟨w.heap.size, j, none⟩) := hq 3 _ (by kernel_rfl) rfl
                    clear hp hq
                    go_simp
                    exact hK _ _ (RelB.refl _) rfl
                · intro oN hoN aa W2 hB hp hq K hK
                  obtain rfl := Option.some.inj hoN
                  have e55 : aa.tmps[55]?.getD undef = .pointer (some ⟨w.heap.size, j, none⟩) := hq 10 _ (by decide) rfl
                  have e54 : aa.tmps[54]?.getD undef = .int .i64 (IntKind.i64.wrap (a + b2)) := hq 9 _ (by decide) rfl
                  have c1 := cell_bel HC.out.2.1 hB
                  have f1 := HFZ.out W2 hB
                  have HS3 := Lib.hid (HST.out W2 hB)
                  clear hp hq
                  go_simp
                  exact hK _ HS3.out
                · intro vs W3 hF hv
                  have HF3 := Lib.hid hF
                  clear hF hv
                  simp only [putAll, Act.put, List.setIfInBounds_toArray, List.set_cons_succ, List.set_cons_zero, Nat.zero_add, Nat.reduceAdd]
                  go_wp2
                  exact ⟨⟨k + 1, by go_num, by omega, by rw [← Nat.add_assoc, HJQ.out]; exact HF3⟩, by simp [intOf]; omega⟩
      · have hz := HR5.out.1 rfl
        have HS6 : Hid (SumS w w4 (sumT (l.take (i + 1)))) := by rw [HSN.out, hz, add_zT HST0.out]; exact HS4.out
        exact ⟨⟨i + 1, by go_num, by omega, HS6⟩, by simp [intOf]; omega⟩
      · have hY2 : w.heap.size + 2 ≤ wr.heap.size := by have := (Array.getElem?_eq_some_iff.1 HS.out.2.1).1; omega
        obtain ⟨Y1, hY1⟩ : ∃ Y1, wr.heap.size = Y1 := ⟨_, rfl⟩
        rw [hY1] at HY4 hY2 ⊢
        clear hY1 HE5
        go_wp2_with (first
          | (go_at_call 15; (with_reducible refine (t_parts Y1 _).mono ?_); rintro e w5 ⟨vy, rfl, ⟨gy, rfl, hp⟩, hb⟩
             have HP := Lib.hid hp
             have HS5 := Lib.hid (HS4.out.below hb)
             have HY5 := Lib.hid (HY4.out.1.below hb)
             clear hp hb)
          | (go_at_call 15; (with_reducible refine (t_parts w.heap.size _).mono ?_); rintro e w6 ⟨vt, rfl, ⟨gt, rfl, hp⟩, hb⟩
             have HPT := Lib.hid hp
             have HPY := Lib.hid (HP.out.below hb)
             have HS6 := Lib.hid (HS5.out.below hb)
             have HY6 := Lib.hid (HY5.out.below hb)
             clear hp hb))
        have HT0 : Hid (StT (fun a b => wrap64 (a + b)) s x w.heap.size w6 w6 (pOff 0)) := ⟨by rw [show pOff 0 = 0 from rfl, mix_zero]; exact HS6.out.1, pgrown_refl _ _⟩
        go_loopw [30] (fun v W => ∃ p : Nat, v = .int .i64 (p : Int) ∧ p ≤ 4 ∧ Hid (StT (fun a b => wrap64 (a + b)) s x w.heap.size w6 W (pOff p))) (fun v _ => 4 - (intOf v).toNat)
        case atStart => exact ⟨0, rfl, Nat.zero_le _, HT0⟩
        case round =>
          clear HT0
          obtain ⟨p, rfl, hp, HT⟩ := hrel
          by_cases he4 : p = 4
          · subst he4
            have HF4 : Hid (SumS w wr (sumT (l.take (i + 1)))) := by
              have h := HT.out.1
              rw [show pOff 4 = 22 from rfl, mix_all HST0.out.1 HXT.out.1] at h
              rw [HSN.out]
              exact ⟨h, (HT.out.2.block _ (Array.getElem?_eq_some_iff.1 HS6.out.2.1).1 (by intro e; injection e with e; omega)).trans HS6.out.2.1, below_grown HS6.out.2.2 HT.out.2 (Nat.le_refl _)⟩
            clear HT
            go_wp2
            exact ⟨⟨i + 1, by go_num, by omega, HF4⟩, by simp [intOf]; omega⟩
          · have hp4 : p < 4 := by omega
            obtain ⟨gt2, pt2, ct, hrt⟩ := HPT.out.row HS6.out.1 hp4
            obtain ⟨gy2, py2, cy, hry⟩ := HPY.out.row HS6.out.1 hp4
            have c1 := (hrt wr HT.out.2).1
            have c2 := (hry wr HT.out.2).1
            have HPT2 := Lib.hid hrt
            have HPY2 := Lib.hid hry
            have hm16 := pLen_le (n := p)
            have HLT := Lib.hid (fun k (hk : k < pLen p) => pOff_lt hp4 hk)
            have HNX := Lib.hid (pOff_next hp4)
            obtain ⟨m, hm⟩ : ∃ m, pLen p = m := ⟨_, rfl⟩
            obtain ⟨q, hq⟩ : ∃ q, pOff p = q := ⟨_, rfl⟩
            rw [hm] at HPT2 HPY2 hm16 HLT HNX c1 c2
            rw [hq] at HPT2 HPY2 HLT HNX HT
            clear hrt hry hm hq
            have HM := Lib.hid hm16
            go_wp2
            have HT0 : Hid (StT (fun a b => wrap64 (a + b)) s x w.heap.size w6 wr (q + 0)) := HT.out
            go_loopw [40] (fun v W => ∃ k : Nat, v = .int .i64 (k : Int) ∧ k ≤ m ∧ Hid (StT (fun a b => wrap64 (a + b)) s x w.heap.size w6 W (q + k))) (fun v _ => m - (intOf v).toNat)
            case atStart => exact ⟨0, rfl, Nat.zero_le _, HT0⟩
            case round =>
              clear HT0 HT c1 c2
              obtain ⟨k, rfl, hk, HT⟩ := hrel
              by_cases hkm : k = m
              · subst hkm
                have HT2 : Hid (StT (fun a b => wrap64 (a + b)) s x w.heap.size w6 wr (pOff (p + 1))) := by rw [← HNX.out]; exact HT.out
                clear HT
                go_wp2
                exact ⟨⟨p + 1, by go_num, by omega, HT2⟩, by simp [intOf]; omega⟩
              · have hk2 : k < m := by omega
                have hj := HLT.out k hk2
                obtain ⟨j, hjq⟩ : ∃ j, q + k = j := ⟨_, rfl⟩
                have p1 := (HPT2.out wr HT.out.2).2 k hk2
                have p2 := (HPY2.out wr HT.out.2).2 k hk2
                rw [hjq] at p1 p2 HT hj
                obtain ⟨a, ha⟩ : ∃ a, s[j]? = some a := ⟨_, List.getElem?_eq_getElem (by rw [HST0.out.1]; exact hj)⟩
                obtain ⟨b2, hb⟩ : ∃ b2, x[j]? = some b2 := ⟨_, List.getElem?_eq_getElem (by rw [HXT.out.1]; exact hj)⟩
                have hty : TalB wr Y1 x := (HT.out.2.block _ (Array.getElem?_eq_some_iff.1 HY6.out).1 (by intro e; injection e with e; omega)).trans HY6.out
                have c3 := HT.out.1.cell (mix_get HST0.out.1 HXT.out.1 ha)
                have c4 := hty.cell hb
                have HC := Lib.hid (And.intro p1 (And.intro c3 c4))
                have HST : Hid (∀ W, Below wr.heap.size wr W → StT (fun a b => wrap64 (a + b)) s x w.heap.size w6 (W.setCell ⟨w.heap.size, j, none⟩ (.int .i64 (IntKind.i64.wrap (a + b2)))) (j + 1)) := fun W h => by rw [wrap_k]; exact (HT.out.below h).set HST0.out.1 HXT.out.1 ha hb
                have HFZ := Lib.hid (fun (W : World) (h : Below wr.heap.size wr W) => (HT.out.1.below h).froz j)
                have HJQ := Lib.hid hjq
                clear HT hty ha hb p1 c3 c4 hj hjq
                go_wp2
                refine wp_region_last 11 RelB (phi [isV (.slice (some ⟨gt2, pt2, none⟩) m ct), isV (.int .i64 (k : Int)), isV (.pointer (some ⟨gt2, pt2 + k, none⟩)), isV (.pointer (some ⟨w.heap.size, j, none⟩)), isV (.pointer (some ⟨w.heap.size, j, none⟩)), isV (.int .i64 a), isV (.pointer (some ⟨Y1, j, none⟩)), isV (.pointer (some ⟨Y1, j, none⟩)), isV (.int .i64 b2), isV (.int .i64 (IntKind.i64.wrap (a + b2))), isV (.pointer (some ⟨w.heap.size, j, none⟩))]) (fun W => StT (fun a b => wrap64 (a + b)) s x w.heap.size w6 W (j + 1)) (by kernel_rfl) (by kernel_rfl) (by kernel_rfl) (RelB.of (below_drew _)) (fun _ _ _ a b => a.trans b) ?_ ?_ ?_ ?_
                · refine stays_phiR ?_
                  simp only [List.forall_mem_cons]
                  exact ⟨fun _ _ _ h _ => h, fun _ _ _ h _ => h, fun _ _ _ h _ => h, fun _ _ _ h _ => h, fun _ _ _ h _ => h, fun _ _ _ h _ => h, fun _ _ _ h _ => h, fun _ _ _ h _ => h, fun _ _ _ h _ => h, fun _ _ _ h _ => h, fun _ _ _ h _ => h, fun _ h => absurd h (by simp)⟩
                · refine ⟨?_, ?_, ?_, ?_, ?_, ?_, ?_, ?_, ?_, ?_, ?_, trivial⟩
                  · refine opR_mk rfl fun aa W2 hB hp hq K hK => ?_
                    have e8 : aa.tmps[8]?.getD undef = .slice (some ⟨gt2, pt2, none⟩) m ct := hp 8 (by kernel_rfl)
                    clear hp hq
                    go_simp
                    exact hK _ _ (RelB.refl _) rfl
                  · refine opR_mk rfl fun aa W2 hB hp hq K hK => ?_
                    have e9 : aa.tmps[9]?.getD undef = .int .i64 (k : Int) := hp 9 (by kernel_rfl)
                    clear hp hq
                    go_simp
                    exact hK _ _ (RelB.refl _) rfl
                  · refine opR_mk rfl fun aa W2 hB hp hq K hK => ?_
                    have e45 : aa.tmps[45]?.getD undef = .slice (some ⟨gt2, pt2, none⟩) m ct := hq 0 _ (by kernel_rfl) rfl
                    have e46 : aa.tmps[46]?.getD undef = .int .i64 (k : Int) := hq 1 _ (by kernel_rfl) rfl
                    clear hp hq
                    go_simp
                    exact hK _ _ (RelB.refl _) rfl
                  · refine opR_mk rfl fun aa W2 hB hp hq K hK => ?_
                    have e47 : aa.tmps[47]?.getD undef = .pointer (some ⟨gt2, pt2 + k, none⟩) := hq 2 _ (by kernel_rfl) rfl
                    have c1 := cell_bel HC.out.1 hB
                    clear hp hq
                    go_simp
                    exact hK _ _ (RelB.refl _) rfl
                  · refine opR_mk rfl fun aa W2 hB hp hq K hK => ?_
                    have e48 : aa.tmps[48]?.getD undef = .pointer (some ⟨w.heap.size, j, none⟩) := hq 3 _ (by kernel_rfl) rfl
                    clear hp hq
                    go_simp
                    exact hK _ _ (RelB.refl _) rfl
                  · refine opR_mk rfl fun aa W2 hB hp hq K hK => ?_
                    have e49 : aa.tmps[49]?.getD undef = .pointer (some ⟨w.heap.size, j, none⟩) := hq 4 _ (by kernel_rfl) rfl
                    have c1 := cell_bel HC.out.2.1 hB
                    clear hp hq
                    go_simp
                    exact hK _ _ (RelB.refl _) rfl
                  · refine opR_mk rfl fun aa W2 hB hp hq K hK => ?_
                    have e10 : aa.tmps[10]?.getD undef = .pointer (some ⟨Y1, j, none⟩) := hp 10 (by kernel_rfl)
                    clear hp hq
                    go_simp
                    exact hK _ _ (RelB.refl _) rfl
                  · refine opR_mk rfl fun aa W2 hB hp hq K hK => ?_
                    have e51 : aa.tmps[51]?.getD undef = .pointer (some ⟨Y1, j, none⟩) := hq 6 _ (by kernel_rfl) rfl
                    clear hp hq
                    go_simp
                    exact hK _ _ (RelB.refl _) rfl
                  · refine opR_mk rfl fun aa W2 hB hp hq K hK => ?_
                    have e52 : aa.tmps[52]?.getD undef = .pointer (some ⟨Y1, j, none⟩) := hq 7 _ (by kernel_rfl) rfl
                    have c1 := cell_bel HC.out.2.2 hB
                    clear hp hq
                    go_simp
                    exact hK _ _ (RelB.refl _) rfl
                  · refine opR_mk rfl fun aa W2 hB hp hq K hK => ?_
                    have e50 : aa.tmps[50]?.getD undef = .int .i64 a := hq 5 _ (by kernel_rfl) rfl
                    have e53 : aa.tmps[53]?.getD undef = .int .i64 b2 := hq 8 _ (by kernel_rfl) rfl
                    clear hp hq
                    go_simp
                    exact hK _ _ (RelB.refl _) rfl
                  · refine opR_mk rfl fun aa W2 hB hp hq K hK => ?_
                    have e48 : aa.tmps[48]?.getD undef = .pointer (some ⟨w.heap.size, j, none⟩) := hq 3 _ (by kernel_rfl) rfl
                    clear hp hq
                    go_simp
                    exact hK _ _ (RelB.refl _) rfl
                · intro oN hoN aa W2 hB hp hq K hK
                  obtain rfl := Option.some.inj hoN
                  have e55 : aa.tmps[55]?.getD undef = .pointer (some ⟨w.heap.size, j, none⟩) := hq 10 _ (by decide) rfl
                  have e54 : aa.tmps[54]?.getD undef = .int .i64 (IntKind.i64.wrap (a + b2)) := hq 9 _ (by decide) rfl
                  have c1 := cell_bel HC.out.2.1 hB
                  have f1 := HFZ.out W2 hB
                  have HS3 := Lib.hid (HST.out W2 hB)
                  clear hp hq
                  go_simp
                  exact hK _ HS3.out
                · intro vs W3 hF hv
                  have HF3 := Lib.hid hF
                  clear hF hv
                  simp only [putAll, Act.put, List.setIfInBounds_toArray, List.set_cons_succ, List.set_cons_zero, Nat.zero_add, Nat.reduceAdd]
                  go_wp2
                  exact ⟨⟨k + 1, by go_num, by omega, by rw [← Nat.add_assoc, HJQ.out]; exact HF3⟩, by simp [intOf]; omega⟩
end Go.Proofs.YtenddeglhjmhcaaDoor
