/- The way down, walked. -/
import Derived.Test.YtpcjbfhgmcioaaaGreatWA
namespace Go.Proofs.YtpcjbfhgmcioaaaGreat
open Go.RowKit Go.Maps

section
variable {F : Nat → Prop} {P N : Nat} {y : Lay} {t : PT}
def DownAt (t : PT) (B : Nat) (w wr : World) (i : Nat) (way : List Int) (v : Value) : Prop :=
  wr.ownsRow B 23 1 v way.length (way.map u32V) ∧ Way t i way ∧ i ≤ way.length ∧ Below B w wr ∧ (∀ j d, j < i → way[j]? = some d → EntsOf (listL t d) (entsOf t d))
theorem owns_later {w w' : World} {base : Nat} {e : TypeId} {size n : Nat} {v : Value} {xs : List Value} (h : w.ownsRow base e size v n xs) (hb : Below w.heap.size w w') : w'.ownsRow base e size v n xs :=
  h.kept (row := none) ⟨hb.os, hb.tape, hb.output, hb.size, fun b h _ => hb.block b h⟩ (by cases hv : v.ownBlock <;> simp)
theorem cell_one_two (w : World) (o : Obj) (i : Int) : ∀ j u, [Value.int .u32 i][j]? = some u → ((w.alloc o).alloc (.cells #[.int .u32 i] 23)).cell? ((⟨w.heap.size + 1, 0, none⟩ : Addr).add j) = some u := by
  have h := cell_one_new (w.alloc o) (.int .u32 i) 23
  rw [show (w.alloc o).heap.size = w.heap.size + 1 by simp] at h
  exact h
/-- How far a directory's entries have been looked at, on the way down. -/
def InnAt (t : PT) (w W : World) (way : List Int) (L : List E) (A : Option Addr) (k : Nat) (v : Value) : Prop :=
  W.ownsRow w.heap.size 23 1 v (way ++ kidsOf t (L.take k)).length ((way ++ kidsOf t (L.take k)).map u32V) ∧ k ≤ L.length ∧ EntsAt W A L ∧ Below w.heap.size w W ∧ ∀ b, A = some ⟨b, 0, none⟩ → v.ownBlock ≠ some b
section
variable {w W W' : World} {way : List Int} {L : List E} {A : Option Addr} {k : Nat} {v v' : Value} {x : E}
theorem InnAt.later (h : InnAt t w W way L A k v) (hb : Below W.heap.size W W') : InnAt t w W' way L A k v := by
  obtain ⟨h1, h2, h3, h4, h5⟩ := h
  exact ⟨owns_later h1 hb, h2, h3.below hb, ptrans h4 hb, h5⟩
theorem InnAt.skip (h : InnAt t w W way L A k v) (hx : L[k]? = some x) (hd : isDirB t x.2 = false) : InnAt t w W way L A (k + 1) v := by
  obtain ⟨h1, h2, h3, h4, h5⟩ := h
  have e : kidsOf t (L.take (k + 1)) = kidsOf t (L.take k) := by
    rw [List.take_add_one, hx]
    show kidsOf t (_ ++ [x]) = _
    rw [kids_snoc, hd]
    simp
  exact ⟨by rw [e]; exact h1, (List.getElem?_eq_some_iff.1 hx).1, h3, h4, h5⟩
theorem InnAt.took (h : InnAt t w W way L A k v) (hx : L[k]? = some x) (hd : isDirB t x.2 = true)
    (hown : W'.ownsRow w.heap.size 23 1 v' ((way ++ kidsOf t (L.take k)).length + 1) ((way ++ kidsOf t (L.take k)).map u32V ++ [.int .u32 x.2])) (hg : W.grownBy W' v.ownBlock) (hat : v'.ownBlock = v.ownBlock ∨ v'.ownBlock = some W.heap.size) : InnAt t w W' way L A (k + 1) v' := by
  obtain ⟨h1, h2, h3, h4, h5⟩ := h
  have hlt := (List.getElem?_eq_some_iff.1 hx).1
  have e : way ++ kidsOf t (L.take (k + 1)) = (way ++ kidsOf t (L.take k)) ++ [x.2] := by
    rw [List.take_add_one, hx]
    show way ++ kidsOf t (_ ++ [x]) = _
    rw [kids_snoc, hd]
    simp
  obtain ⟨b, rfl, hb, hc⟩ := h3.at_ (by omega)
  have hne : some b ≠ v.ownBlock := fun e => h5 b rfl e.symm
  refine ⟨?_, hlt, ⟨fun _ => ⟨b, rfl, Nat.lt_of_lt_of_le hb hg.size, fun j z hz => ?_⟩⟩, ?_, fun b' hb' => ?_⟩
  · rw [e, List.length_append, List.map_append]
    exact hown
  · obtain ⟨a1, a2⟩ := hc j z hz
    exact ⟨hg.cell a1 hne, hg.cell a2 hne⟩
  · refine ⟨hg.os.trans h4.os, hg.tape.trans h4.tape, hg.output.trans h4.output, Nat.le_trans h4.size hg.size, fun c hc2 => ?_⟩
    refine (hg.block c (Nat.lt_of_lt_of_le hc2 h4.size) fun e => ?_).trans (h4.block c hc2)
    have := (h1.lt c e.symm).1
    omega
  · injection hb' with hb'
    injection hb' with hb'
    subst hb'
    rcases hat with e | e
    · rw [e]; exact fun e => hne e.symm
    · rw [e]; intro e; injection e with e; omega
end
set_option maxRecDepth 100000 in
set_option maxHeartbeats 4000000 in
theorem t_down (w : World) (h : TreeM w F P N y t) (hW : WellP t) (hN : N ≤ 60000) (all : List Int) (hs : all.Pairwise (· < ·)) (hm : ∀ i, i ∈ all ↔ (t.n i).isSome = true) :
    Calls Tryz.prog 68 #[.pointer (some ⟨P, 0, none⟩), .int .i64 (all.length : Nat)] w fun e w' => e = .returned (.bool true) ∧ Below w.heap.size w w' := by
  have HT := Lib.hid h
  have HW := Lib.hid hW
  have HN := Lib.hid hN
  have HS := Lib.hid hs
  have HM := Lib.hid hm
  have hlen := all_len hW hs hm
  have HNE : Hid (∃ i, (t.n i).isSome = true) := by
    obtain ⟨x, hx, _⟩ := hW.root
    exact ⟨1, by rw [hx]; rfl⟩
  obtain ⟨n, hn⟩ : ∃ n, all.length = n := ⟨_, rfl⟩
  rw [hn] at hlen ⊢
  have HL := Lib.hid hn
  clear h hW hN hs hm hn
  go_enter Tryz.func68, Tryz.ntmps68
  go_wp2
  have hst : Hid (DownAt t w.heap.size w (w.alloc (.cells #[.int .u32 1] 23)) 0 [1] (.slice (some ⟨w.heap.size, 0, none⟩) 1 1)) := by
    refine ⟨⟨rfl, .inr ⟨w.heap.size, 1, _, rfl, Nat.le_refl _, heap_alloc_new w _, Nat.le_refl _, ?_, ?_, rfl⟩⟩, Way.start HW.out, Nat.zero_le _, u_alloc1 w _, fun j d hj => absurd hj (by omega)⟩
    · unfold maxLen; omega
    · rfl
  go_loopw [5, 6] (fun v iv wr => ∃ (i : Nat) (way : List Int), iv = .int .i64 (i : Int) ∧ DownAt t w.heap.size w wr i way v) (fun _ iv _ => (n + 1) - (intOf iv).toNat)
  case atStart => exact ⟨0, [1], rfl, hst.out⟩
  case round =>
    obtain ⟨i, way, rfl, how, hwy, hil, hB, hE⟩ := hrel
    have hmost := hwy.most HM.out
    rw [HL.out] at hmost
    have HWY := Lib.hid hwy
    have HB := Lib.hid hB
    have HE := Lib.hid hE
    clear hwy hB hE hst
    have hwl : way.length ≤ 256 := by omega
    have hlive : ∀ j d, way[j]? = some d → ∃ g cap, u5 = .slice (some ⟨g, 0, none⟩) way.length cap ∧ w.heap.size ≤ g ∧ g < wr.heap.size ∧ wr.cell? ⟨g, j, none⟩ = some (.int .u32 d) := by
      intro j d hj
      have hjl := (List.getElem?_eq_some_iff.1 hj).1
      rcases how.2 with ⟨_, h0⟩ | ⟨g, cap, cur, e, hg, hcur, _, _, _, htake⟩
      · omega
      · refine ⟨g, cap, e, hg, (Array.getElem?_eq_some_iff.1 hcur).1, ?_⟩
        have h1 : cur[j]? = some (u32V d) := by
          have e2 : (cur.toList.take (way.length * 1))[j]? = (way.map u32V)[j]? := by rw [htake]
          rw [List.getElem?_take, if_pos (by omega), List.getElem?_map, hj] at e2
          simpa using e2
        simp only [World.cell?, hcur, h1]
        rfl
    have HOW := Lib.hid how
    have HT' := Lib.hid (HT.out.below HB.out)
    have hpos : 1 ≤ way.length := List.length_pos_of_mem HWY.out.root
    obtain ⟨d0, hd0⟩ : ∃ d, way[0]? = some d := ⟨way[0], List.getElem?_eq_getElem (by omega)⟩
    obtain ⟨g, cap, hv, hg1, hg2, _⟩ := hlive 0 d0 hd0
    subst hv
    obtain ⟨m, hm⟩ : ∃ m, way.length = m := ⟨_, rfl⟩
    rw [hm] at hmost hil hwl hpos
    clear hd0
    by_cases hi : i = m
    · rw [hm]
      have hg3 : ¬ (n < m) := by omega
      go_wp2_with (go_at_call 21; (with_reducible refine (t_allP wr HT'.out HN.out HNE.out).mono ?_); rintro e w1 ⟨B1, c1, l1, rfl, hs1, hm1, hr1, hgg1, hb1⟩; have HS1 := Lib.hid hs1; have HM1 := Lib.hid hm1; have HR1 := Lib.hid hr1; have HB1 := Lib.hid hb1; clear hs1 hm1 hr1 hgg1 hb1)
      obtain rfl := ints_unique HS.out HS1.out (fun x => (HM.out x).trans (HM1.out x).symm)
      have HEq : Hid (m = (all.filter (isDirB t)).length) := by
        have hw := HWY.out
        rw [hi, ← hm] at hw
        have := hw.done HW.out HS.out HM.out (fun d hd => by
          obtain ⟨j, hj⟩ := List.getElem?_of_mem hd
          exact HE.out j d (by have := (List.getElem?_eq_some_iff.1 hj).1; omega) hj)
        show m = _
        rw [← hm]; exact this
      have HBA := Lib.hid (ptrans HB.out HB1.out)
      have HT1 := Lib.hid (HT'.out.below HB1.out)
      rw [HL.out]
      clear hlive
      go_loopw [13, 14] (fun cv kv W => ∃ k : Nat, kv = .int .i64 (k : Int) ∧ cv = .int .i64 (((all.take k).filter (isDirB t)).length : Nat) ∧ k ≤ n ∧ Below w1.heap.size w1 W) (fun _ kv _ => n - (intOf kv).toNat)
      case atStart => exact ⟨0, rfl, rfl, Nat.zero_le _, Below.refl _ _⟩
      case round =>
        obtain ⟨k, rfl, rfl, hk, hBk⟩ := hrel
        have HBK := Lib.hid hBk
        clear hBk
        by_cases he : k = n
        · have hc : ((all.take k).filter (isDirB t)).length = m := by rw [he, ← HL.out, List.take_length]; exact HEq.out.symm
          rw [hc]
          go_wp2
          go_ret
          exact ⟨rfl, ptrans HBA.out HBK.out⟩
        · have hk2 : k < n := by omega
          obtain ⟨i2, hi2⟩ : ∃ i2, all[k]? = some i2 := ⟨all[k]'(by rw [HL.out]; exact hk2), List.getElem?_eq_getElem _⟩
          obtain ⟨x, hx⟩ := Option.isSome_iff_exists.1 ((HM.out i2).1 (List.mem_of_getElem? hi2))
          have HX := Lib.hid hx
          have d1 := (HBK.out.cell (p := ⟨B1, _, none⟩) HR1.out.lt).trans (HR1.out.cell k i2 hi2)
          have htk : (all.take (k + 1)).filter (isDirB t) = (all.take k).filter (isDirB t) ++ (if isDirB t i2 = true then [i2] else []) := by
            rw [List.take_add_one, hi2, List.filter_append]
            congr 1
            by_cases c : isDirB t i2 = true
            · simp [c]
            · simp [c]
          have hc256 : ((all.take k).filter (isDirB t)).length ≤ 256 := by
            have h1 := List.length_filter_le (isDirB t) (all.take k)
            have h2 : (all.take k).length ≤ k := by rw [List.length_take]; omega
            omega
          obtain ⟨cc, hcc⟩ : ∃ cc, ((all.take k).filter (isDirB t)).length = cc := ⟨_, rfl⟩
          have HTK := Lib.hid htk
          rw [hcc] at hc256 ⊢
          have HCC := Lib.hid hcc
          clear htk hcc hi2 hx he
          by_cases hk2d : x.kind = 2
          · have hkb : (x.kind == 2) = true := by simpa using hk2d
            have HD : Hid (isDirB t i2 = true) := isDirB_iff.2 ⟨x, HX.out, hk2d⟩
            clear hk2d
            go_wp2_with (go_at_call 26; (with_reducible refine (t_statS wr (HT1.out.below HBK.out) HX.out).mono ?_); rintro e w3 ⟨rfl, hb3⟩; have HB3 := Lib.hid (ptrans (ptrans HBK.out hb3) (u_alloc1 w3 (statC i2 x))); clear hb3)
            refine ⟨⟨k + 1, by go_num, ?_, by omega, HB3.out⟩, by simp [intOf]; omega⟩
            rw [HTK.out, if_pos HD.out, List.length_append, HCC.out]
            simp
          · have hkb : (x.kind == 2) = false := by simpa using hk2d
            have HD : Hid (isDirB t i2 = false) := by
              show _ = _
              cases hd : isDirB t i2 with
              | false => rfl
              | true =>
                obtain ⟨z, hz, hzk⟩ := isDirB_iff.1 hd
                rw [HX.out] at hz
                cases hz
                exact absurd hzk hk2d
            clear hk2d
            go_wp2_with (go_at_call 26; (with_reducible refine (t_statS wr (HT1.out.below HBK.out) HX.out).mono ?_); rintro e w3 ⟨rfl, hb3⟩; have HB3 := Lib.hid (ptrans (ptrans HBK.out hb3) (u_alloc1 w3 (statC i2 x))); clear hb3)
            refine ⟨⟨k + 1, by go_num, ?_, by omega, HB3.out⟩, by simp [intOf]; omega⟩
            rw [HTK.out, HD.out, List.length_append, HCC.out]
            simp
    · have him : i < m := by omega
      obtain ⟨d, hd⟩ : ∃ d, way[i]? = some d := ⟨way[i]'(by omega), List.getElem?_eq_getElem _⟩
      obtain ⟨g', cap', hv, _, _, hcell⟩ := hlive i d hd
      injection hv with hv _ hcap
      injection hv with hv
      injection hv with hv
      subst hv
      subst hcap
      obtain ⟨x, hx, hxk⟩ := isDirB_iff.1 (HWY.out.dir d (List.mem_of_getElem? hd))
      have hpos := HT'.out.pos d x hx
      have HU : Hid (U32 d) := ⟨by omega, by omega⟩
      have HDI := Lib.hid hd
      have HGS : Hid (w.heap.size ≤ g ∧ g < wr.heap.size) := ⟨hg1, hg2⟩
      rw [hm]
      have HMM := Lib.hid hm
      clear hlive hd hx hxk hpos hm
      go_wp2_with (go_at_call 29; (with_reducible refine (t_listP d wr HT'.out HU.out HN.out).mono ?_); rintro e w1 ⟨A1, k1, L1, rfl, hL1, hn1, hE1, hb1, hA1⟩; have HL1 := Lib.hid hL1; have HN1 := Lib.hid hn1; have HE1 := Lib.hid hE1; have HB1 := Lib.hid hb1; have HA1 := Lib.hid hA1; clear hL1 hn1 hE1 hb1 hA1)
      obtain ⟨q, hq⟩ : ∃ q, L1.length = q := ⟨_, rfl⟩
      have hq6 : q ≤ 60000 := by rw [← hq]; exact HN1.out
      have HQ := Lib.hid hq
      have HEO : Hid (entsOf t d = L1) := entsOf_spec HL1.out
      have hst2 : Hid (InnAt t w w1 way L1 A1 0 (.slice (some ⟨g, 0, none⟩) m cap)) := by
        refine ⟨?_, Nat.zero_le _, HE1.out, ptrans HB.out HB1.out, fun b hb => ?_⟩
        · have h1 := owns_later HOW.out HB1.out
          simpa [kidsOf, HMM.out] using h1
        · have h1 := HA1.out b hb
          have h2 := HGS.out.2
          intro e
          injection e with e
          simp at e
          omega
      rw [hq]
      clear hq
      go_loopw [5, 9] (fun v kv W => ∃ k : Nat, kv = .int .i64 (k : Int) ∧ InnAt t w W way L1 A1 k v) (fun _ kv _ => q - (intOf kv).toNat)
      case atStart => exact ⟨0, rfl, hst2.out⟩
      case round =>
        obtain ⟨k, rfl, hin⟩ := hrel
        have hk : k ≤ q := by rw [← HQ.out]; exact hin.2.1
        have HIN := Lib.hid hin
        have HBW := Lib.hid hin.2.2.2.1
        clear hin
        by_cases he : k = q
        · subst he
          have HRES : Hid (DownAt t w.heap.size w wr (i + 1) (way ++ kidsOf t L1) u5) := by
            have hin := HIN.out
            have e : L1.take k = L1 := by rw [← HQ.out, List.take_length]
            obtain ⟨h1, _, _, h4, _⟩ := hin
            rw [e] at h1
            have hEd : EntsOf (listL t d) (entsOf t d) := by rw [HEO.out]; exact HL1.out
            have hstep := HWY.out.step HW.out HDI.out hEd
            rw [HEO.out] at hstep
            refine ⟨h1, hstep, by rw [List.length_append, HMM.out]; omega, h4, fun j d' hj hd' => ?_⟩
            by_cases hji : j = i
            · subst hji
              rw [List.getElem?_append_left (by rw [HMM.out]; omega), HDI.out] at hd'
              cases hd'
              exact hEd
            · rw [List.getElem?_append_left (by rw [HMM.out]; omega)] at hd'
              exact HE.out j d' (by omega) hd'
          go_wp2
          refine ⟨⟨i + 1, _, by go_num, HRES.out⟩, by simp [intOf]; omega⟩
        · have hk2 : k < q := by omega
          obtain ⟨⟨s, i2⟩, hx⟩ : ∃ x, L1[k]? = some x := ⟨L1[k]'(by rw [HQ.out]; exact hk2), List.getElem?_eq_getElem _⟩
          obtain ⟨b1, rfl, hl1, e1⟩ := HIN.out.2.2.1.at_ (by rw [HQ.out]; omega)
          obtain ⟨_, a2⟩ := e1 k _ hx
          have hent := (listL_ent HW.out _ _ _).1 ((HL1.out.mem (nameL (s, i2)) i2).1 ⟨(s, i2), List.mem_of_getElem? hx, rfl, rfl⟩)
          obtain ⟨x, hx2, hx3⟩ : ∃ x, t.n i2 = some x ∧ (x.kind = 2 ∨ x.kind = 1) := by
            obtain ⟨z, hz, hl⟩ := hent
            obtain ⟨_, _, _, y', hy, _⟩ := HW.out.ent d z _ _ hz hl
            exact ⟨y', hy, (HW.out.kind _ _ hy).symm⟩
          have HX := Lib.hid hx
          have HX2 := Lib.hid hx2
          have HAC := Lib.hid a2
          have HL1' := Lib.hid hl1
          have hln : (way ++ kidsOf t (L1.take k)).length ≤ 256 + 60000 := by
            rw [List.length_append, HMM.out]
            have h1 : (kidsOf t (L1.take k)).length ≤ (L1.take k).length := by
              unfold kidsOf
              exact Nat.le_trans (List.length_filter_le _ _) (by simp)
            have h2 : (L1.take k).length ≤ k := by rw [List.length_take]; omega
            have := HN1.out
            rw [HQ.out] at this
            omega
          have HLN := Lib.hid hln
          clear e1 hent hx hx2 he hl1 hln
          rcases hx3 with hkd | hkd
          · have hkb : (x.kind == 2) = true := by simpa using hkd
            have HD : Hid (isDirB t i2 = true) := isDirB_iff.2 ⟨x, HX2.out, hkd⟩
            clear hkd
            obtain ⟨i0, hi, hz0, hz1, hz2⟩ := info_parts infoU
            go_wp2_with (first
              | (go_at_call 26; (with_reducible refine (t_statS wr (HT.out.below HBW.out) HX2.out).mono ?_); rintro e w3 ⟨rfl, hb3⟩; have hin3 := HIN.out.later (ptrans hb3 (u_alloc1 w3 (statC i2 x))); have HIN3 := Lib.hid hin3; have c3 := (ptrans hb3 (u_alloc1 w3 (statC i2 x))).cell (p := ⟨b1, k * 2 + 1, none⟩) HL1'.out; rw [HAC.out] at c3; clear hin3 hb3 a2)
              | (at_builtin; refine wpList_append_own_at _ rfl _ _ 46 rfl w.heap.size 23 i0 (.int .u32 0) 1 4 Tryz.underlying46 hi hz0 hz1 hz2 rfl (by decide) _ _ _ rfl (HIN3.out.1.alloc _) ⟨w3.heap.size + 1, 0, none⟩ 1 1 [.int .u32 i2] rfl rfl (cell_one_two w3 (statC i2 x) i2) (by simp [Value.oneCell']) (by have := HLN.out; unfold maxLen; omega) (by have := HLN.out; omega) (by have := HIN3.out.2.2.2.1.size; simp at this ⊢; omega) ?_; intro v' w7 hown7 hgrow7 _ hat7))
            have HRES : Hid (InnAt t w w7 way L1 (some ⟨b1, 0, none⟩) (k + 1) v') := (HIN3.out.later (u_alloc1 _ _)).took HX.out HD.out hown7 hgrow7 hat7
            refine ⟨⟨k + 1, by go_num, HRES.out⟩, by simp [intOf]; omega⟩
          · have hkb : (x.kind == 2) = false := by rw [hkd]; rfl
            have HD : Hid (isDirB t i2 = false) := by
              show _ = _
              cases hd : isDirB t i2 with
              | false => rfl
              | true =>
                obtain ⟨z, hz, hzk⟩ := isDirB_iff.1 hd
                rw [HX2.out] at hz
                cases hz
                omega
            clear hkd
            go_wp2_with (go_at_call 26; (with_reducible refine (t_statS wr (HT.out.below HBW.out) HX2.out).mono ?_); rintro e w3 ⟨rfl, hb3⟩; have hin3 := HIN.out.later (ptrans hb3 (u_alloc1 w3 (statC i2 x))); have HIN3 := Lib.hid hin3; clear hin3 hb3 a2)
            refine ⟨⟨k + 1, by go_num, HIN3.out.skip HX.out HD.out⟩, by simp [intOf]; omega⟩
end
end Go.Proofs.YtpcjbfhgmcioaaaGreat
