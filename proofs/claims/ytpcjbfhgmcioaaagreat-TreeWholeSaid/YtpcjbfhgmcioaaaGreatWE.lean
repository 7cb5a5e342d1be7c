/- Whole, walked. -/
import Derived.Test.YtpcjbfhgmcioaaaGreatWD
namespace Go.Proofs.YtpcjbfhgmcioaaaGreat
open Go.RowKit Go.Maps

/-- How often each inode is named, as a map. -/
def cntM (l : List Int) : Lit → Option Value
  | .int .u32 v => if l.count v = 0 then none else some (.int .i64 ((l.count v : Nat) : Int))
  | _ => none
theorem cntM_get (l : List Int) (v : Int) : (cntM l (.int .u32 v)).getD (.int .i64 0) = .int .i64 ((l.count v : Nat) : Int) := by
  show (if l.count v = 0 then none else some _ : Option Value).getD _ = _
  split
  · rename_i h; rw [h]; rfl
  · rfl
theorem cntM_snoc (l : List Int) (v : Int) : ∀ kl, WideAt.IsKeyLit kl → updM (cntM l) (.int .u32 v) (.int .i64 (((l.count v : Nat) : Int) + 1)) kl = cntM (l ++ [v]) kl := fun kl _ => by
  cases kl with
  | int q a =>
    cases q <;> try (unfold updM; simp [cntM, Lit.sameKey]; done)
    show updM _ _ _ _ = if (l ++ [v]).count a = 0 then none else some _
    unfold updM
    rw [List.count_append]
    by_cases ha : a = v
    · subst ha
      simp [Lit.sameKey]
    · have hz : List.count a [v] = 0 := by rw [List.count_eq_zero]; simpa using ha
      rw [hz]
      simp [Lit.sameKey, ha, cntM]
  | _ => unfold updM; simp [cntM, Lit.sameKey]
theorem zeroCnt (w : World) : (zeroValue 3).run Tryz.prog w = .ok (.int .i64 0) w := by kernel_rfl
theorem cnt_le (l : List Int) (v : Int) : l.count v ≤ l.length := List.count_le_length
section
variable {t : PT} {w W W' : World} {Mb B1 N N' : Nat} {all l l' : List Int}
theorem all_head (h : WellP t) (hs : all.Pairwise (· < ·)) (hm : ∀ i, i ∈ all ↔ (t.n i).isSome = true) : all[0]? = some 1 := by
  obtain ⟨x, hx, _⟩ := h.root
  have h1 : (1 : Int) ∈ all := (hm 1).2 (by rw [hx]; rfl)
  cases all with
  | nil => cases h1
  | cons a l =>
    rw [List.pairwise_cons] at hs
    obtain ⟨z, hz⟩ := Option.isSome_iff_exists.1 ((hm a).1 (by simp))
    have ha := (h.range a z hz).1
    rcases List.mem_cons.1 h1 with e | e
    · rw [← e]; rfl
    · have := hs.1 1 e
      omega
/-- The names that have been counted. -/
structure NamAt (w W : World) (Mb B1 N : Nat) (all l : List Int) : Prop where
  map : MapAt W Tryz.prog 23 Mb N (cntM l)
  row : RowAt W B1 all
  below : Below w.heap.size w W
  lt : w.heap.size ≤ Mb
  ne : B1 ≠ Mb
  len : l.length ≤ N
theorem NamAt.later (h : NamAt w W Mb B1 N all l) (hb : Below W.heap.size W W') : NamAt w W' Mb B1 N all l :=
  ⟨h.map.below hb, h.row.below hb, ptrans h.below hb, h.lt, h.ne, h.len⟩
theorem NamAt.turned (h : NamAt w W Mb B1 N all l) (hM : MapAt W' Tryz.prog 23 Mb N' (cntM l')) (ht : W.mapTurned W' Mb) (hl : l'.length ≤ N') : NamAt w W' Mb B1 N' all l' := by
  have hg := ht.grown
  refine ⟨hM, ⟨fun k x hk => ?_, Nat.lt_of_lt_of_le h.row.lt hg.size⟩, ?_, h.lt, h.ne, hl⟩
  · exact hg.cell (h.row.cell k x hk) (fun e => h.ne (by injection e))
  · refine ⟨hg.os.trans h.below.os, hg.tape.trans h.below.tape, hg.output.trans h.below.output, Nat.le_trans h.below.size hg.size, fun c hc2 => ?_⟩
    refine (hg.block c (Nat.lt_of_lt_of_le hc2 h.below.size) fun e => ?_).trans (h.below.block c hc2)
    have := h.lt
    injection e with e
    omega
theorem NamAt.mono (h : NamAt w W Mb B1 N all l) (hn : N ≤ N') : NamAt w W Mb B1 N' all l := ⟨h.map.mono hn, h.row, h.below, h.lt, h.ne, Nat.le_trans h.len hn⟩
/-- A name more. -/
theorem NamAt.count (h : NamAt w W Mb B1 N all l) {v : Int} (hv : U32 v) (hN : N < 1000000000) :
    (Instr.lookup 99 (.map (some Mb)) (.int .u32 v) false).run Tryz.prog W = .ok (.int .i64 ((l.count v : Nat) : Int)) W ∧
    ∃ W', (Instr.mapUpdate 99 (.map (some Mb)) (.int .u32 v) (.int .i64 (((l.count v : Nat) : Int) + 1))).run Tryz.prog W = .ok () W' ∧ NamAt w W' Mb B1 (N + 1) all (l ++ [v]) ∧ W.mapTurned W' Mb := by
  constructor
  · have := h.map.look law32 Tryz.underlying99 (zeroCnt W) (pkey32 hv)
    rw [cntM_get] at this
    exact this
  · obtain ⟨W', h1, h2, h3⟩ := h.map.update law32 Tryz.underlying99 (by unfold maxLen; omega) (val := .int .i64 (((l.count v : Nat) : Int) + 1)) (pkey32 hv)
    exact ⟨W', h1, h.turned (h2.congr (cntM_snoc l v)) h3 (by have := h.len; simp; omega), h3⟩
theorem vals_take (es : Int → List E) {i : Nat} {d : Int} (h : all[i]? = some d) : valsOf es (all.take (i + 1)) = valsOf es (all.take i) ++ (es d).map fun x => x.2 := by
  unfold valsOf
  rw [List.take_add_one, h, List.flatMap_append]
  simp
/-- The names of the directories ahead have been counted. -/
def NamesAt (t : PT) (w W : World) (Mb B1 : Nat) (all : List Int) (i : Nat) : Prop :=
  ∃ N, NamAt w W Mb B1 N all (valsOf (entsOf t) (all.take i)) ∧ N ≤ i * 60000 ∧ ∀ d ∈ all.take i, EntsOf (listL t d) (entsOf t d)
/-- And some of the next one's. -/
structure NamIn (w W : World) (Mb B1 : Nat) (all l0 : List Int) (i : Nat) (L : List E) (A : Option Addr) (k : Nat) : Prop where
  nam : ∃ N, NamAt w W Mb B1 N all (l0 ++ (L.take k).map fun x => x.2) ∧ N ≤ i * 60000 + k
  le : k ≤ L.length
  ents : EntsAt W A L
  ne : ∀ b, A = some ⟨b, 0, none⟩ → b ≠ Mb
theorem NamIn.later {l0 : List Int} {i k : Nat} {L : List E} {A : Option Addr} (h : NamIn w W Mb B1 all l0 i L A k) (hb : Below W.heap.size W W') : NamIn w W' Mb B1 all l0 i L A k := by
  obtain ⟨⟨N, h1, h2⟩, h3, h4, h5⟩ := h
  exact ⟨⟨N, h1.later hb, h2⟩, h3, h4.below hb, h5⟩
theorem NamIn.below_ {l0 : List Int} {i k : Nat} {L : List E} {A : Option Addr} (h : NamIn w W Mb B1 all l0 i L A k) : Below w.heap.size w W := by
  obtain ⟨⟨N, h1, h2⟩, _⟩ := h
  exact h1.below
theorem NamIn.count {l0 : List Int} {i k : Nat} {L : List E} {A : Option Addr} {x : E} (h : NamIn w W Mb B1 all l0 i L A k) (hx : L[k]? = some x) (hv : U32 x.2) (hi : i ≤ 256) (hL : L.length ≤ 60000) :
    ∃ c : Nat, c ≤ 1000000000 ∧ (Instr.lookup 99 (.map (some Mb)) (.int .u32 x.2) false).run Tryz.prog W = .ok (.int .i64 (c : Int)) W ∧
    ∃ W', (Instr.mapUpdate 99 (.map (some Mb)) (.int .u32 x.2) (.int .i64 ((c : Int) + 1))).run Tryz.prog W = .ok () W' ∧ NamIn w W' Mb B1 all l0 i L A (k + 1) := by
  obtain ⟨⟨N, h1, h2⟩, h3, h4, h5⟩ := h
  have hlt := (List.getElem?_eq_some_iff.1 hx).1
  obtain ⟨g1, W', g2, g3, g4⟩ := h1.count hv (by omega)
  refine ⟨_, ?_, g1, W', g2, ⟨⟨N + 1, ?_, by omega⟩, hlt, ⟨fun h0 => ?_⟩, h5⟩⟩
  · refine Nat.le_trans (cnt_le _ _) (Nat.le_trans h1.len ?_)
    omega
  · have e : (L.take (k + 1)).map (fun x => x.2) = (L.take k).map (fun x => x.2) ++ [x.2] := by
      rw [List.take_add_one, hx]
      simp
    rw [e, ← List.append_assoc]
    exact g3
  · obtain ⟨b, rfl, hb, hc⟩ := h4.at_ h0
    have hg := g4.grown
    have hne : some b ≠ some Mb := fun e => h5 b rfl (by injection e)
    exact ⟨b, rfl, Nat.lt_of_lt_of_le hb hg.size, fun j z hz => ⟨hg.cell (hc j z hz).1 hne, hg.cell (hc j z hz).2 hne⟩⟩
theorem ents_none {L : List E} (h : EntsOf (fun _ => none) L) : L = [] := by
  cases L with
  | nil => rfl
  | cons x L => exact absurd ((h.mem (nameL x) x.2).1 ⟨x, by simp, rfl, rfl⟩) (by simp)
end
section
variable {F : Nat → Prop} {P N : Nat} {y : Lay} {t : PT}
set_option maxRecDepth 100000 in
set_option maxHeartbeats 8000000 in
theorem t_whole (w : World) (h : TreeM w F P N y t) (hW : WellP t) (hN : N ≤ 60000) :
    Calls Tryz.prog 20 #[.pointer (some ⟨P, 0, none⟩)] w fun e w' => e = .returned (.bool true) ∧ Below w.heap.size w w' := by
  have HT := Lib.hid h
  have HW := Lib.hid hW
  have HN := Lib.hid hN
  have HNE : Hid (∃ i, (t.n i).isSome = true) := by
    obtain ⟨x, hx, _⟩ := hW.root
    exact ⟨1, by rw [hx]; rfl⟩
  clear h hW hN
  have hmm := @run_makeMap Tryz.prog
  go_enter Tryz.func20, Tryz.ntmps20
  go_wp2_with (go_at_call 21; (with_reducible refine (t_allP w HT.out HN.out HNE.out).mono ?_); rintro e w1 ⟨B1, c1, all, rfl, hs, hm, hr, hg, hb⟩; have HS := Lib.hid hs; have HM := Lib.hid hm; have HR := Lib.hid hr; have HB := Lib.hid hb; have HG := Lib.hid hg; clear hs hm hr hg hb)
  have hlen := all_len HW.out HS.out HM.out
  obtain ⟨n, hn⟩ : ∃ n, all.length = n := ⟨_, rfl⟩
  have HL := Lib.hid hn
  rw [hn] at hlen ⊢
  clear hn
  obtain ⟨Mb, hMb⟩ : ∃ Mb, w1.heap.size = Mb := ⟨_, rfl⟩
  have HMb := Lib.hid hMb
  have hst : Hid (NamesAt t w (w1.alloc (.map #[] 0)) Mb B1 all 0) := by
    rw [← hMb]
    refine ⟨0, ⟨?_, ?_, ?_, ?_, ?_, Nat.zero_le _⟩, Nat.zero_le _, fun d hd => by simp at hd⟩
    · exact (MapAt.made w1 _ _).congr fun kl _ => by cases kl with | int q a => cases q <;> rfl | _ => rfl
    · exact HR.out.below (u_alloc1 w1 _)
    · exact ptrans HB.out (u_alloc1 w1 _)
    · exact HB.out.size
    · have := HR.out.lt; omega
  rw [hMb]
  clear hMb
  go_loopw [5] (fun v W => ∃ i : Nat, v = .int .i64 (i : Int) ∧ i ≤ n ∧ NamesAt t w W Mb B1 all i) (fun v _ => n - (intOf v).toNat)
  case atStart => exact ⟨0, rfl, Nat.zero_le _, hst.out⟩
  case round =>
    obtain ⟨i, rfl, hi, hnm⟩ := hrel
    have HNM := Lib.hid hnm
    clear hnm hst
    by_cases he : i = n
    · subst he
      have hEall : ∀ d ∈ all, EntsOf (listL t d) (entsOf t d) := by
        obtain ⟨_, _, _, h3⟩ := HNM.out
        rw [← HL.out, List.take_length] at h3
        exact h3
      have HEA := Lib.hid hEall
      obtain ⟨N1, n1, n2⟩ : ∃ N1, NamAt w wr Mb B1 N1 all (valsOf (entsOf t) all) ∧ N1 ≤ i * 60000 := by
        obtain ⟨N1, h1, h2, _⟩ := HNM.out
        rw [← HL.out, List.take_length] at h1
        exact ⟨N1, h1, h2⟩
      have HN1 := Lib.hid n1
      have HN2 := Lib.hid n2
      clear hEall n1 n2
      go_wp2
      go_loopw [11] (fun v W => ∃ j : Nat, v = .int .i64 (j : Int) ∧ j ≤ i ∧ Below wr.heap.size wr W) (fun v _ => i - (intOf v).toNat)
      case atStart => exact ⟨0, rfl, Nat.zero_le _, Below.refl _ _⟩
      case round =>
        obtain ⟨j, rfl, hj, hBj⟩ := hrel
        have HBJ := Lib.hid hBj
        clear hBj
        by_cases he : j = i
        · subst he
          have h0 := all_head HW.out HS.out HM.out
          have hlp : 0 < j := by rw [← HL.out]; exact (List.getElem?_eq_some_iff.1 h0).1
          have c0 := (HN1.out.row.below HBJ.out).cell 0 1 h0
          have HDN := Lib.hid (t_down wr (HT.out.below (ptrans HN1.out.below HBJ.out)) HW.out HN.out all HS.out HM.out)
          rw [HL.out] at HDN
          clear h0
          go_wp2_with (go_at_call 68; (with_reducible refine HDN.out.mono ?_); rintro e w9 ⟨rfl, hb9⟩; have HB9 := Lib.hid hb9; clear hb9)
          go_ret
          exact ⟨rfl, ptrans (ptrans HN1.out.below HBJ.out) HB9.out⟩
        · have hji : j < i := by omega
          obtain ⟨v, hv⟩ : ∃ v, all[j]? = some v := ⟨all[j]'(by rw [HL.out]; exact hji), List.getElem?_eq_getElem _⟩
          obtain ⟨x, hx⟩ := Option.isSome_iff_exists.1 ((HM.out v).1 (List.mem_of_getElem? hv))
          have hpos := HT.out.pos v x hx
          have HU : Hid (U32 v) := ⟨by omega, by omega⟩
          have HX := Lib.hid hx
          have hrow := HN1.out.row.below HBJ.out
          have d1 := hrow.cell j v hv
          obtain ⟨cc, hcc⟩ : ∃ cc, (valsOf (entsOf t) all).count v = cc := ⟨_, rfl⟩
          have hcb : cc ≤ 1000000000 := by
            have h1 := cnt_le (valsOf (entsOf t) all) v
            have h2 := HN1.out.len
            have h3 := HN2.out
            omega
          have HCC := Lib.hid hcc
          have HV := Lib.hid hv
          have hcase : (x.kind = 1 ∧ x.links = (cc : Int) ∧ v ≠ 1 ∧ (cc = 0 → 0 < x.held)) ∨ (x.kind = 2 ∧ x.links = 1 ∧ cc ≤ 1 ∧ (v ≠ 1 → cc = 1)) := by
            rcases HW.out.kind v x hx with hk | hk
            · have h1 := count_file HW.out HS.out HM.out HEA.out hx hk
              rw [hcc] at h1
              refine .inl ⟨hk, h1.symm, fun e => ?_, fun e => HW.out.there v x hx hk (by rw [← h1, e]; rfl)⟩
              obtain ⟨z, hz, hzk, _⟩ := HW.out.root
              rw [e, hz] at hx
              cases hx
              omega
            · obtain ⟨h1, h2⟩ := count_dir HW.out HS.out HM.out HEA.out hx hk
              rw [hcc] at h1 h2
              exact .inr ⟨hk, (HW.out.dirs v x hx hk).1, h1, fun h => by have := h2 h; omega⟩
          have hj0 : j = 0 → v = 1 := fun e => by
            subst e
            have := all_head HW.out HS.out HM.out
            rw [hv] at this
            injection this
          have hprev : ∀ j', j = j' + 1 → ∃ v', all[j']? = some v' ∧ v' < v ∧ v ≠ 1 := fun j' e => by
            subst e
            obtain ⟨v', hv'⟩ : ∃ v', all[j']? = some v' := ⟨all[j']'(by rw [HL.out]; omega), List.getElem?_eq_getElem _⟩
            have h1 := List.pairwise_iff_getElem.1 HS.out j' (j' + 1) (by rw [HL.out]; omega) (by rw [HL.out]; omega) (by omega)
            rw [(List.getElem?_eq_some_iff.1 hv').2, (List.getElem?_eq_some_iff.1 hv).2] at h1
            obtain ⟨z, hz⟩ := Option.isSome_iff_exists.1 ((HM.out v').1 (List.mem_of_getElem? hv'))
            have := (HW.out.range v' z hz).1
            exact ⟨v', hv', h1, by omega⟩
          clear hcc hx hpos hrow hv he
          rcases (show j = 0 ∨ ∃ j', j = j' + 1 from by cases j with | zero => exact .inl rfl | succ j => exact .inr ⟨j, rfl⟩) with hz0 | ⟨j', hz1⟩
          · obtain rfl := hj0 hz0
            subst hz0
            rcases hcase with ⟨_, _, hn1, _⟩ | ⟨hk, hl, hc1, _⟩
            · exact absurd rfl hn1
            · clear hj0 hprev
              have hcg : decide ((cc : Int) > 1) = false := by simp; omega
              go_wp2_with (go_at_call 26; (with_reducible refine (t_statS wr (HT.out.below (ptrans HN1.out.below HBJ.out)) HX.out).mono ?_); rintro e w5 ⟨rfl, hb5⟩; have HB5 := Lib.hid (ptrans HBJ.out (ptrans hb5 (u_alloc1 w5 (statC 1 x)))); clear hb5)
              have hrow5 := HN1.out.row.below HB5.out
              have d2 := hrow5.cell 0 1 HV.out
              obtain ⟨e0, e1, e2, e3, _⟩ := StatAt.new w5 1 x
              have hB5 := HB5.out
              have hSA := StatAt.new w5 1 x
              unfold statC at d2 e0 e1 e2 e3 hB5 hSA
              rw [hk, hl] at d2 e0 e1 e2 e3 hB5 hSA
              have HB5' := Lib.hid hB5
              have HSA := Lib.hid hSA
              clear d1 hrow5 hB5 hSA
              go_quiet (fail)
              generalize hw6 : World.drewN _ _ = w6
              have hB6 := pbelow_drewN HB5'.out nq
              rw [hw6] at hB6
              have hSA6 : StatAt w6 w5.heap.size 1 x := by rw [← hw6]; exact HSA.out.below (pbelow_drewN (Below.refl _ _) _)
              have hrow6 := HN1.out.row.below hB6
              have d4 := hrow6.cell 0 1 HV.out
              have hlk := (HN1.out.map.below hB6).look law32 Tryz.underlying99 (zeroCnt _) (pkey32 HU.out)
              rw [cntM_get, HCC.out] at hlk
              have HB6 := Lib.hid hB6
              have HT6 := Lib.hid (HT.out.below (ptrans HN1.out.below hB6))
              clear hw6 hB6 hrow6 d2 e0 e1 e2 e3
              obtain ⟨e0, e1, e2, e3, _⟩ := hSA6
              rw [hk] at e1
              rw [hl] at e2
              go_wp2
              refine ⟨⟨0 + 1, by go_num, by omega, HB6.out⟩, by simp [intOf]; omega⟩
          · obtain ⟨v', hv', hvv, hv1⟩ := hprev j' hz1
            subst hz1
            have hv1b : (v == 1) = false := by simpa using hv1
            have HV' := Lib.hid hv'
            clear hv' hj0 hprev
            rcases hcase with ⟨hk, hl, _, hc0⟩ | ⟨hk, hl, hc1, hc2⟩
            · by_cases hc : cc = 0
              · have hl0 : x.links = 0 := by rw [hl, hc]; rfl
                clear hl
                go_wp2_with (go_at_call 26; (with_reducible refine (t_statS wr (HT.out.below (ptrans HN1.out.below HBJ.out)) HX.out).mono ?_); rintro e w5 ⟨rfl, hb5⟩; have HB5 := Lib.hid (ptrans HBJ.out (ptrans hb5 (u_alloc1 w5 (statC v x)))); clear hb5)
                have hrow5 := HN1.out.row.below HB5.out
                have d2 := hrow5.cell (j' + 1) v HV.out
                have d3 := hrow5.cell j' v' HV'.out
                obtain ⟨e0, e1, e2, e3, _⟩ := StatAt.new w5 v x
                have hB5 := HB5.out
                have hSA := StatAt.new w5 v x
                unfold statC at d2 d3 e0 e1 e2 e3 hB5 hSA
                rw [hk, hl0] at d2 d3 e0 e1 e2 e3 hB5 hSA
                have HB5' := Lib.hid hB5
                have HSA := Lib.hid hSA
                clear d1 hrow5 hB5 hSA
                go_quiet (fail)
                generalize hw6 : World.drewN _ _ = w6
                have hB6 := pbelow_drewN HB5'.out nq
                rw [hw6] at hB6
                have hSA6 : StatAt w6 w5.heap.size v x := by rw [← hw6]; exact HSA.out.below (pbelow_drewN (Below.refl _ _) _)
                have hrow6 := HN1.out.row.below hB6
                have d4 := hrow6.cell (j' + 1) v HV.out
                have hlk := (HN1.out.map.below hB6).look law32 Tryz.underlying99 (zeroCnt _) (pkey32 HU.out)
                rw [cntM_get, HCC.out, hc, show ((0 : Nat) : Int) = 0 from rfl] at hlk
                have HB6 := Lib.hid hB6
                have HT6 := Lib.hid (HT.out.below (ptrans HN1.out.below hB6))
                clear hw6 hB6 hrow6 d2 d3 e0 e1 e2 e3
                obtain ⟨e0, e1, e2, e3, _⟩ := hSA6
                rw [hk] at e1
                rw [hl0] at e2
                have hhr : (heldR t v == 0) = false := by (unfold heldR; rw [HX.out]; have := hc0 hc; simp; omega)
                clear hc
                go_wp2_with (go_at_call 33; (with_reducible refine (t_heldP v w6 HT6.out HU.out).mono ?_); rintro e w7 ⟨rfl, rfl⟩)
                refine ⟨⟨(j' + 1) + 1, by go_num, by omega, HB6.out⟩, by simp [intOf]; omega⟩
              · have hcb0 : ((cc : Int) == 0) = false := by simpa using hc
                go_wp2_with (go_at_call 26; (with_reducible refine (t_statS wr (HT.out.below (ptrans HN1.out.below HBJ.out)) HX.out).mono ?_); rintro e w5 ⟨rfl, hb5⟩; have HB5 := Lib.hid (ptrans HBJ.out (ptrans hb5 (u_alloc1 w5 (statC v x)))); clear hb5)
                have hrow5 := HN1.out.row.below HB5.out
                have d2 := hrow5.cell (j' + 1) v HV.out
                have d3 := hrow5.cell j' v' HV'.out
                obtain ⟨e0, e1, e2, e3, _⟩ := StatAt.new w5 v x
                have hB5 := HB5.out
                have hSA := StatAt.new w5 v x
                unfold statC at d2 d3 e0 e1 e2 e3 hB5 hSA
                rw [hk, hl] at d2 d3 e0 e1 e2 e3 hB5 hSA
                have HB5' := Lib.hid hB5
                have HSA := Lib.hid hSA
                clear d1 hrow5 hB5 hSA
                go_quiet (fail)
                generalize hw6 : World.drewN _ _ = w6
                have hB6 := pbelow_drewN HB5'.out nq
                rw [hw6] at hB6
                have hSA6 : StatAt w6 w5.heap.size v x := by rw [← hw6]; exact HSA.out.below (pbelow_drewN (Below.refl _ _) _)
                have hrow6 := HN1.out.row.below hB6
                have d4 := hrow6.cell (j' + 1) v HV.out
                have hlk := (HN1.out.map.below hB6).look law32 Tryz.underlying99 (zeroCnt _) (pkey32 HU.out)
                rw [cntM_get, HCC.out] at hlk
                have HB6 := Lib.hid hB6
                have HT6 := Lib.hid (HT.out.below (ptrans HN1.out.below hB6))
                clear hw6 hB6 hrow6 d2 d3 e0 e1 e2 e3
                obtain ⟨e0, e1, e2, e3, _⟩ := hSA6
                rw [hk] at e1
                rw [hl] at e2
                go_wp2
                refine ⟨⟨(j' + 1) + 1, by go_num, by omega, HB6.out⟩, by simp [intOf]; omega⟩
            · have hcc1 := hc2 hv1
              subst hcc1
              clear hc1 hc2
              go_wp2_with (go_at_call 26; (with_reducible refine (t_statS wr (HT.out.below (ptrans HN1.out.below HBJ.out)) HX.out).mono ?_); rintro e w5 ⟨rfl, hb5⟩; have HB5 := Lib.hid (ptrans HBJ.out (ptrans hb5 (u_alloc1 w5 (statC v x)))); clear hb5)
              have hrow5 := HN1.out.row.below HB5.out
              have d2 := hrow5.cell (j' + 1) v HV.out
              have d3 := hrow5.cell j' v' HV'.out
              obtain ⟨e0, e1, e2, e3, _⟩ := StatAt.new w5 v x
              have hB5 := HB5.out
              have hSA := StatAt.new w5 v x
              unfold statC at d2 d3 e0 e1 e2 e3 hB5 hSA
              rw [hk, hl] at d2 d3 e0 e1 e2 e3 hB5 hSA
              have HB5' := Lib.hid hB5
              have HSA := Lib.hid hSA
              clear d1 hrow5 hB5 hSA
              go_quiet (fail)
              generalize hw6 : World.drewN _ _ = w6
              have hB6 := pbelow_drewN HB5'.out nq
              rw [hw6] at hB6
              have hSA6 : StatAt w6 w5.heap.size v x := by rw [← hw6]; exact HSA.out.below (pbelow_drewN (Below.refl _ _) _)
              have hrow6 := HN1.out.row.below hB6
              have d4 := hrow6.cell (j' + 1) v HV.out
              have hlk := (HN1.out.map.below hB6).look law32 Tryz.underlying99 (zeroCnt _) (pkey32 HU.out)
              rw [cntM_get, HCC.out] at hlk
              have HB6 := Lib.hid hB6
              have HT6 := Lib.hid (HT.out.below (ptrans HN1.out.below hB6))
              clear hw6 hB6 hrow6 d2 d3 e0 e1 e2 e3
              obtain ⟨e0, e1, e2, e3, _⟩ := hSA6
              rw [hk] at e1
              rw [hl] at e2
              go_wp2
              refine ⟨⟨(j' + 1) + 1, by go_num, by omega, HB6.out⟩, by simp [intOf]; omega⟩
    · have hin : i < n := by omega
      obtain ⟨N1, n1, n2, n3⟩ := HNM.out
      obtain ⟨d, hd⟩ : ∃ d, all[i]? = some d := ⟨all[i]'(by rw [HL.out]; exact hin), List.getElem?_eq_getElem _⟩
      obtain ⟨x, hx⟩ := Option.isSome_iff_exists.1 ((HM.out d).1 (List.mem_of_getElem? hd))
      have hpos := HT.out.pos d x hx
      have HU : Hid (U32 d) := ⟨by omega, by omega⟩
      have HX := Lib.hid hx
      have d1 := n1.row.cell i d hd
      have HN1 := Lib.hid n1
      have HN2 := Lib.hid n2
      have HN3 := Lib.hid n3
      have HD := Lib.hid hd
      obtain ⟨q, hq⟩ : ∃ q, listE t d = q := ⟨_, rfl⟩
      have HQ := Lib.hid hq
      clear n1 n2 n3 hx hpos hd he hq
      by_cases hq0 : q = 0
      · subst hq0
        go_wp2_with (go_at_call 29; (with_reducible refine (t_listP d wr (HT.out.below HN1.out.below) HU.out HN.out).mono ?_); rintro e w3 ⟨A1, k1, L1, rfl, hL1, hn1, hE1, hb1, hA1⟩; rw [HQ.out]; have HL1 := Lib.hid hL1; have HNL := Lib.hid hn1; have HE1 := Lib.hid hE1; have HB1 := Lib.hid hb1; have HA1 := Lib.hid hA1; clear hL1 hn1 hE1 hb1 hA1)
        obtain ⟨m, hm⟩ : ∃ m, L1.length = m := ⟨_, rfl⟩
        have hm6 : m ≤ 60000 := by rw [← hm]; exact HNL.out
        have HM1 := Lib.hid hm
        have HEO : Hid (entsOf t d = L1) := entsOf_spec HL1.out
        have hst2 : Hid (NamIn w w3 Mb B1 all (valsOf (entsOf t) (all.take i)) i L1 A1 0) := ⟨⟨N1, by simpa using HN1.out.later HB1.out, Nat.le_trans HN2.out (Nat.le_add_right _ _)⟩, Nat.zero_le _, HE1.out, fun b hb e => by have := HA1.out b hb; have := HN1.out.map.lt; omega⟩
        rw [hm]
        clear hm
        go_loopw [8] (fun v W => ∃ k : Nat, v = .int .i64 (k : Int) ∧ NamIn w W Mb B1 all (valsOf (entsOf t) (all.take i)) i L1 A1 k) (fun v _ => m - (intOf v).toNat)
        case atStart => exact ⟨0, rfl, hst2.out⟩
        case round =>
          obtain ⟨k, rfl, hin⟩ := hrel
          have hk : k ≤ m := by rw [← HM1.out]; exact hin.le
          have HIN := Lib.hid hin
          clear hin
          by_cases he : k = m
          · subst he
            have HRES : Hid (NamesAt t w wr Mb B1 all (i + 1)) := by
              obtain ⟨⟨N2, g1, g2⟩, _⟩ := HIN.out
              have e : L1.take k = L1 := by rw [← HM1.out, List.take_length]
              rw [e] at g1
              refine ⟨N2, ?_, by omega, fun d' hd' => ?_⟩
              · rw [vals_take _ HD.out, HEO.out]
                exact g1
              · rw [List.take_add_one, HD.out] at hd'
                rcases List.mem_append.1 hd' with h | h
                · exact HN3.out d' h
                · simp at h
                  subst h
                  rw [HEO.out]
                  exact HL1.out
            go_wp2
            refine ⟨⟨i + 1, by go_num, by omega, HRES.out⟩, by simp [intOf]; omega⟩
          · have hk2 : k < m := by omega
            obtain ⟨⟨s, i2⟩, hx⟩ : ∃ x, L1[k]? = some x := ⟨L1[k]'(by rw [HM1.out]; exact hk2), List.getElem?_eq_getElem _⟩
            obtain ⟨b1, rfl, hl1, e1⟩ := HIN.out.ents.at_ (by rw [HM1.out]; omega)
            obtain ⟨a1, a2⟩ := e1 k _ hx
            have hent := (listL_ent HW.out _ _ _).1 ((HL1.out.mem (nameL (s, i2)) i2).1 ⟨(s, i2), List.mem_of_getElem? hx, rfl, rfl⟩)
            obtain ⟨x2, hx2, hi1⟩ : ∃ x, t.n i2 = some x ∧ i2 ≠ 1 := by
              obtain ⟨z, hz, hl⟩ := hent
              obtain ⟨_, h1, _, y', hy, _⟩ := HW.out.ent d z _ _ hz hl
              exact ⟨y', hy, h1⟩
            have hpos := HT.out.pos i2 x2 hx2
            have HU2 : Hid (U32 i2) := ⟨by omega, by omega⟩
            have hi1b : (i2 == 1) = false := by simpa using hi1
            have HX := Lib.hid hx
            have HX2 := Lib.hid hx2
            have HAC := Lib.hid e1
            have HL1' := Lib.hid hl1
            clear hent hx hx2 he hl1 e1 hpos hi1
            rcases (show k = 0 ∨ ∃ j, k = j + 1 from by cases k with | zero => exact .inl rfl | succ j => exact .inr ⟨j, rfl⟩) with hk0 | ⟨j, hj⟩
            · subst hk0
              go_wp2_with (go_at_call 26; (with_reducible refine (t_statS wr (HT.out.below HIN.out.below_) HX2.out).mono ?_); rintro e w5 ⟨rfl, hb5⟩; have HB5 := Lib.hid (ptrans hb5 (u_alloc1 w5 (statC i2 x2))); clear hb5)
              have c1 := (HB5.out.cell (p := ⟨b1, 0 * 2, none⟩) HL1'.out).trans (HAC.out _ _ HX.out).1
              have c2 := (HB5.out.cell (p := ⟨b1, 0 * 2 + 1, none⟩) HL1'.out).trans (HAC.out _ _ HX.out).2
              simp only [Nat.zero_mul, Nat.zero_add] at c1 c2
              unfold statC at c1 c2
              go_quiet (fail)
              clear c1 c2
              generalize hw6 : World.drewN _ _ = w6
              have hB6 : Below wr.heap.size wr w6 := by rw [← hw6]; exact pbelow_drewN HB5.out _
              have HIN6 := Lib.hid (HIN.out.later hB6)
              have c2 := (hB6.cell (p := ⟨b1, 0 * 2 + 1, none⟩) HL1'.out).trans (HAC.out _ _ HX.out).2
              clear hw6 hB6
              obtain ⟨cc, hcc, hlk, W7, hup, hin7⟩ := HIN6.out.count HX.out HU2.out (by omega) HNL.out
              have HIN7 := Lib.hid hin7
              clear hin7
              go_wp2
              refine ⟨⟨0 + 1, by go_num, HIN7.out⟩, by simp [intOf]; omega⟩
            · subst hj
              obtain ⟨⟨s0, i0⟩, hx0⟩ : ∃ x, L1[j]? = some x := ⟨L1[j]'(by rw [HM1.out]; omega), List.getElem?_eq_getElem _⟩
              have hlt : nameL (s0, i0) < nameL (s, i2) := by
                have h1 := List.pairwise_iff_getElem.1 HL1.out.sorted j (j + 1) (by rw [HM1.out]; omega) (by rw [HM1.out]; omega) (by omega)
                rw [(List.getElem?_eq_some_iff.1 hx0).2, (List.getElem?_eq_some_iff.1 HX.out).2] at h1
                exact h1
              have hc1 : Op.bytesLess s.toList s0.toList = false := by
                rw [bytesLess_lt]
                have : ¬ nameL (s, i2) < nameL (s0, i0) := fun h => List.lt_irrefl _ (List.lt_trans h hlt)
                simpa [Go.Sort.ltStr, nameL, Lib.toList_data] using this
              have hc2 : (s.toList == s0.toList) = false := by
                have : nameL (s, i2) ≠ nameL (s0, i0) := fun h => by rw [h] at hlt; exact List.lt_irrefl _ hlt
                simpa [nameL, Lib.toList_data] using this
              have HX0 := Lib.hid hx0
              clear hx0 hlt
              go_wp2_with (go_at_call 26; (with_reducible refine (t_statS wr (HT.out.below HIN.out.below_) HX2.out).mono ?_); rintro e w5 ⟨rfl, hb5⟩; have HB5 := Lib.hid (ptrans hb5 (u_alloc1 w5 (statC i2 x2))); clear hb5)
              have c1 := (HB5.out.cell (p := ⟨b1, (j + 1) * 2, none⟩) HL1'.out).trans (HAC.out _ _ HX.out).1
              have c2 := (HB5.out.cell (p := ⟨b1, (j + 1) * 2 + 1, none⟩) HL1'.out).trans (HAC.out _ _ HX.out).2
              have c3 := (HB5.out.cell (p := ⟨b1, j * 2, none⟩) HL1'.out).trans (HAC.out _ _ HX0.out).1
              unfold statC at c1 c2 c3
              go_quiet (fail)
              clear c1 c2 c3
              generalize hw6 : World.drewN _ _ = w6
              have hB6 : Below wr.heap.size wr w6 := by rw [← hw6]; exact pbelow_drewN HB5.out _
              have HIN6 := Lib.hid (HIN.out.later hB6)
              have c2 := (hB6.cell (p := ⟨b1, (j + 1) * 2 + 1, none⟩) HL1'.out).trans (HAC.out _ _ HX.out).2
              clear hw6 hB6
              obtain ⟨cc, hcc, hlk, W7, hup, hin7⟩ := HIN6.out.count HX.out HU2.out (by omega) HNL.out
              have HIN7 := Lib.hid hin7
              clear hin7
              go_wp2
              refine ⟨⟨j + 1 + 1, by go_num, HIN7.out⟩, by simp [intOf]; omega⟩
      · have hqb : (q == 0) = false := by simpa using hq0
        have hqb2 : (q != 0) = true := by simpa using hq0
        clear hq0
        go_wp2_with (go_at_call 29; (with_reducible refine (t_listP d wr (HT.out.below HN1.out.below) HU.out HN.out).mono ?_); rintro e w3 ⟨A1, k1, L1, rfl, hL1, hn1, hE1, hb1, hA1⟩; rw [HQ.out]; have HL1 := Lib.hid hL1; have HNL := Lib.hid hn1; have HE1 := Lib.hid hE1; have HB1 := Lib.hid hb1; have HA1 := Lib.hid hA1; clear hL1 hn1 hE1 hb1 hA1)
        have HRES : Hid (NamesAt t w w3 Mb B1 all (i + 1)) := by
          have hz : listL t d = fun _ => none := by
            unfold listL
            rw [if_neg]
            rw [HQ.out]
            intro e
            rw [e] at hqb
            cases hqb
          have hL := HL1.out
          rw [hz] at hL
          have hes : entsOf t d = [] := entsOf_spec (by rw [hz]; exact ents_nil)
          refine ⟨N1, ?_, Nat.le_trans HN2.out (Nat.mul_le_mul_right _ (Nat.le_succ _)), fun d' hd' => ?_⟩
          · rw [vals_take _ HD.out, hes]
            simpa using HN1.out.later HB1.out
          · rw [List.take_add_one, HD.out] at hd'
            rcases List.mem_append.1 hd' with h | h
            · exact HN3.out d' h
            · simp at h
              subst h
              rw [hes, hz]
              exact ents_nil
        go_wp2
        refine ⟨⟨i + 1, by go_num, by omega, HRES.out⟩, by simp [intOf]; omega⟩
end
end Go.Proofs.YtpcjbfhgmcioaaaGreat
