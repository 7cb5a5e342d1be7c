/- Whole, walked. -/
import Derived.Test.YtpcnolkdnmolgaaGreatDoorPf00
import Derived.Test.YtpcnolkdnmolgaaGreatDoorPf16
import Derived.Lib.CutLaws
import Derived.Lib.Bytealg
import Derived.Shelf.Strings.Search1
import Derived.Shelf.RegionOpenPlain
import Derived.RangeFuncNested
import Derived.RangeFuncLeaves
import Derived.RangeFuncBox
import Derived.Shelf.Abstract
import Derived.Shelf.RegionOpen
import Derived.OwnWalkIn
import Derived.TacticsInMore
import Derived.LoopNIn
import Derived.LoopIn
import Derived.Maps.AppendAt
import Derived.Sort.BigQuietIn
import Derived.BigQuiet
import Derived.Deep.MidRow
import Derived.Laws.EntriesVeiled
import Derived.Deep.RegionHeld3
namespace Go.Proofs.YtpcnolkdnmolgaaGreatDoor
section
open Go.RowKit Go.Maps
def cntM (l : List Int) : Lit → Option Value
 | .int .u32 v => if l.count v = 0 then none else some (.int .i64 ((l.count v : Nat) : Int))
 | _ => none
theorem cntM_get (l : List Int) (v : Int) : (cntM l (.int .u32 v)).getD (.int .i64 0) = .int .i64 ((l.count v : Nat) : Int) := by
 show (if l.count v = 0 then none else some _ : Option Value).getD _ = _
 split
 · rename_i h; rw [h]; rfl
 · rfl
theorem cntM_snoc (l : List Int) (v : Int) : ∀ kl, WideAt.IsKeyLit kl → updM (cntM l) (.int .u32 v) (.int .i64 (((l.count v : Nat) : Int) + 1)) kl = cntM (l ++ [v]) kl := fun kl _ => by
 cases kl with
 | int q a =>
  cases q <;> try (unfold updM; simp [cntM, Lit.sameKey]; done)
  show updM _ _ _ _ = if (l ++ [v]).count a = 0 then none else some _
  unfold updM
  rw [List.count_append]
  by_cases ha : a = v
  · subst ha
    simp [Lit.sameKey]
  · have hz : List.count a [v] = 0 := by rw [List.count_eq_zero]; simpa using ha
    rw [hz]
    simp [Lit.sameKey, ha, cntM]
 | _ => unfold updM; simp [cntM, Lit.sameKey]
theorem zeroCnt (w : World) : (zeroValue 3).run Tryz.prog w = .ok (.int .i64 0) w := by kernel_rfl
theorem cnt_le (l : List Int) (v : Int) : l.count v ≤ l.length := List.count_le_length
section
variable {t : PT} {w W W' : World} {Mb B1 N N' : Nat} {all l l' : List Int}
theorem all_head (h : WellP t) (hs : all.Pairwise (· < ·)) (hm : ∀ i, i ∈ all ↔ (t.n i).isSome = true) : all[0]? = some 1 := by
 obtain ⟨x, hx, _⟩ := h.root
 have h1 : (1 : Int) ∈ all := (hm 1).2 (by rw [hx]; rfl)
 cases all with
 | nil => cases h1
 | cons a l =>
  rw [List.pairwise_cons] at hs
  obtain ⟨z, hz⟩ := Option.isSome_iff_exists.1 ((hm a).1 (by simp))
  have ha := (h.range a z hz).1
  rcases List.mem_cons.1 h1 with e | e
  · rw [← e]; rfl
  · have := hs.1 1 e
    omega
structure NamAt (w W : World) (Mb B1 N : Nat) (all l : List Int) : Prop where
 map : MapAt W Tryz.prog 29 Mb N (cntM l)
 row : RowAt W B1 all
 below : Below w.heap.size w W
 lt : w.heap.size ≤ Mb
 ne : B1 ≠ Mb
 len : l.length ≤ N
theorem NamAt.later (h : NamAt w W Mb B1 N all l) (hb : Below W.heap.size W W') : NamAt w W' Mb B1 N all l :=
 ⟨h.map.below hb, h.row.below hb, ptrans h.below hb, h.lt, h.ne, h.len⟩
theorem NamAt.turned (h : NamAt w W Mb B1 N all l) (hM : MapAt W' Tryz.prog 29 Mb N' (cntM l')) (ht : W.mapTurned W' Mb) (hl : l'.length ≤ N') : NamAt w W' Mb B1 N' all l' := by
 have hg := ht.grown
 refine ⟨hM, ⟨fun k x hk => ?_, Nat.lt_of_lt_of_le h.row.lt hg.size⟩, ?_, h.lt, h.ne, hl⟩
 · exact hg.cell (h.row.cell k x hk) (fun e => h.ne (by injection e))
 · refine ⟨hg.os.trans h.below.os, hg.tape.trans h.below.tape, hg.output.trans h.below.output, Nat.le_trans h.below.size hg.size, fun c hc2 => ?_⟩
   refine (hg.block c (Nat.lt_of_lt_of_le hc2 h.below.size) fun e => ?_).trans (h.below.block c hc2)
   have := h.lt
   injection e with e
   omega
theorem NamAt.count (h : NamAt w W Mb B1 N all l) {v : Int} (hv : U32 v) (hN : N < 1000000000) :
  (Instr.lookup 46 (.map (some Mb)) (.int .u32 v) false).run Tryz.prog W = .ok (.int .i64 ((l.count v : Nat) : Int)) W ∧
  ∃ W', (Instr.mapUpdate 46 (.map (some Mb)) (.int .u32 v) (.int .i64 (((l.count v : Nat) : Int) + 1))).run Tryz.prog W = .ok () W' ∧ NamAt w W' Mb B1 (N + 1) all (l ++ [v]) ∧ W.mapTurned W' Mb := by
 constructor
 · have := h.map.look law32 Tryz.underlying46 (zeroCnt W) (pkey32 hv)
   rw [cntM_get] at this
   exact this
 · obtain ⟨W', h1, h2, h3⟩ := h.map.update law32 Tryz.underlying46 (by unfold maxLen; omega) (val := .int .i64 (((l.count v : Nat) : Int) + 1)) (pkey32 hv)
   exact ⟨W', h1, h.turned (h2.congr (cntM_snoc l v)) h3 (by have := h.len; simp; omega), h3⟩
theorem vals_take (es : Int → List E) {i : Nat} {d : Int} (h : all[i]? = some d) : valsOf es (all.take (i + 1)) = valsOf es (all.take i) ++ (es d).map fun x => x.2 := by
 unfold valsOf
 rw [List.take_add_one, h, List.flatMap_append]
 simp
def NamesAt (t : PT) (w W : World) (Mb B1 : Nat) (all : List Int) (i : Nat) : Prop :=
 ∃ N, NamAt w W Mb B1 N all (valsOf (entsOf t) (all.take i)) ∧ N ≤ i * 60000 ∧ ∀ d ∈ all.take i, EntsOf (listL t d) (entsOf t d)
structure NamIn (w W : World) (Mb B1 : Nat) (all l0 : List Int) (i : Nat) (L : List E) (A : Option Addr) (k : Nat) : Prop where
 nam : ∃ N, NamAt w W Mb B1 N all (l0 ++ (L.take k).map fun x => x.2) ∧ N ≤ i * 60000 + k
 le : k ≤ L.length
 ents : EntsAt W A L
 ne : ∀ b, A = some ⟨b, 0, none⟩ → b ≠ Mb
theorem NamIn.later {l0 : List Int} {i k : Nat} {L : List E} {A : Option Addr} (h : NamIn w W Mb B1 all l0 i L A k) (hb : Below W.heap.size W W') : NamIn w W' Mb B1 all l0 i L A k := by
 obtain ⟨⟨N, h1, h2⟩, h3, h4, h5⟩ := h
 exact ⟨⟨N, h1.later hb, h2⟩, h3, h4.below hb, h5⟩
theorem NamIn.below_ {l0 : List Int} {i k : Nat} {L : List E} {A : Option Addr} (h : NamIn w W Mb B1 all l0 i L A k) : Below w.heap.size w W := by
 obtain ⟨⟨N, h1, h2⟩, _⟩ := h
 exact h1.below
theorem NamIn.count {l0 : List Int} {i k : Nat} {L : List E} {A : Option Addr} {x : E} (h : NamIn w W Mb B1 all l0 i L A k) (hx : L[k]? = some x) (hv : U32 x.2) (hi : i ≤ 256) (hL : L.length ≤ 60000) :
  ∃ c : Nat, c ≤ 1000000000 ∧ (Instr.lookup 46 (.map (some Mb)) (.int .u32 x.2) false).run Tryz.prog W = .ok (.int .i64 (c : Int)) W ∧
  ∃ W', (Instr.mapUpdate 46 (.map (some Mb)) (.int .u32 x.2) (.int .i64 ((c : Int) + 1))).run Tryz.prog W = .ok () W' ∧ NamIn w W' Mb B1 all l0 i L A (k + 1) := by
 obtain ⟨⟨N, h1, h2⟩, h3, h4, h5⟩ := h
 have hlt := (List.getElem?_eq_some_iff.1 hx).1
 obtain ⟨g1, W', g2, g3, g4⟩ := h1.count hv (by omega)
 refine ⟨_, ?_, g1, W', g2, ⟨⟨N + 1, ?_, by omega⟩, hlt, ⟨fun h0 => ?_⟩, h5⟩⟩
 · refine Nat.le_trans (cnt_le _ _) (Nat.le_trans h1.len ?_)
   omega
 · have e : (L.take (k + 1)).map (fun x => x.2) = (L.take k).map (fun x => x.2) ++ [x.2] := by
    rw [List.take_add_one, hx]
    simp
   rw [e, ← List.append_assoc]
   exact g3
 · obtain ⟨b, rfl, hb, hc⟩ := h4.at_ h0
   have hg := g4.grown
   have hne : some b ≠ some Mb := fun e => h5 b rfl (by injection e)
   exact ⟨b, rfl, Nat.lt_of_lt_of_le hb hg.size, fun j z hz => ⟨hg.cell (hc j z hz).1 hne, hg.cell (hc j z hz).2 hne⟩⟩
end
section
variable {F : Nat → Prop} {P N : Nat} {y : Lay} {t : PT}
set_option maxRecDepth 100000 in
set_option maxHeartbeats 8000000 in
theorem t_whole (w : World) (h : TreeM w F P N y t) (hW : WellP t) (hN : N ≤ 60000) :
  Calls Tryz.prog 15 #[.pointer (some ⟨P, 0, none⟩)] w fun e w' => e = .returned (.bool true) ∧ Below w.heap.size w w' := by
 have HT := zz h
 have HW := zz hW
 have HN := zz hN
 have HNE : Hid (∃ i, (t.n i).isSome = true) := by
  obtain ⟨x, hx, _⟩ := hW.root
  exact ⟨1, by rw [hx]; rfl⟩
 clear h hW hN
 have hmm := @run_makeMap Tryz.prog
 go_enter Tryz.func15, Tryz.ntmps15
 go_wp2_with (go_at_call 16; (with_reducible refine (t_allP w HT.out HN.out HNE.out).mono ?_); rintro e w1 ⟨B1, c1, all, rfl, hs, hm, hr, hg, hb⟩; have HS := zz hs; have HM := zz hm; have HR := zz hr; have HB := zz hb; have HG := zz hg; clear hs hm hr hg hb)
 have hlen := all_len HW.out HS.out HM.out
 obtain ⟨n, hn⟩ : ∃ n, all.length = n := ⟨_, rfl⟩
 have HL := zz hn
 rw [hn] at hlen ⊢
 clear hn
 obtain ⟨Mb, hMb⟩ : ∃ Mb, w1.heap.size = Mb := ⟨_, rfl⟩
 have HMb := zz hMb
 have hst : Hid (NamesAt t w (w1.alloc (.map #[] 0)) Mb B1 all 0) := by
  rw [← hMb]
  refine ⟨0, ⟨?_, ?_, ?_, ?_, ?_, Nat.zero_le _⟩, Nat.zero_le _, fun d hd => by simp at hd⟩
  · exact (MapAt.made w1 _ _).congr fun kl _ => by cases kl with | int q a => cases q <;> rfl | _ => rfl
  · exact HR.out.below (u_alloc1 w1 _)
  · exact ptrans HB.out (u_alloc1 w1 _)
  · exact HB.out.size
  · have := HR.out.lt; omega
 rw [hMb]
 clear hMb
 go_loopw [5] (fun v W => ∃ i : Nat, v = .int .i64 (i : Int) ∧ i ≤ n ∧ NamesAt t w W Mb B1 all i) (fun v _ => n - (intOf v).toNat)
 case atStart => exact ⟨0, rfl, Nat.zero_le _, hst.out⟩
 case round =>
  obtain ⟨i, rfl, hi, hnm⟩ := hrel
  have HNM := zz hnm
  clear hnm hst
  by_cases he : i = n
  · subst he
    have hEall : ∀ d ∈ all, EntsOf (listL t d) (entsOf t d) := by
     obtain ⟨_, _, _, h3⟩ := HNM.out
     rw [← HL.out, List.take_length] at h3
     exact h3
    have HEA := zz hEall
    obtain ⟨N1, n1, n2⟩ : ∃ N1, NamAt w wr Mb B1 N1 all (valsOf (entsOf t) all) ∧ N1 ≤ i * 60000 := by
     obtain ⟨N1, h1, h2, _⟩ := HNM.out
     rw [← HL.out, List.take_length] at h1
     exact ⟨N1, h1, h2⟩
    have HN1 := zz n1
    have HN2 := zz n2
    clear hEall n1 n2
    go_wp2
    go_loopw [11] (fun v W => ∃ j : Nat, v = .int .i64 (j : Int) ∧ j ≤ i ∧ Below wr.heap.size wr W) (fun v _ => i - (intOf v).toNat)
    case atStart => exact ⟨0, rfl, Nat.zero_le _, Below.refl _ _⟩
    case round =>
     obtain ⟨j, rfl, hj, hBj⟩ := hrel
     have HBJ := zz hBj
     clear hBj
     by_cases he : j = i
     · subst he
       have h0 := all_head HW.out HS.out HM.out
       have hlp : 0 < j := by rw [← HL.out]; exact (List.getElem?_eq_some_iff.1 h0).1
       have c0 := (HN1.out.row.below HBJ.out).cell 0 1 h0
       have HDN := zz (t_down wr (HT.out.below (ptrans HN1.out.below HBJ.out)) HW.out HN.out all HS.out HM.out)
       rw [HL.out] at HDN
       clear h0
       go_wp2_with (go_at_call 49; (with_reducible refine HDN.out.mono ?_); rintro e w9 ⟨rfl, hb9⟩; have HB9 := zz hb9; clear hb9)
       go_ret
       exact ⟨rfl, ptrans (ptrans HN1.out.below HBJ.out) HB9.out⟩
     · have hji : j < i := by omega
       obtain ⟨v, hv⟩ : ∃ v, all[j]? = some v := ⟨all[j]'(by rw [HL.out]; exact hji), List.getElem?_eq_getElem _⟩
       obtain ⟨x, hx⟩ := Option.isSome_iff_exists.1 ((HM.out v).1 (List.mem_of_getElem? hv))
       have hpos := HT.out.pos v x hx
       have HU : Hid (U32 v) := ⟨by omega, by omega⟩
       have HX := zz hx
       have hrow := HN1.out.row.below HBJ.out
       have d1 := hrow.cell j v hv
       obtain ⟨cc, hcc⟩ : ∃ cc, (valsOf (entsOf t) all).count v = cc := ⟨_, rfl⟩
       have hcb : cc ≤ 1000000000 := by
        have h1 := cnt_le (valsOf (entsOf t) all) v
        have h2 := HN1.out.len
        have h3 := HN2.out
        omega
       have HCC := zz hcc
       have HV := zz hv
       have hcase : (x.kind = 1 ∧ x.links = (cc : Int) ∧ v ≠ 1 ∧ (cc = 0 → 0 < x.held)) ∨ (x.kind = 2 ∧ x.links = 1 ∧ cc ≤ 1 ∧ (v ≠ 1 → cc = 1)) := by
        rcases HW.out.kind v x hx with hk | hk
        · have h1 := count_file HW.out HS.out HM.out HEA.out hx hk
          rw [hcc] at h1
          refine .inl ⟨hk, h1.symm, fun e => ?_, fun e => HW.out.there v x hx hk (by rw [← h1, e]; rfl)⟩
          obtain ⟨z, hz, hzk, _⟩ := HW.out.root
          rw [e, hz] at hx
          cases hx
          omega
        · obtain ⟨h1, h2⟩ := count_dir HW.out HS.out HM.out HEA.out hx hk
          rw [hcc] at h1 h2
          exact .inr ⟨hk, (HW.out.dirs v x hx hk).1, h1, fun h => by have := h2 h; omega⟩
       have hj0 : j = 0 → v = 1 := fun e => by
        subst e
        have := all_head HW.out HS.out HM.out
        rw [hv] at this
        injection this
       have hprev : ∀ j', j = j' + 1 → ∃ v', all[j']? = some v' ∧ v' < v ∧ v ≠ 1 := fun j' e => by
        subst e
        obtain ⟨v', hv'⟩ : ∃ v', all[j']? = some v' := ⟨all[j']'(by rw [HL.out]; omega), List.getElem?_eq_getElem _⟩
        have h1 := List.pairwise_iff_getElem.1 HS.out j' (j' + 1) (by rw [HL.out]; omega) (by rw [HL.out]; omega) (by omega)
        rw [(List.getElem?_eq_some_iff.1 hv').2, (List.getElem?_eq_some_iff.1 hv).2] at h1
        obtain ⟨z, hz⟩ := Option.isSome_iff_exists.1 ((HM.out v').1 (List.mem_of_getElem? hv'))
        have := (HW.out.range v' z hz).1
        exact ⟨v', hv', h1, by omega⟩
       clear hcc hx hpos hrow hv he
       rcases (show j = 0 ∨ ∃ j', j = j' + 1 from by cases j with | zero => exact .inl rfl | succ j => exact .inr ⟨j, rfl⟩) with hz0 | ⟨j', hz1⟩
       · obtain rfl := hj0 hz0
         subst hz0
         rcases hcase with ⟨_, _, hn1, _⟩ | ⟨hk, hl, hc1, _⟩
         · exact absurd rfl hn1
         · clear hj0 hprev
           have hcg : decide ((cc : Int) > 1) = false := by simp; omega
           go_wp2_with (go_at_call 48; (with_reducible refine (t_statS wr (HT.out.below (ptrans HN1.out.below HBJ.out)) HX.out).mono ?_); rintro e w5 ⟨rfl, hb5⟩; have HB5 := zz (ptrans HBJ.out (ptrans hb5 (u_alloc1 w5 (statC 1 x)))); clear hb5)
           have hrow5 := HN1.out.row.below HB5.out
           have d2 := hrow5.cell 0 1 HV.out
           obtain ⟨e0, e1, e2, e3, _⟩ := StatAt.new w5 1 x
           have hB5 := HB5.out
           have hSA := StatAt.new w5 1 x
           unfold statC at d2 e0 e1 e2 e3 hB5 hSA
           rw [hk, hl] at d2 e0 e1 e2 e3 hB5 hSA
           have HB5' := zz hB5
           have HSA := zz hSA
           clear d1 hrow5 hB5 hSA
           go_quiet (fail)
           generalize hw6 : World.drewN _ _ = w6
           have hB6 := pbelow_drewN HB5'.out nq
           rw [hw6] at hB6
           have hSA6 : StatAt w6 w5.heap.size 1 x := by rw [← hw6]; exact HSA.out.below (pbelow_drewN (Below.refl _ _) _)
           have hrow6 := HN1.out.row.below hB6
           have d4 := hrow6.cell 0 1 HV.out
           have hlk := (HN1.out.map.below hB6).look law32 Tryz.underlying46 (zeroCnt _) (pkey32 HU.out)
           rw [cntM_get, HCC.out] at hlk
           have HB6 := zz hB6
           have HT6 := zz (HT.out.below (ptrans HN1.out.below hB6))
           clear hw6 hB6 hrow6 d2 e0 e1 e2 e3
           obtain ⟨e0, e1, e2, e3, _⟩ := hSA6
           rw [hk] at e1
           rw [hl] at e2
           go_wp2
           refine ⟨⟨0 + 1, by go_num, by omega, HB6.out⟩, by simp [intOf]; omega⟩
       · obtain ⟨v', hv', hvv, hv1⟩ := hprev j' hz1
         subst hz1
         have hv1b : (v == 1) = false := by simpa using hv1
         have HV' := zz hv'
         clear hv' hj0 hprev
         rcases hcase with ⟨hk, hl, _, hc0⟩ | ⟨hk, hl, hc1, hc2⟩
         · by_cases hc : cc = 0
           · have hl0 : x.links = 0 := by rw [hl, hc]; rfl
             clear hl
             go_wp2_with (go_at_call 48; (with_reducible refine (t_statS wr (HT.out.below (ptrans HN1.out.below HBJ.out)) HX.out).mono ?_); rintro e w5 ⟨rfl, hb5⟩; have HB5 := zz (ptrans HBJ.out (ptrans hb5 (u_alloc1 w5 (statC v x)))); clear hb5)
             have hrow5 := HN1.out.row.below HB5.out
             have d2 := hrow5.cell (j' + 1) v HV.out
             have d3 := hrow5.cell j' v' HV'.out
             obtain ⟨e0, e1, e2, e3, _⟩ := StatAt.new w5 v x
             have hB5 := HB5.out
             have hSA := StatAt.new w5 v x
             unfold statC at d2 d3 e0 e1 e2 e3 hB5 hSA
             rw [hk, hl0] at d2 d3 e0 e1 e2 e3 hB5 hSA
             have HB5' := zz hB5
             have HSA := zz hSA
             clear d1 hrow5 hB5 hSA
             go_quiet (fail)
             generalize hw6 : World.drewN _ _ = w6
             have hB6 := pbelow_drewN HB5'.out nq
             rw [hw6] at hB6
             have hSA6 : StatAt w6 w5.heap.size v x := by rw [← hw6]; exact HSA.out.below (pbelow_drewN (Below.refl _ _) _)
             have hrow6 := HN1.out.row.below hB6
             have d4 := hrow6.cell (j' + 1) v HV.out
             have hlk := (HN1.out.map.below hB6).look law32 Tryz.underlying46 (zeroCnt _) (pkey32 HU.out)
             rw [cntM_get, HCC.out, hc, show ((0 : Nat) : Int) = 0 from rfl] at hlk
             have HB6 := zz hB6
             have HT6 := zz (HT.out.below (ptrans HN1.out.below hB6))
             clear hw6 hB6 hrow6 d2 d3 e0 e1 e2 e3
             obtain ⟨e0, e1, e2, e3, _⟩ := hSA6
             rw [hk] at e1
             rw [hl0] at e2
             have hhr : (heldR t v == 0) = false := by (unfold heldR; rw [HX.out]; have := hc0 hc; simp; omega)
             clear hc
             go_wp2_with (go_at_call 17; (with_reducible refine (t_heldP v w6 HT6.out HU.out).mono ?_); rintro e w7 ⟨rfl, rfl⟩)
             refine ⟨⟨(j' + 1) + 1, by go_num, by omega, HB6.out⟩, by simp [intOf]; omega⟩
           · have hcb0 : ((cc : Int) == 0) = false := by simpa using hc
             go_wp2_with (go_at_call 48; (with_reducible refine (t_statS wr (HT.out.below (ptrans HN1.out.below HBJ.out)) HX.out).mono ?_); rintro e w5 ⟨rfl, hb5⟩; have HB5 := zz (ptrans HBJ.out (ptrans hb5 (u_alloc1 w5 (statC v x)))); clear hb5)
             have hrow5 := HN1.out.row.below HB5.out
             have d2 := hrow5.cell (j' + 1) v HV.out
             have d3 := hrow5.cell j' v' HV'.out
             obtain ⟨e0, e1, e2, e3, _⟩ := StatAt.new w5 v x
             have hB5 := HB5.out
             have hSA := StatAt.new w5 v x
             unfold statC at d2 d3 e0 e1 e2 e3 hB5 hSA
             rw [hk, hl] at d2 d3 e0 e1 e2 e3 hB5 hSA
             have HB5' := zz hB5
             have HSA := zz hSA
             clear d1 hrow5 hB5 hSA
             go_quiet (fail)
             generalize hw6 : World.drewN _ _ = w6
             have hB6 := pbelow_drewN HB5'.out nq
             rw [hw6] at hB6
             have hSA6 : StatAt w6 w5.heap.size v x := by rw [← hw6]; exact HSA.out.below (pbelow_drewN (Below.refl _ _) _)
             have hrow6 := HN1.out.row.below hB6
             have d4 := hrow6.cell (j' + 1) v HV.out
             have hlk := (HN1.out.map.below hB6).look law32 Tryz.underlying46 (zeroCnt _) (pkey32 HU.out)
             rw [cntM_get, HCC.out] at hlk
             have HB6 := zz hB6
             have HT6 := zz (HT.out.below (ptrans HN1.out.below hB6))
             clear hw6 hB6 hrow6 d2 d3 e0 e1 e2 e3
             obtain ⟨e0, e1, e2, e3, _⟩ := hSA6
             rw [hk] at e1
             rw [hl] at e2
             go_wp2
             refine ⟨⟨(j' + 1) + 1, by go_num, by omega, HB6.out⟩, by simp [intOf]; omega⟩
         · have hcc1 := hc2 hv1
           subst hcc1
           clear hc1 hc2
           go_wp2_with (go_at_call 48; (with_reducible refine (t_statS wr (HT.out.below (ptrans HN1.out.below HBJ.out)) HX.out).mono ?_); rintro e w5 ⟨rfl, hb5⟩; have HB5 := zz (ptrans HBJ.out (ptrans hb5 (u_alloc1 w5 (statC v x)))); clear hb5)
           have hrow5 := HN1.out.row.below HB5.out
           have d2 := hrow5.cell (j' + 1) v HV.out
           have d3 := hrow5.cell j' v' HV'.out
           obtain ⟨e0, e1, e2, e3, _⟩ := StatAt.new w5 v x
           have hB5 := HB5.out
           have hSA := StatAt.new w5 v x
           unfold statC at d2 d3 e0 e1 e2 e3 hB5 hSA
           rw [hk, hl] at d2 d3 e0 e1 e2 e3 hB5 hSA
           have HB5' := zz hB5
           have HSA := zz hSA
           clear d1 hrow5 hB5 hSA
           go_quiet (fail)
           generalize hw6 : World.drewN _ _ = w6
           have hB6 := pbelow_drewN HB5'.out nq
           rw [hw6] at hB6
           have hSA6 : StatAt w6 w5.heap.size v x := by rw [← hw6]; exact HSA.out.below (pbelow_drewN (Below.refl _ _) _)
           have hrow6 := HN1.out.row.below hB6
           have d4 := hrow6.cell (j' + 1) v HV.out
           have hlk := (HN1.out.map.below hB6).look law32 Tryz.underlying46 (zeroCnt _) (pkey32 HU.out)
           rw [cntM_get, HCC.out] at hlk
           have HB6 := zz hB6
           have HT6 := zz (HT.out.below (ptrans HN1.out.below hB6))
           clear hw6 hB6 hrow6 d2 d3 e0 e1 e2 e3
           obtain ⟨e0, e1, e2, e3, _⟩ := hSA6
           rw [hk] at e1
           rw [hl] at e2
           go_wp2
           refine ⟨⟨(j' + 1) + 1, by go_num, by omega, HB6.out⟩, by simp [intOf]; omega⟩
  · have hin : i < n := by omega
    obtain ⟨N1, n1, n2, n3⟩ := HNM.out
    obtain ⟨d, hd⟩ : ∃ d, all[i]? = some d := ⟨all[i]'(by rw [HL.out]; exact hin), List.getElem?_eq_getElem _⟩
    obtain ⟨x, hx⟩ := Option.isSome_iff_exists.1 ((HM.out d).1 (List.mem_of_getElem? hd))
    have hpos := HT.out.pos d x hx
    have HU : Hid (U32 d) := ⟨by omega, by omega⟩
    have HX := zz hx
    have d1 := n1.row.cell i d hd
    have HN1 := zz n1
    have HN2 := zz n2
    have HN3 := zz n3
    have HD := zz hd
    obtain ⟨q, hq⟩ : ∃ q, listE t d = q := ⟨_, rfl⟩
    have HQ := zz hq
    clear n1 n2 n3 hx hpos hd he hq
    by_cases hq0 : q = 0
    · subst hq0
      go_wp2_with (go_at_call 47; (with_reducible refine (t_listP d wr (HT.out.below HN1.out.below) HU.out HN.out).mono ?_); rintro e w3 ⟨A1, k1, L1, rfl, hL1, hn1, hE1, hb1, hA1⟩; rw [HQ.out]; have HL1 := zz hL1; have HNL := zz hn1; have HE1 := zz hE1; have HB1 := zz hb1; have HA1 := zz hA1; clear hL1 hn1 hE1 hb1 hA1)
      obtain ⟨m, hm⟩ : ∃ m, L1.length = m := ⟨_, rfl⟩
      have hm6 : m ≤ 60000 := by rw [← hm]; exact HNL.out
      have HM1 := zz hm
      have HEO : Hid (entsOf t d = L1) := entsOf_spec HL1.out
      have hst2 : Hid (NamIn w w3 Mb B1 all (valsOf (entsOf t) (all.take i)) i L1 A1 0) := ⟨⟨N1, by simpa using HN1.out.later HB1.out, Nat.le_trans HN2.out (Nat.le_add_right _ _)⟩, Nat.zero_le _, HE1.out, fun b hb e => by have := HA1.out b hb; have := HN1.out.map.lt; omega⟩
      rw [hm]
      clear hm
      go_loopw [8] (fun v W => ∃ k : Nat, v = .int .i64 (k : Int) ∧ NamIn w W Mb B1 all (valsOf (entsOf t) (all.take i)) i L1 A1 k) (fun v _ => m - (intOf v).toNat)
      case atStart => exact ⟨0, rfl, hst2.out⟩
      case round =>
       obtain ⟨k, rfl, hin⟩ := hrel
       have hk : k ≤ m := by rw [← HM1.out]; exact hin.le
       have HIN := zz hin
       clear hin
       by_cases he : k = m
       · subst he
         have HRES : Hid (NamesAt t w wr Mb B1 all (i + 1)) := by
          obtain ⟨⟨N2, g1, g2⟩, _⟩ := HIN.out
          have e : L1.take k = L1 := by rw [← HM1.out, List.take_length]
          rw [e] at g1
          refine ⟨N2, ?_, by omega, fun d' hd' => ?_⟩
          · rw [vals_take _ HD.out, HEO.out]
            exact g1
          · rw [List.take_add_one, HD.out] at hd'
            rcases List.mem_append.1 hd' with h | h
            · exact HN3.out d' h
            · simp at h
              subst h
              rw [HEO.out]
              exact HL1.out
         go_wp2
         refine ⟨⟨i + 1, by go_num, by omega, HRES.out⟩, by simp [intOf]; omega⟩
       · have hk2 : k < m := by omega
         obtain ⟨⟨s, i2⟩, hx⟩ : ∃ x, L1[k]? = some x := ⟨L1[k]'(by rw [HM1.out]; exact hk2), List.getElem?_eq_getElem _⟩
         obtain ⟨b1, rfl, hl1, e1⟩ := HIN.out.ents.at_ (by rw [HM1.out]; omega)
         obtain ⟨a1, a2⟩ := e1 k _ hx
         have hent := (listL_ent HW.out _ _ _).1 ((HL1.out.mem (nameL (s, i2)) i2).1 ⟨(s, i2), List.mem_of_getElem? hx, rfl, rfl⟩)
         obtain ⟨x2, hx2, hi1⟩ : ∃ x, t.n i2 = some x ∧ i2 ≠ 1 := by
          obtain ⟨z, hz, hl⟩ := hent
          obtain ⟨_, h1, _, y', hy, _⟩ := HW.out.ent d z _ _ hz hl
          exact ⟨y', hy, h1⟩
         have hpos := HT.out.pos i2 x2 hx2
         have HU2 : Hid (U32 i2) := ⟨by omega, by omega⟩
         have hi1b : (i2 == 1) = false := by simpa using hi1
         have HX := zz hx
         have HX2 := zz hx2
         have HAC := zz e1
         have HL1' := zz hl1
         clear hent hx hx2 he hl1 e1 hpos hi1
         rcases (show k = 0 ∨ ∃ j, k = j + 1 from by cases k with | zero => exact .inl rfl | succ j => exact .inr ⟨j, rfl⟩) with hk0 | ⟨j, hj⟩
         · subst hk0
           go_wp2_with (go_at_call 48; (with_reducible refine (t_statS wr (HT.out.below HIN.out.below_) HX2.out).mono ?_); rintro e w5 ⟨rfl, hb5⟩; have HB5 := zz (ptrans hb5 (u_alloc1 w5 (statC i2 x2))); clear hb5)
           have c1 := (HB5.out.cell (p := ⟨b1, 0 * 2, none⟩) HL1'.out).trans (HAC.out _ _ HX.out).1
           have c2 := (HB5.out.cell (p := ⟨b1, 0 * 2 + 1, none⟩) HL1'.out).trans (HAC.out _ _ HX.out).2
           simp only [Nat.zero_mul, Nat.zero_add] at c1 c2
           unfold statC at c1 c2
           go_quiet (fail)
           clear c1 c2
           generalize hw6 : World.drewN _ _ = w6
           have hB6 : Below wr.heap.size wr w6 := by rw [← hw6]; exact pbelow_drewN HB5.out _
           have HIN6 := zz (HIN.out.later hB6)
           have c2 := (hB6.cell (p := ⟨b1, 0 * 2 + 1, none⟩) HL1'.out).trans (HAC.out _ _ HX.out).2
           clear hw6 hB6
           obtain ⟨cc, hcc, hlk, W7, hup, hin7⟩ := HIN6.out.count HX.out HU2.out (by omega) HNL.out
           have HIN7 := zz hin7
           clear hin7
           go_wp2
           refine ⟨⟨0 + 1, by go_num, HIN7.out⟩, by simp [intOf]; omega⟩
         · subst hj
           obtain ⟨⟨s0, i0⟩, hx0⟩ : ∃ x, L1[j]? = some x := ⟨L1[j]'(by rw [HM1.out]; omega), List.getElem?_eq_getElem _⟩
           have hlt : nameL (s0, i0) < nameL (s, i2) := by
            have h1 := List.pairwise_iff_getElem.1 HL1.out.sorted j (j + 1) (by rw [HM1.out]; omega) (by rw [HM1.out]; omega) (by omega)
            rw [(List.getElem?_eq_some_iff.1 hx0).2, (List.getElem?_eq_some_iff.1 HX.out).2] at h1
            exact h1
           have hc1 : Op.bytesLess s.toList s0.toList = false := by
            rw [bytesLess_lt]
            have : ¬ nameL (s, i2) < nameL (s0, i0) := fun h => List.lt_irrefl _ (List.lt_trans h hlt)
            simpa [Go.Sort.ltStr, nameL, Lib.toList_data] using this
           have hc2 : (s.toList == s0.toList) = false := by
            have : nameL (s, i2) ≠ nameL (s0, i0) := fun h => by rw [h] at hlt; exact List.lt_irrefl _ hlt
            simpa [nameL, Lib.toList_data] using this
           have HX0 := zz hx0
           clear hx0 hlt
           go_wp2_with (go_at_call 48; (with_reducible refine (t_statS wr (HT.out.below HIN.out.below_) HX2.out).mono ?_); rintro e w5 ⟨rfl, hb5⟩; have HB5 := zz (ptrans hb5 (u_alloc1 w5 (statC i2 x2))); clear hb5)
           have c1 := (HB5.out.cell (p := ⟨b1, (j + 1) * 2, none⟩) HL1'.out).trans (HAC.out _ _ HX.out).1
           have c2 := (HB5.out.cell (p := ⟨b1, (j + 1) * 2 + 1, none⟩) HL1'.out).trans (HAC.out _ _ HX.out).2
           have c3 := (HB5.out.cell (p := ⟨b1, j * 2, none⟩) HL1'.out).trans (HAC.out _ _ HX0.out).1
           unfold statC at c1 c2 c3
           go_quiet (fail)
           clear c1 c2 c3
           generalize hw6 : World.drewN _ _ = w6
           have hB6 : Below wr.heap.size wr w6 := by rw [← hw6]; exact pbelow_drewN HB5.out _
           have HIN6 := zz (HIN.out.later hB6)
           have c2 := (hB6.cell (p := ⟨b1, (j + 1) * 2 + 1, none⟩) HL1'.out).trans (HAC.out _ _ HX.out).2
           clear hw6 hB6
           obtain ⟨cc, hcc, hlk, W7, hup, hin7⟩ := HIN6.out.count HX.out HU2.out (by omega) HNL.out
           have HIN7 := zz hin7
           clear hin7
           go_wp2
           refine ⟨⟨j + 1 + 1, by go_num, HIN7.out⟩, by simp [intOf]; omega⟩
    · have hqb : (q == 0) = false := by simpa using hq0
      have hqb2 : (q != 0) = true := by simpa using hq0
      clear hq0
      go_wp2_with (go_at_call 47; (with_reducible refine (t_listP d wr (HT.out.below HN1.out.below) HU.out HN.out).mono ?_); rintro e w3 ⟨A1, k1, L1, rfl, hL1, hn1, hE1, hb1, hA1⟩; rw [HQ.out]; have HL1 := zz hL1; have HNL := zz hn1; have HE1 := zz hE1; have HB1 := zz hb1; have HA1 := zz hA1; clear hL1 hn1 hE1 hb1 hA1)
      have HRES : Hid (NamesAt t w w3 Mb B1 all (i + 1)) := by
       have hz : listL t d = fun _ => none := by
        unfold listL
        rw [if_neg]
        rw [HQ.out]
        intro e
        rw [e] at hqb
        cases hqb
       have hL := HL1.out
       rw [hz] at hL
       have hes : entsOf t d = [] := entsOf_spec (by rw [hz]; exact ents_nil)
       refine ⟨N1, ?_, Nat.le_trans HN2.out (Nat.mul_le_mul_right _ (Nat.le_succ _)), fun d' hd' => ?_⟩
       · rw [vals_take _ HD.out, hes]
         simpa using HN1.out.later HB1.out
       · rw [List.take_add_one, HD.out] at hd'
         rcases List.mem_append.1 hd' with h | h
         · exact HN3.out d' h
         · simp at h
           subst h
           rw [hes, hz]
           exact ents_nil
      go_wp2
      refine ⟨⟨i + 1, by go_num, by omega, HRES.out⟩, by simp [intOf]; omega⟩
end
end

section
open Go.RowKit Go.Maps
def strokeI (s : ByteArray) : Int := Lib.indexByte s.data.toList 47
set_option maxRecDepth 100000 in
theorem t_ixByte (s : ByteArray) (w : World) : Calls Tryz.prog 276 #[.string s, .int .u8 47] w fun e w' => e = .returned (.int .i64 (strokeI s)) ∧ w = w' := by
 go_enter Tryz.func276, Tryz.ntmps276
 go_wp2
 rw [run_callFunc_extern Tryz.func280 (by kernel_rfl) (by kernel_rfl) (by kernel_rfl) (e := Extern.BytealgIndexByte.indexByte) (by kernel_rfl), Lib.run_indexByteString]
 simp only [Result.andThen]
 rw [Oper.upon_value]
 go_wp2
 go_ret
 exact ⟨rfl, rfl⟩
abbrev stroke : ByteArray := ⟨#[47]⟩
set_option maxRecDepth 100000 in
set_option maxHeartbeats 2000000 in
theorem t_ix (s : ByteArray) (w : World) : Calls Tryz.prog 269 #[.string s, .string stroke] w fun e w' => e = .returned (.int .i64 (strokeI s)) ∧ w = w' := by
 by_cases h : s.data.toList = [47]
 · have h2 : ([47] == s.toList) = true := by rw [ByteArray.toList_eq, h]; rfl
   have h3 : strokeI s = 0 := by unfold strokeI; rw [h]; rfl
   rw [h3]
   go_enter Tryz.func269, Tryz.ntmps269
   go_wp2_with (go_at_call 276; refine (t_ixByte s _).mono ?_; rintro e w' ⟨rfl, rfl⟩)
   go_ret
   exact ⟨rfl, rfl⟩
 · have h2 : ([47] == s.toList) = false := by
    rw [ByteArray.toList_eq]
    cases hb : ([47] == s.data.toList) with
    | false => rfl
    | true => exact absurd (eq_of_beq hb).symm h
   go_enter Tryz.func269, Tryz.ntmps269
   go_wp2_with (go_at_call 276; refine (t_ixByte s _).mono ?_; rintro e w' ⟨rfl, rfl⟩)
   go_ret
   exact ⟨rfl, rfl⟩
def cutS (s : ByteArray) : ByteArray × ByteArray × Bool := if strokeI s = -1 then (s, ByteArray.empty, false) else (s.extract 0 (strokeI s).toNat, s.extract ((strokeI s).toNat + 1) s.size, true)
theorem stroke_range : ∀ l : List UInt8, Lib.indexByte l 47 = -1 ∨ (0 ≤ Lib.indexByte l 47 ∧ Lib.indexByte l 47 < l.length)
 | [] => .inl rfl
 | b :: l => by
  unfold Lib.indexByte
  rcases stroke_range l with h | h
  · by_cases c : (b == 47) = true
    · rw [if_pos c]; right; simp
    · rw [if_neg c, h]; left; rfl
  · by_cases c : (b == 47) = true
    · rw [if_pos c]; right; simp
    · rw [if_neg c, if_neg (by simp; omega)]; right; simp; omega
set_option maxRecDepth 100000 in
set_option maxHeartbeats 2000000 in
theorem t_cut (s : ByteArray) (hs : s.size ≤ 100000) (w : World) : Calls Tryz.prog 237 #[.string s, .string stroke] w fun e w' => e = .returned (.tuple #[.string (cutS s).1, .string (cutS s).2.1, .bool (cutS s).2.2]) ∧ ∃ n, w' = w.drewN n := by
 rcases stroke_range s.data.toList with h | ⟨h1, h2⟩
 · have hi : strokeI s = -1 := h
   have hc : cutS s = (s, ByteArray.empty, false) := by unfold cutS; rw [if_pos hi]
   rw [hc]
   have T := fun W => t_ix s W
   rw [hi] at T
   go_enter Tryz.func237, Tryz.ntmps237
   go_wp2_with (go_at_call 269; refine (T _).mono ?_; rintro e w' ⟨rfl, rfl⟩)
   go_ret3
   exact ⟨rfl, 0, rfl⟩
 · obtain ⟨i, hi⟩ : ∃ i : Nat, strokeI s = i := ⟨(strokeI s).toNat, by unfold strokeI; omega⟩
   have hlt : i < s.size := by
    have : strokeI s < s.data.toList.length := h2
    have h3 : s.data.toList.length = s.size := by simp
    omega
   have hc : cutS s = (s.extract 0 i, s.extract (i + 1) s.size, true) := by unfold cutS; rw [hi, if_neg (by omega)]; rfl
   rw [hc]
   have T := fun W => t_ix s W
   rw [hi] at T
   have c1 : (0 : Int) ≤ (i : Int) := by omega
   have c2 : (i : Int) ≤ s.size := by omega
   have c4 : (i : Int) + 1 ≤ s.size := by omega
   have mixed : Tryz.prog.follows Departure.mixedOrders = true := by kernel_rfl
   have hwr : IntKind.i64.wrap ((i : Int) + 1) = (i : Int) + 1 := IntWalk.i64_in _ (by omega)
   go_enter Tryz.func237, Tryz.ntmps237
   go_wp2_with (go_at_call 269; refine (T _).mono ?_; rintro e w' ⟨rfl, rfl⟩)
   go_region_o
   go_wp2
   go_ret3
   exact ⟨rfl, 1, rfl⟩
end

section
open Go.RowKit
def SeqB {α : Type} (F : Fence) (n : Nat) (P : Program) (g : Nat) (lb : Array Value) (encs : α → Array Value) (Kp : World → World → Prop) (Bp : Nat) (S Sp : List α → Prop) (N : Nat) (w : World) : Prop :=
 ∀ (l : Nat) (J Jx : List α → World → Prop) (W : World), Below w.heap.size w W → (∀ s A C, J s A → A.grownBy C (some Bp) → J s C) → (∀ s A C, Jx s A → A.grownBy C (some Bp) → Jx s C) →
  (∀ pre x W1, J pre W1 → pre.length < N → YieldAt F (n - 1) P l (encs x) W1 fun e W' =>
   (e = .returned (.bool true) ∧ J (pre ++ [x]) W' ∧ Kp W1 W') ∨ (e = .returned (.bool false) ∧ Jx (pre ++ [x]) W')) →
  J [] W →
  CallsIn F n P g (#[.func (.yield l) #[] #[]] ++ lb) W fun e W' => (∃ v, e = .returned v) ∧ ((∃ xs, S xs ∧ J xs W') ∨ (∃ pre, Sp pre ∧ Jx pre W'))
section
variable {F : Fence} {n : Nat} {P : Program}
theorem wpIn_rangeB {α : Type} {g : Operand} {ps : Array Tmp} {assign body : Code} {Q : Exit → Act → World → Prop} {a : Act} {w : World}
  (hro : F.round = none) (h1 : 1 ≤ n) {gf : Nat} {lb : Array Value} (hg : a.eval g = .func (.func gf) #[] lb) (hFg : F.fn gf) (eg : ∀ args w, (callFunc gf args).run P w = .ok (.enter gf args) w)
  {encs : α → Array Value} {Kp : World → World → Prop} {S Sp : List α → Prop} {N Bp : Nat} (hBp : Bp < w.heap.size) (hseq : SeqB F (n - 1) P gf lb encs Kp Bp S Sp N w)
  (hKt : ∀ {A B C : World}, Kp A B → Kp B C → Kp A C) (hKb : ∀ (W : World) (l : Nat) (o : Obj), w.heap.size ≤ l → l < W.heap.size → Kp W (W.putObj l o)) (hps : ∀ x, (encs x).size = ps.size)
  (I : List α → World → Prop) (Ix : Code → List α → World → Prop) (hI : OwnFrom w.heap.size I) (hIx : ∀ c, OwnFrom w.heap.size (Ix c)) (hIB : ∀ s A C, I s A → A.grownBy C (some Bp) → I s C) (hIxB : ∀ c s A C, Ix c s A → A.grownBy C (some Bp) → Ix c s C)
  (h0 : I [] w) (Ax : α → Act → World → Prop) (hAx : ∀ x a', OwnFrom w.heap.size (fun (_ : Unit) W => Ax x a' W))
  (hassign : ∀ (l : Nat) (pre : List α) (x : α) (W : World) (K : Act → World → Prop), I pre W → (∀ a' W', KeepsFrom w.heap.size W W' → Kp W W' → I pre W' → Ax x a' W' → K a' W') →
   assign.wpIn (F.inRound l) (n - 1 - 1) P (Exit.then K (fun _ _ _ => False)) { tmps := (ps.zip (encs x)).foldl (fun t (p, v) => t.setIfInBounds p v) a.tmps, defers := [] } W)
  (hbody : ∀ (l : Nat) (pre : List α) (x : α) (a' : Act) (W : World), w.heap.size ≤ l → I pre W → Ax x a' W → pre.length < N → body.wpIn (F.inRound l) (n - 1 - 1) P (ownPostG w.heap.size Kp I Ix (pre ++ [x]) W) a' W)
  (hdone : ∀ (D : Nat) (xs : List α) (W : World), w.heap.size ≤ D → S xs → I xs W → W.heap[D]? = some (.deferred (some [])) → Q .normal { a with defers := { target := .collected D, args := #[] } :: a.defers } W)
  (hstop : ∀ (D : Nat) (c : Code) (pre : List α) (W : World), w.heap.size ≤ D → Sp pre → Ix c pre W → W.heap[D]? = some (.deferred (some [])) → c.wpIn F n P Q { a with defers := { target := .collected D, args := #[] } :: a.defers } W) :
  (Code.rangeFunc g ps assign body).wpIn F n P Q a w := by
 refine wpIn_rangeFunc ?_
 intro fn hfn
 rw [hro]
 -- the loop's record, ready, busy or done; the block of deferred calls ahead of it
 obtain ⟨rc, hrc⟩ : ∃ rc : LoopState → Option Code → Loop, rc = fun st pe => { state := st, pending := pe, fn, tmps := a.tmps, params := ps, assign, body, defers := w.heap.size } := ⟨_, rfl⟩
 have hsz0 : (w.alloc (.deferred (some []))).heap.size = w.heap.size + 1 := World.size_alloc _ _
 obtain ⟨W1, hW1⟩ : ∃ W1, (w.alloc (.deferred (some []))).alloc (.loop (rc .ready none)) = W1 := ⟨_, rfl⟩
 have rec1 : W1.heap[w.heap.size + 1]? = some (.loop (rc .ready none)) := by
  have := World.alloc_heap_new (w.alloc (.deferred (some []))) (.loop (rc .ready none))
  rw [hsz0] at this
  rwa [hW1] at this
 have def1 : W1.heap[w.heap.size]? = some (.deferred (some [])) := by
  rw [← hW1]
  exact (Below.heap_alloc _ _ _ (by rw [hsz0]; omega)).trans (World.alloc_heap_new w _)
 have i1 : I [] W1 := by rw [← hW1]; exact hI.alloc _ (hI.alloc _ h0)
 have b1 : Below w.heap.size w W1 := by
  rw [← hW1]
  exact ((Below.refl _ w).alloc (Nat.le_refl _) _).alloc (by rw [hsz0]; omega) _
 refine ⟨w.heap.size + 1, [{ target := .collected w.heap.size, args := #[] }], W1, { target := .fn (.func gf) lb, args := #[.func (.yield (w.heap.size + 1)) #[] #[]] }, W1, gf, #[.func (.yield (w.heap.size + 1)) #[] #[]] ++ lb, W1, ?enter, ?res, ?lead, ?inv, fun _ => h1, ?call⟩
 case enter => rw [← hW1, hrc]; exact run_enterLoop_outer _ _ _ _ _
 case res =>
  simp only [resolve, hg]
  simp [go_sem]
 case lead =>
  intro f' hf'
  simp [Target.leads] at hf'
  subst hf'
  exact hFg
 case inv => simp [invoke, go_sem, eg]
 case call =>
  -- what lies at a block that is not Bp stays through the iterator's own steps
  have stays : ∀ {A C : World} {k : Nat} {o : Obj}, w.heap.size ≤ k → A.grownBy C (some Bp) → A.heap[k]? = some o → C.heap[k]? = some o := fun {A C k o} hk hgr ho =>
   (hgr.block k (Array.getElem?_eq_some_iff.1 ho).1 (fun e => by injection e with e; omega)).trans ho
  refine (hseq (w.heap.size + 1)
   (fun pre W => I pre W ∧ W.heap[w.heap.size + 1]? = some (.loop (rc .ready none)) ∧ W.heap[w.heap.size]? = some (.deferred (some [])))
   (fun pre W => ∃ c, Ix c pre W ∧ W.heap[w.heap.size + 1]? = some (.loop (rc .done (some c))) ∧ W.heap[w.heap.size]? = some (.deferred (some [])))
   W1 b1 (fun s A C h hgr => ⟨hIB s A C h.1 hgr, stays (by omega) hgr h.2.1, stays (Nat.le_refl _) hgr h.2.2⟩)
   (fun s A C h hgr => by obtain ⟨c, hc, hl, hk⟩ := h; exact ⟨c, hIxB c s A C hc hgr, stays (by omega) hgr hl, stays (Nat.le_refl _) hgr hk⟩)
   ?round ⟨i1, rec1, def1⟩).mono ?behind
  case round =>
   rintro pre x W ⟨hi, hl, hk⟩ hlen
   have hy := run_yield (P := P) (args := encs x) hl (by rw [hrc]; exact hps x)
   rw [hrc] at hy
   refine ⟨fn, _, assign, body, hy, roundIn_of_wpIn hfn (hassign _ pre x W _ hi ?_)⟩
   intro a' V hkf hkp hiV hax
   have hlV := hkf.same _ _ (by omega) hl rfl
   have hkV := hkf.same _ _ (Nat.le_refl _) hk rfl
   have hltV : w.heap.size + 1 < V.heap.size := (Array.getElem?_eq_some_iff.1 hlV).1
   refine ⟨_, run_beginRound hlV (by rw [hrc]), ?_⟩
   have hl2 : (V.putObj (w.heap.size + 1) (.loop { rc .ready none with state := .busy })).heap[w.heap.size + 1]? = some (.loop { rc .ready none with state := .busy }) := World.putObj_heap_same hltV
   have hk2 : (V.putObj (w.heap.size + 1) (.loop { rc .ready none with state := .busy })).heap[w.heap.size]? = some (.deferred (some [])) := (World.putObj_heap_other (by omega)).trans hkV
   refine wpIn_mono (hbody _ pre x a' _ (by omega) (hI.putObj _ hiV (by omega) hlV rfl) ((hAx x a').putObj (s := ()) _ hax (by omega) hlV rfl) hlen) ?_
   have fin : ∀ (jump : Option Code) (X : World), KeepsFrom w.heap.size (V.putObj (w.heap.size + 1) (.loop { rc .ready none with state := .busy })) X →
     (Instr.endRound (w.heap.size + 1) jump).run P X = .ok (.bool jump.isNone) (X.putObj (w.heap.size + 1) (.loop (rc (if jump.isNone then .ready else .done) jump))) ∧
     X.heap[w.heap.size + 1]? = some (.loop { rc .ready none with state := .busy }) ∧
     (X.putObj (w.heap.size + 1) (.loop (rc (if jump.isNone then .ready else .done) jump))).heap[w.heap.size + 1]? = some (.loop (rc (if jump.isNone then .ready else .done) jump)) ∧
     (X.putObj (w.heap.size + 1) (.loop (rc (if jump.isNone then .ready else .done) jump))).heap[w.heap.size]? = some (.deferred (some [])) := fun jump X hX => by
    have hlX := hX.same _ _ (by omega) hl2 rfl
    have hkX := hX.same _ _ (Nat.le_refl _) hk2 rfl
    have hr := run_endRound (P := P) jump hlX
    rw [hrc] at hr hlX ⊢
    exact ⟨hr, hlX, World.putObj_heap_same (Array.getElem?_eq_some_iff.1 hlX).1, (World.putObj_heap_other (by omega)).trans hkX⟩
   have hkp2 : Kp V (V.putObj (w.heap.size + 1) (.loop { rc .ready none with state := .busy })) := hKb _ _ _ (by omega) hltV
   intro e a3 X hp
   cases e with
   | normal =>
    obtain ⟨q1, q2, q3⟩ := hp
    obtain ⟨hr, hlX, hl4, hk4⟩ := fin none X q1
    exact ⟨_, _, hr, .inl ⟨rfl, ⟨hI.putObj _ q3 (by omega) hlX rfl, hl4, hk4⟩, hKt hkp (hKt (hKt hkp2 q2) (hKb _ _ _ (by omega) (Array.getElem?_eq_some_iff.1 hlX).1))⟩⟩
   | ret =>
    obtain ⟨q1, q3⟩ := hp
    obtain ⟨hr, hlX, hl4, hk4⟩ := fin (some .ret) X q1
    exact ⟨_, _, hr, .inr ⟨rfl, .ret, (hIx _).putObj _ q3 (by omega) hlX rfl, hl4, hk4⟩⟩
   | exit id =>
    obtain ⟨q1, q3⟩ := hp
    obtain ⟨hr, hlX, hl4, hk4⟩ := fin (some (.exit id)) X q1
    exact ⟨_, _, hr, .inr ⟨rfl, .exit id, (hIx _).putObj _ q3 (by omega) hlX rfl, hl4, hk4⟩⟩
   | goto t =>
    obtain ⟨q1, q3⟩ := hp
    obtain ⟨hr, hlX, hl4, hk4⟩ := fin (some (.goto t)) X q1
    exact ⟨_, _, hr, .inr ⟨rfl, .goto t, (hIx _).putObj _ q3 (by omega) hlX rfl, hl4, hk4⟩⟩
   | panic ch => exact hp.elim
   | outgrown => exact hp.elim
  case behind =>
   rintro e W2 ⟨⟨v, rfl⟩, (⟨xs, hS, hi, hl, hk⟩ | ⟨pre, hSp, c, hi, hl, hk⟩)⟩
   · have hr := run_endLoop (P := P) hl (by rw [hrc]; simp)
     rw [hrc] at hr
     exact ⟨none, _, hr, hdone _ xs _ (Nat.le_refl _) hS (hI.putObj _ hi (by omega) hl rfl) ((World.putObj_heap_other (by omega)).trans hk)⟩
   · have hr := run_endLoop (P := P) hl (by rw [hrc]; simp)
     rw [hrc] at hr
     exact ⟨some c, _, hr, hstop _ c pre _ (Nat.le_refl _) hSp ((hIx c).putObj _ hi (by omega) hl rfl) ((World.putObj_heap_other (by omega)).trans hk)⟩
end
end

section
open Go.RowKit Go.Maps
theorem oheap_set (w : World) (B : Nat) (v v0 : Value) (T : TypeId) (h : w.heap[B]? = some (.cells #[v0] T (0, 0))) : (w.setCell ⟨B, 0, none⟩ v).heap[B]? = some (.cells #[v] T (0, 0)) := by
 simp [World.setCell, Array.getElem?_modify, h]
theorem oadd_flat {b o : Nat} (i : Nat) : (⟨b, o, none⟩ : Addr).add i = ⟨b, o + i, none⟩ := by unfold Addr.add; split <;> simp_all
theorem keeps_of_below {B : Nat} {A C : World} (h : Below A.heap.size A C) : KeepsFrom B A C := ⟨h.size, fun k _o _ hk _ => (h.block k (Array.getElem?_eq_some_iff.1 hk).1).trans hk⟩
theorem heap_up {w : World} {j : Nat} {o : Obj} (p : Obj) (h : w.heap[j]? = some o) : (w.alloc p).heap[j]? = some o := (Below.heap_alloc _ _ _ (Array.getElem?_eq_some_iff.1 h).1).trans h
end
end Go.Proofs.YtpcnolkdnmolgaaGreatDoor
