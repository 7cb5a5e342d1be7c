/- closure.Places, walked. -/
import Derived.Test.YtehckjkihaalfaaGreatCF
namespace Go.Proofs.YtehckjkihaalfaaGreat
open Go.RowKit Go.Maps

/-- The places of the closure, in a row of the call's own. -/
def PlacesR (l : List R) (inos : List Int) (w : World) (e : Ending) (w' : World) : Prop :=
  ∃ v, e = .returned v ∧ w'.ownsRow w.heap.size 3 1 v (placesL l inos).length (natV (placesL l inos)) ∧ Below w.heap.size w w'
/-- What has been collected. -/
def GotAt (w : World) (ks : List Int) (b r N : Nat) (v : Value) (m : Nat) (wr : World) : Prop :=
  ∃ (left : Lit → Bool) (cnt : Nat) (es : List Nat), es.length = m ∧ RangeAt wr Tryz.prog 3 b r N (cntI ks) left cnt ∧ ColP ks left es ∧ wr.ownsRow (r + 1) 3 1 v m (natV es) ∧ Below w.heap.size w wr ∧ r < wr.heap.size ∧ b < r ∧ w.heap.size ≤ r
theorem ColP.len {ks : List Int} {left : Lit → Bool} {es : List Nat} {n : Nat} (h : ColP ks left es) (hk : ∀ k : Nat, Named ks k → k < n) : es.length ≤ n := nodup_le n es h.1 fun k hk2 => hk k ((h.2 k).1 hk2).1
theorem ColP.all {ks : List Int} {es : List Nat} {l : List R} {inos : List Int} (h : ColP ks (fun _ => false) es) (hk : ∀ k : Nat, Named ks k ↔ InC l inos k) :
    ((es.map fun (n : Nat) => (n : Int)).mergeSort fun x y => decide (x ≤ y)) = (placesL l inos).map fun (n : Nat) => (n : Int) :=
  sort_places h.1 (places_rise l inos) fun k => by rw [h.2, mem_places, hk]; simp
theorem natV_map (es : List Nat) : natV es = (es.map fun (n : Nat) => (n : Int)).map (Value.int .i64) := by unfold natV; rw [List.map_map]; rfl
set_option maxRecDepth 100000 in
set_option maxHeartbeats 4000000 in
theorem t_places (A : Option Addr) (c n : Nat) (l : List R) (Ai : Option Addr) (ni ci : Nat) (inos : List Int) (w : World) (hl : RecsAt w A l) (hn : l.length = n) (hn2 : n ≤ 1000) (hnc : n ≤ c) (hi : InosAt w Ai inos) (hni : inos.length = ni) (hni2 : ni ≤ 60000) :
    Calls Tryz.prog 39 #[.slice A n c, .slice Ai ni ci] w (PlacesR l inos w) := by
  have HIN := Lib.hid (t_in A c n l Ai ni ci inos w hl hn hn2 hnc hi hni hni2)
  have HNL := Lib.hid hn
  clear hl hn hi hni
  go_enter Tryz.func39, Tryz.ntmps39
  go_wp2_with (go_at_call 88; (with_reducible refine HIN.out.mono ?_); rintro e w4 ⟨M, N, ks, rfl, hM, h1, h2, h3, h4, h5⟩; have HM := Lib.hid hM; obtain ⟨w5, lft, ct, hrng, hRg, hct, hlf, hb5, hs5⟩ := hM.range2 law64 Tryz.underlying74; have HRg := Lib.hid hRg; have HLf := Lib.hid hlf; have HB5 := Lib.hid (ptrans h5 hb5); have HS5 := Lib.hid hs5; have HKS := Lib.hid h3; have HKA := Lib.hid h4; have HLM := Lib.hid hM.lt; have HWW := Lib.hid h5.size; clear hM h1 h2 h3 h4 h5 hRg hct hlf hb5 hs5)
  obtain ⟨RB, hRB⟩ : ∃ RB, w4.heap.size = RB := ⟨_, rfl⟩
  have hst : Hid (GotAt w ks M RB N (.slice none 0 0) 0 w5) := ⟨lft, ct, [], rfl, by rw [← hRB]; exact HRg.out, ColP.start HLf.out, World.ownsRow_nil _ _ _ _, HB5.out, by have := HS5.out; omega, by have := HLM.out; omega, by have := HWW.out; omega⟩
  rw [hRB]
  clear hrng HRg HLf HB5 HS5 HLM HWW hRB HM
  go_loopw [4] (fun v wr => ∃ (A1 : Option Addr) (m d1 : Nat), v = .slice A1 m d1 ∧ Hid (GotAt w ks M RB N v m wr)) (fun _ wr => wr.rangeLeft M RB)
  case atStart => exact ⟨none, 0, 0, rfl, hst⟩
  case round =>
    obtain ⟨A1, m, d1, rfl, HG⟩ := hrel
    obtain ⟨left, cnt, es, hm, hrg, hco, how, hbl, hr1, hbr, hwr⟩ := HG.out
    have HCO := Lib.hid hco
    have HBL := Lib.hid hbl
    have HEM := Lib.hid hm
    have HRW := Lib.hid hwr
    have hm2 : m ≤ 1000 := by have := hco.len (n := n) (fun k hk => by have := ((HKA.out k).1 hk).lt; have := HNL.out; omega); omega
    have HOW := Lib.hid how
    clear hco hbl hm hwr HG how
    have hks : ∀ x ∈ ks, ∃ k : Nat, x = (k : Int) := fun x hx => by obtain ⟨k, h1, _⟩ := HKS.out x hx; exact ⟨k, h1⟩
    have HK2 := Lib.hid hks
    clear hks
    go_wp2_with (at_next; refine wpList_next_P rfl _ rfl rfl hrg HK2.out ?_ ?_)
    · intro hdone
      have hdone' : left = fun _ => false := funext hdone
      have HCF : Hid (ColP ks (fun _ => false) es) := by show ColP _ _ _; rw [← hdone']; exact HCO.out
      clear hdone hdone' hrg
      have HAll := Lib.hid (HCF.out.all HKA.out)
      rcases HOW.out.2 with ⟨e0, hz0⟩ | ⟨g, cap, cur, e0, hg, hcur, hg1, hg2, hg3, htake⟩
      · injection e0 with e1 e2 e3
        subst e1
        subst e2
        subst e3
        obtain rfl : es = [] := List.eq_nil_of_length_eq_zero HEM.out
        have hp0 : Hid (placesL l inos = []) := by
          show _ = _
          refine List.eq_nil_iff_forall_not_mem.2 fun k hk => ?_
          have h6 := (HKA.out k).2 (mem_places.1 hk)
          have := (HCF.out.2 k).2 ⟨h6, rfl⟩
          simp at this
        go_wp2_with (go_at_call 89; refine (t_sortI0 _ _ _).mono ?_; rintro e w' ⟨rfl, rfl⟩)
        go_ret
        refine ⟨_, rfl, ?_, HBL.out⟩
        rw [hp0.out]
        exact World.ownsRow_nil _ _ _ _
      · injection e0 with e1 e2 e3
        subst e1
        subst e3
        have hgl : g < wr.heap.size := (Array.getElem?_eq_some_iff.1 hcur).1
        have hlen : (es.map fun (n : Nat) => (n : Int)).length = m := by rw [List.length_map]; exact HEM.out
        have htk : cur.toList.take (es.map fun (n : Nat) => (n : Int)).length = (es.map fun (n : Nat) => (n : Int)).map (Value.int .i64) := by
          rw [hlen, ← natV_map]
          rw [Nat.mul_one] at htake
          exact htake
        have hS := t_sortI g d1 (es.map fun (n : Nat) => (n : Int)) wr (holds_of_blockI hcur htk) hgl (by rw [hlen]; omega)
        rw [HAll.out] at hS
        rw [hlen] at hS
        have hpl : ((placesL l inos).map fun (n : Nat) => (n : Int)).length = (es.map fun (n : Nat) => (n : Int)).length := by rw [← HAll.out, List.length_mergeSort]
        have HO : Hid (∀ (n : Nat) (os : Array Obj), (Go.Sort.grow (Go.Sort.putRow (Value.int .i64) (Go.Sort.ahead wr n) g 0 ((placesL l inos).map fun (n : Nat) => (n : Int)).toArray) os).ownsRow w.heap.size 3 1 (.slice (some ⟨g, 0, none⟩) (placesL l inos).length d1) (placesL l inos).length (natV (placesL l inos))) := fun n os => by
          have h7 := ownsRow_sortedI (n := n) (os := os) hpl (show w.heap.size ≤ g by have := HRW.out; omega) hcur (by rw [hlen]; exact hg1) hg2 hg3
          rw [← hpl, List.length_map] at h7
          rw [natV_map]
          exact h7
        have HPL : Hid ((placesL l inos).length = m) := by
          show _ = _
          rw [← hlen, ← hpl, List.length_map]
        have HS := Lib.hid hS
        have HGG : Hid (w.heap.size ≤ g) := by show _ ≤ _; have := HRW.out; omega
        clear hS hcur htake hg hg3 htk hpl hlen
        go_wp2_with (go_at_call 89; (with_reducible refine HS.out.mono ?_); rintro e w6 ⟨rfl, n6, os6, h6⟩; have H6 := Lib.hid h6; clear h6)
        go_ret
        refine ⟨_, rfl, ?_, ?_⟩
        · have := HO.out n6 os6
          rw [← H6.out] at this
          rw [HPL.out] at this ⊢
          exact this
        · rw [H6.out]
          exact HBL.out.grown (grownBy_sortedI _) HBL.out.size (fun q hq => by injection hq with hq; have := HGG.out; omega)
    · intro k cc w6 cnt6 hlk hnm hrg6 hlt6 hg6 hs6 hen
      have HC6 := Lib.hid (HCO.out.step hlk hnm)
      have HRG := Lib.hid hrg6
      have HLT : Hid (cnt6 < wr.rangeLeft M RB) := by show _ < _; rw [hrg.left_eq]; exact hlt6
      have hown6 : w6.ownsRow (RB + 1) 3 1 (.slice A1 m d1) m (natV es) := HOW.out.kept hg6 (by
        cases hv : (Value.slice A1 m d1).ownBlock with
        | none => exact .inl rfl
        | some x => exact .inr (fun e => by injection e with e; have := (HOW.out.lt x hv).1; omega))
      have hob : ∀ b, b < RB + 1 → (Value.slice A1 m d1).ownBlock ≠ some b := fun b hb e => by have := (HOW.out.lt b e).1; omega
      have HOB := Lib.hid hob
      have HB6 := Lib.hid (HBL.out.grown hg6 HBL.out.size (fun q hq => by injection hq with hq; have := HRW.out; omega))
      have hsz7 : RB + 1 ≤ w6.heap.size := by omega
      clear hlk hnm hrg6 hlt6 hg6 hrg hob hs6
      go_wp2_with (at_builtin; refine wpList_append_int rfl _ _ rfl (RB + 1) _ es m (m + 1) HEM.out rfl rfl (hown6.alloc _) w6.heap.size k rfl (heap_alloc_new _ _) (by omega) (by rw [World.alloc_size']; omega) ?_; intro A2 d2 w7 g2 g3; have H7 := Lib.hid (And.intro g2 g3); clear g2 g3)
      have hgr := H7.out.2
      have hbk : ∀ b, b < RB + 1 → w7.heap[b]? = w6.heap[b]? := fun b hb => (hgr.block b (by rw [World.alloc_size']; omega) (fun h => HOB.out b hb h.symm)).trans (Go.heap_alloc_old _ _ (Nat.lt_of_lt_of_le hb hsz7))
      have hR7 : RangeAt w7 Tryz.prog 3 M RB N (cntI ks) (fun z => left z && !z.sameKey (.int .i64 (k : Int))) cnt6 := HRG.out.same (hbk _ (by omega)) (hbk _ (by omega))
      have hsz8 : w6.heap.size + 1 ≤ w7.heap.size := by have := hgr.size; rw [World.alloc_size'] at this; exact this
      have hww := HRW.out
      have hB7 : Below w.heap.size w w7 := ⟨hgr.os.trans HB6.out.os, hgr.tape.trans HB6.out.tape, hgr.output.trans HB6.out.output, by have := HB6.out.size; omega, fun b hb => (hbk b (by omega)).trans (HB6.out.block b hb)⟩
      have HR7 := Lib.hid hR7
      have HB7 := Lib.hid hB7
      clear hgr hbk hR7 hB7
      go_roundw
      case rel => exact ⟨A2, m + 1, d2, rfl, _, cnt6, es ++ [k], by rw [List.length_append, HEM.out]; rfl, HR7.out, HC6.out, H7.out.1, HB7.out, by omega, hbr, HRW.out⟩
      case measure => exact Nat.lt_of_le_of_lt (Nat.le_of_eq HR7.out.left_eq) HLT.out
end Go.Proofs.YtehckjkihaalfaaGreat
