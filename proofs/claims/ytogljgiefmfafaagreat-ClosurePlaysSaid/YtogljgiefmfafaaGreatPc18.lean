/- closure.Places, walked. -/
import Derived.Test.YtogljgiefmfafaaGreatPc05
import Derived.Test.YtogljgiefmfafaaGreatPc15
import Derived.Test.YtogljgiefmfafaaGreatPc17
import Derived.Laws.OwnMore
namespace Go.Proofs.YtogljgiefmfafaaGreat
section
open Go.RowKit Go.Maps
def PlacesR (l : List R) (inos : List Int) (w : World) (e : Ending) (w' : World) : Prop :=
 ∃ v, e = .returned v ∧ w'.ownsRow w.heap.size 3 1 v (placesL l inos).length (natV (placesL l inos)) ∧ Below w.heap.size w w'
def GotAt (w : World) (ks : List Int) (b r N : Nat) (v : Value) (m : Nat) (wr : World) : Prop :=
 ∃ (left : Lit → Bool) (cnt : Nat) (es : List Nat), es.length = m ∧ RangeAt wr Tryz.prog 3 b r N (cntI ks) left cnt ∧ ColP ks left es ∧ wr.ownsRow (r + 1) 3 1 v m (natV es) ∧ Below w.heap.size w wr ∧ r < wr.heap.size ∧ b < r ∧ w.heap.size ≤ r
theorem ColP.len {ks : List Int} {left : Lit → Bool} {es : List Nat} {n : Nat} (h : ColP ks left es) (hk : ∀ k : Nat, Named ks k → k < n) : es.length ≤ n := nodup_le n es h.1 fun k hk2 => hk k ((h.2 k).1 hk2).1
theorem ColP.all {ks : List Int} {es : List Nat} {l : List R} {inos : List Int} (h : ColP ks (fun _ => false) es) (hk : ∀ k : Nat, Named ks k ↔ InC l inos k) :
  ((es.map fun (n : Nat) => (n : Int)).mergeSort fun x y => decide (x ≤ y)) = (placesL l inos).map fun (n : Nat) => (n : Int) :=
 sort_places h.1 (places_rise l inos) fun k => by rw [h.2, mem_places, hk]; simp
theorem natV_map (es : List Nat) : natV es = (es.map fun (n : Nat) => (n : Int)).map (Value.int .i64) := by unfold natV; rw [List.map_map]; rfl
set_option maxRecDepth 100000 in
set_option maxHeartbeats 4000000 in
theorem t_places (A : Option Addr) (c n : Nat) (l : List R) (Ai : Option Addr) (ni ci : Nat) (inos : List Int) (w : World) (hl : RecsAt w A l) (hn : l.length = n) (hn2 : n ≤ 1000) (hnc : n ≤ c) (hi : InosAt w Ai inos) (hni : inos.length = ni) (hni2 : ni ≤ 60000) :
  Calls Tryz.prog 42 #[.slice A n c, .slice Ai ni ci] w (PlacesR l inos w) := by
 have HIN := zz (t_in A c n l Ai ni ci inos w hl hn hn2 hnc hi hni hni2)
 have HNL := zz hn
 clear hl hn hi hni
 go_enter Tryz.func42, Tryz.ntmps42
 go_wp2_with (go_at_call 84; (with_reducible refine HIN.out.mono ?_); rintro e w4 ⟨M, N, ks, rfl, hM, h1, h2, h3, h4, h5⟩; have HM := zz hM; obtain ⟨w5, lft, ct, hrng, hRg, hct, hlf, hb5, hs5⟩ := hM.range2 law64 Tryz.underlying142; have HRg := zz hRg; have HLf := zz hlf; have HB5 := zz (ptrans h5 hb5); have HS5 := zz hs5; have HKS := zz h3; have HKA := zz h4; have HLM := zz hM.lt; have HWW := zz h5.size; clear hM h1 h2 h3 h4 h5 hRg hct hlf hb5 hs5)
 obtain ⟨RB, hRB⟩ : ∃ RB, w4.heap.size = RB := ⟨_, rfl⟩
 have hst : Hid (GotAt w ks M RB N (.slice none 0 0) 0 w5) := ⟨lft, ct, [], rfl, by rw [← hRB]; exact HRg.out, ColP.start HLf.out, World.ownsRow_nil _ _ _ _, HB5.out, by have := HS5.out; omega, by have := HLM.out; omega, by have := HWW.out; omega⟩
 rw [hRB]
 clear hrng HRg HLf HB5 HS5 HLM HWW hRB HM
 go_loopw [4] (fun v wr => ∃ (A1 : Option Addr) (m d1 : Nat), v = .slice A1 m d1 ∧ Hid (GotAt w ks M RB N v m wr)) (fun _ wr => wr.rangeLeft M RB)
 case atStart => exact ⟨none, 0, 0, rfl, hst⟩
 case round =>
  obtain ⟨A1, m, d1, rfl, HG⟩ := hrel
  obtain ⟨left, cnt, es, hm, hrg, hco, how, hbl, hr1, hbr, hwr⟩ := HG.out
  have HCO := zz hco
  have HBL := zz hbl
  have HEM := zz hm
  have HRW := zz hwr
  have hm2 : m ≤ 1000 := by have := hco.len (n := n) (fun k hk => by have := ((HKA.out k).1 hk).lt; have := HNL.out; omega); omega
  have HOW := zz how
  clear hco hbl hm hwr HG how
  have hks : ∀ x ∈ ks, ∃ k : Nat, x = (k : Int) := fun x hx => by obtain ⟨k, h1, _⟩ := HKS.out x hx; exact ⟨k, h1⟩
  have HK2 := zz hks
  clear hks
  go_wp2_with (at_next; refine wpList_next_P rfl _ rfl rfl hrg HK2.out ?_ ?_)
  · intro hdone
    have hdone' : left = fun _ => false := funext hdone
    have HCF : Hid (ColP ks (fun _ => false) es) := by show ColP _ _ _; rw [← hdone']; exact HCO.out
    clear hdone hdone' hrg
    have HAll := zz (HCF.out.all HKA.out)
    rcases HOW.out.2 with ⟨e0, hz0⟩ | ⟨g, cap, cur, e0, hg, hcur, hg1, hg2, hg3, htake⟩
    · injection e0 with e1 e2 e3
      subst e1
      subst e2
      subst e3
      obtain rfl : es = [] := List.eq_nil_of_length_eq_zero HEM.out
      have hp0 : Hid (placesL l inos = []) := by
       show _ = _
       refine List.eq_nil_iff_forall_not_mem.2 fun k hk => ?_
       have h6 := (HKA.out k).2 (mem_places.1 hk)
       have := (HCF.out.2 k).2 ⟨h6, rfl⟩
       simp at this
      go_wp2_with (go_at_call 85; refine (t_sortI0 _ _ _).mono ?_; rintro e w' ⟨rfl, rfl⟩)
      go_ret
      refine ⟨_, rfl, ?_, HBL.out⟩
      rw [hp0.out]
      exact World.ownsRow_nil _ _ _ _
    · injection e0 with e1 e2 e3
      subst e1
      subst e3
      have hgl : g < wr.heap.size := (Array.getElem?_eq_some_iff.1 hcur).1
      have hlen : (es.map fun (n : Nat) => (n : Int)).length = m := by rw [List.length_map]; exact HEM.out
      have htk : cur.toList.take (es.map fun (n : Nat) => (n : Int)).length = (es.map fun (n : Nat) => (n : Int)).map (Value.int .i64) := by
       rw [hlen, ← natV_map]
       rw [Nat.mul_one] at htake
       exact htake
      have hS := t_sortI g d1 (es.map fun (n : Nat) => (n : Int)) wr (holds_of_blockI hcur htk) hgl (by rw [hlen]; omega)
      rw [HAll.out] at hS
      rw [hlen] at hS
      have hpl : ((placesL l inos).map fun (n : Nat) => (n : Int)).length = (es.map fun (n : Nat) => (n : Int)).length := by rw [← HAll.out, List.length_mergeSort]
      have HO : Hid (∀ (n : Nat) (os : Array Obj), (Go.Sort.grow (Go.Sort.putRow (Value.int .i64) (Go.Sort.ahead wr n) g 0 ((placesL l inos).map fun (n : Nat) => (n : Int)).toArray) os).ownsRow w.heap.size 3 1 (.slice (some ⟨g, 0, none⟩) (placesL l inos).length d1) (placesL l inos).length (natV (placesL l inos))) := fun n os => by
       have h7 := ownsRow_sortedI (n := n) (os := os) hpl (show w.heap.size ≤ g by have := HRW.out; omega) hcur (by rw [hlen]; exact hg1) hg2 hg3
       rw [← hpl, List.length_map] at h7
       rw [natV_map]
       exact h7
      have HPL : Hid ((placesL l inos).length = m) := by
       show _ = _
       rw [← hlen, ← hpl, List.length_map]
      have HS := zz hS
      have HGG : Hid (w.heap.size ≤ g) := by show _ ≤ _; have := HRW.out; omega
      clear hS hcur htake hg hg3 htk hpl hlen
      go_wp2_with (go_at_call 85; (with_reducible refine HS.out.mono ?_); rintro e w6 ⟨rfl, n6, os6, h6⟩; have H6 := zz h6; clear h6)
      go_ret
      refine ⟨_, rfl, ?_, ?_⟩
      · have := HO.out n6 os6
        rw [← H6.out] at this
        rw [HPL.out] at this ⊢
        exact this
      · rw [H6.out]
        exact HBL.out.grown (grownBy_sortedI _) HBL.out.size (fun q hq => by injection hq with hq; have := HGG.out; omega)
  · intro k cc w6 cnt6 hlk hnm hrg6 hlt6 hg6 hs6 hen
    have HC6 := zz (HCO.out.step hlk hnm)
    have HRG := zz hrg6
    have HLT : Hid (cnt6 < wr.rangeLeft M RB) := by show _ < _; rw [hrg.left_eq]; exact hlt6
    have hown6 : w6.ownsRow (RB + 1) 3 1 (.slice A1 m d1) m (natV es) := HOW.out.kept hg6 (by
     cases hv : (Value.slice A1 m d1).ownBlock with
     | none => exact .inl rfl
     | some x => exact .inr (fun e => by injection e with e; have := (HOW.out.lt x hv).1; omega))
    have hob : ∀ b, b < RB + 1 → (Value.slice A1 m d1).ownBlock ≠ some b := fun b hb e => by have := (HOW.out.lt b e).1; omega
    have HOB := zz hob
    have HB6 := zz (HBL.out.grown hg6 HBL.out.size (fun q hq => by injection hq with hq; have := HRW.out; omega))
    have hsz7 : RB + 1 ≤ w6.heap.size := by omega
    clear hlk hnm hrg6 hlt6 hg6 hrg hob hs6
    go_wp2_with (at_builtin; refine wpList_append_int rfl _ _ rfl (RB + 1) _ es m (m + 1) HEM.out rfl rfl (hown6.alloc _) w6.heap.size k rfl (heap_alloc_new _ _) (by omega) (by rw [World.alloc_size']; omega) ?_; intro A2 d2 w7 g2 g3; have H7 := zz (And.intro g2 g3); clear g2 g3)
    have hgr := H7.out.2
    have hbk : ∀ b, b < RB + 1 → w7.heap[b]? = w6.heap[b]? := fun b hb => (hgr.block b (by rw [World.alloc_size']; omega) (fun h => HOB.out b hb h.symm)).trans (Go.heap_alloc_old _ _ (Nat.lt_of_lt_of_le hb hsz7))
    have hR7 : RangeAt w7 Tryz.prog 3 M RB N (cntI ks) (fun z => left z && !z.sameKey (.int .i64 (k : Int))) cnt6 := HRG.out.same (hbk _ (by omega)) (hbk _ (by omega))
    have hsz8 : w6.heap.size + 1 ≤ w7.heap.size := by have := hgr.size; rw [World.alloc_size'] at this; exact this
    have hww := HRW.out
    have hB7 : Below w.heap.size w w7 := ⟨hgr.os.trans HB6.out.os, hgr.tape.trans HB6.out.tape, hgr.output.trans HB6.out.output, by have := HB6.out.size; omega, fun b hb => (hbk b (by omega)).trans (HB6.out.block b hb)⟩
    have HR7 := zz hR7
    have HB7 := zz hB7
    clear hgr hbk hR7 hB7
    go_roundw
    case rel => exact ⟨A2, m + 1, d2, rfl, _, cnt6, es ++ [k], by rw [List.length_append, HEM.out]; rfl, HR7.out, HC6.out, H7.out.1, HB7.out, by omega, hbr, HRW.out⟩
    case measure => exact Nat.lt_of_le_of_lt (Nat.le_of_eq HR7.out.left_eq) HLT.out
end

section
open Go.RowKit Go.Maps
def cellsL (r : R) : List Value := (cellsR r).toList
def flatR (l : List R) : List Value := l.flatMap cellsL
theorem own_low {w : World} {base base' size n : Nat} {e : TypeId} {v : Value} {xs : List Value} (h : w.ownsRow base e size v n xs) (hb : base' ≤ base) : w.ownsRow base' e size v n xs :=
 ⟨h.1, h.2.elim .inl fun ⟨g, cap, cur, a, b, c⟩ => .inr ⟨g, cap, cur, a, Nat.le_trans hb b, c⟩⟩
theorem flatR_append (a b : List R) : flatR (a ++ b) = flatR a ++ flatR b := by unfold flatR; rw [List.flatMap_append]
theorem infoRec : ∃ i, Tryz.prog.info? 50 = some i ∧ i.zero = some (.agg #[.int .u64 0, .int .u8 0, .int .u32 0, .string ⟨#[]⟩, .int .u32 0, .int .u8 0, .int .u32 0, .string ⟨#[]⟩, .int .u32 0, .int .u32 0, .int .i64 0, .string ⟨#[]⟩]) ∧ i.size = 12 ∧ i.bytes = 96 := by
 have : (Tryz.prog.info? 50).map (fun i => (i.zero, i.size, i.bytes)) = some (some (.agg #[.int .u64 0, .int .u8 0, .int .u32 0, .string ⟨#[]⟩, .int .u32 0, .int .u8 0, .int .u32 0, .string ⟨#[]⟩, .int .u32 0, .int .u32 0, .int .i64 0, .string ⟨#[]⟩]), 12, 96) := by kernel_rfl
 obtain ⟨i, hi, he⟩ := Option.map_eq_some_iff.1 this
 simp only [Prod.mk.injEq] at he
 exact ⟨i, hi, he.1, he.2.1, he.2.2⟩
theorem run_append_rec (base ty : Nat) (w : World) (v : Value) (l : List R) (n : Nat) (hn : l.length = n) (hown : w.ownsRow base 50 12 v n (flatR l)) (q : Nat) (p : R) (hq : w.heap[q]? = some (.cells (cellsR p) 50 (0, 0)))
  (hl : n ≤ 100000) (hbase : base ≤ w.heap.size) :
  ∃ v' w', (Builtin.append_ #[22, 22] ty #[v, .slice (some ⟨q, 0, none⟩) 1 1]).run Tryz.prog w = .ok v' w' ∧ w'.ownsRow base 50 12 v' (n + 1) (flatR (l ++ [p])) ∧ w.grownBy w' v.ownBlock := by
 subst hn
 obtain ⟨i0, hi, hz0, hz1, hz2⟩ := infoRec
 obtain ⟨v', w', hrun, h2, h3, _, _⟩ := run_append_own_at (P := Tryz.prog) w base 22 ty 50 i0 _ 12 96 Tryz.underlying22 hi hz0 hz1 hz2 rfl (by decide) v l.length (flatR l) hown ⟨q, 0, none⟩ 1 1 (cellsL p)
  rfl (fun j u hu => by
   rw [Addr.add_mid, Nat.zero_add]
   simp only [World.cell?, hq]
   simpa [cellsL] using hu) (by simp [cellsL, Value.oneCell']) (by unfold maxLen; omega) (by omega) hbase
 exact ⟨v', w', hrun, by rw [flatR_append, show flatR [p] = cellsL p by simp [flatR]]; exact h2, h3⟩
theorem wpList_append_rec {ops : Array Oper} {rest : List Oper} {o : Oper} {a : Act} {Q : Exit → Act → World → Prop} {w : World} (hgd : o.guard = none) (s x : Operand)
  (ho : o.op = .call { callee := .builtin .append, args := #[s, x], argTypes := #[22, 22] })
  (base : Nat) (v : Value) (l : List R) (n k : Nat) (hn : l.length = n) (hk : n + 1 = k) (hs : a.eval s = v) (hown : w.ownsRow base 50 12 v n (flatR l)) (q : Nat) (p : R) (hx : a.eval x = .slice (some ⟨q, 0, none⟩) 1 1)
  (hq : w.heap[q]? = some (.cells (cellsR p) 50 (0, 0))) (hl : n ≤ 100000) (hbase : base ≤ w.heap.size)
  (h : ∀ A1 c1 w', w'.ownsRow base 50 12 (.slice A1 k c1) k (flatR (l ++ [p])) → w.grownBy w' v.ownBlock → wpList Tryz.prog ops Q rest (a.put o.dst (.slice A1 k c1)) w') : wpList Tryz.prog ops Q (o :: rest) a w :=
 wpList_plain hgd fun _ hK => by
  subst hk
  obtain ⟨v', w', hrun, h2, h3⟩ := run_append_rec base o.type w v l n hn hown q p hq hl hbase
  unfold Oper.wp execOp
  simp only [ho, resolve, invoke, builtin, Sem.run_bind, Sem.run_pure, Result.andThen_ok, List.map_toArray, List.map_cons, List.map_nil, hs, hx, hrun]
  obtain ⟨A1, c1, rfl⟩ := row_slice h2
  exact hK _ _ (h A1 c1 w' h2 h3)
def pickTo (l : List R) (inos : List Int) (of : Bool) (i : Nat) : List R := ((List.range i).filter fun k => inB l inos l.length k == of).map (rAt l)
def pickL (l : List R) (inos : List Int) (of : Bool) : List R := pickTo l inos of l.length
theorem pickTo_succ (l : List R) (inos : List Int) (of : Bool) (i : Nat) : pickTo l inos of (i + 1) = pickTo l inos of i ++ (if (inB l inos l.length i == of) = true then [rAt l i] else []) := by
 unfold pickTo
 rw [List.range_succ, List.filter_append, List.map_append]
 congr 1
 cases h : (inB l inos l.length i == of) <;> simp [h]
theorem pickTo_len (l : List R) (inos : List Int) (of : Bool) (i : Nat) : (pickTo l inos of i).length ≤ i := by
 unfold pickTo
 rw [List.length_map]
 exact Nat.le_trans (List.length_filter_le _ _) (by simp)
theorem cnt_in {l : List R} {inos ks : List Int} (hk : ∀ k : Nat, Named ks k ↔ InC l inos k) {i : Nat} (hi : i < l.length) : inB l inos l.length i = decide (0 < ks.count (i : Int)) := by
 rw [Bool.eq_iff_iff, inB_iff hi, ← hk i, decide_eq_true_eq, List.count_pos_iff]
 rfl
set_option maxRecDepth 100000 in
set_option maxHeartbeats 4000000 in
theorem t_pick (A : Option Addr) (c n : Nat) (l : List R) (Ai : Option Addr) (ni ci : Nat) (inos : List Int) (of : Bool) (w : World) (hl : RecsAt w A l) (hn : l.length = n) (hn2 : n ≤ 1000) (hnc : n ≤ c) (hi : InosAt w Ai inos) (hni : inos.length = ni) (hni2 : ni ≤ 60000) :
  Calls Tryz.prog 46 #[.slice A n c, .slice Ai ni ci, .bool of] w fun e w' => ∃ v, e = .returned v ∧ w'.ownsRow w.heap.size 50 12 v (pickL l inos of).length (flatR (pickL l inos of)) ∧ Below w.heap.size w w' := by
 have HIN := zz (t_in A c n l Ai ni ci inos w hl hn hn2 hnc hi hni hni2)
 have HN := zz hn
 have HL := zz hl
 clear hl hn hi hni
 go_enter Tryz.func46, Tryz.ntmps46
 go_wp2_with (go_at_call 84; (with_reducible refine HIN.out.mono ?_); rintro e w4 ⟨M, N, ks, rfl, hM, h1, h2, h3, h4, h5⟩; have HM := zz hM; have HKA := zz h4; have HB4 := zz h5; have HGM := zz h1; clear hM h1 h2 h3 h4 h5)
 go_loopw [6, 15] (fun v x wr => ∃ (i m : Nat) (A1 : Option Addr) (d1 : Nat), x = .int .i64 (i : Int) ∧ v = .slice A1 m d1 ∧ i ≤ n ∧ Hid ((pickTo l inos of i).length = m ∧ wr.ownsRow w4.heap.size 50 12 (.slice A1 m d1) m (flatR (pickTo l inos of i)) ∧ Below w4.heap.size w4 wr)) (fun _ x _ => n - (intOf x).toNat)
 case atStart => exact ⟨0, 0, none, 0, rfl, rfl, Nat.zero_le _, rfl, World.ownsRow_nil _ _ _ _, Below.refl _ _⟩
 case round =>
  obtain ⟨i, m, A1, d1, rfl, rfl, hi, HI⟩ := hrel
  by_cases he : i = n
  · have hf : Hid (pickTo l inos of i = pickL l inos of) := by show _ = _; unfold pickL; rw [he, HN.out]
    go_wp2
    go_ret
    refine ⟨_, rfl, ?_, ptrans HB4.out HI.out.2.2⟩
    rw [← hf.out, HI.out.1]
    exact own_low HI.out.2.1 HB4.out.size
  · have hi2 : i < n := by omega
    obtain ⟨x, hx⟩ : ∃ x, l[i]? = some x := ⟨l[i]'(by rw [HN.out]; omega), List.getElem?_eq_getElem _⟩
    obtain ⟨b, o, rfl, hbl, hc⟩ := ((HL.out.below HB4.out).below HI.out.2.2).at_ (fun e => by rw [e] at hx; simp at hx)
    have c0 : wr.cell? ⟨b, o + i * 12, none⟩ = some (.int .u64 x.stamp) := hc i x hx 0 _ rfl
    have c1 := hc i x hx 1 _ rfl
    have c2 := hc i x hx 2 _ rfl
    have c3 := hc i x hx 3 _ rfl
    have c4 := hc i x hx 4 _ rfl
    have c5 := hc i x hx 5 _ rfl
    have c6 := hc i x hx 6 _ rfl
    have c7 := hc i x hx 7 _ rfl
    have c8 := hc i x hx 8 _ rfl
    have c9 := hc i x hx 9 _ rfl
    have c10 := hc i x hx 10 _ rfl
    have c11 := hc i x hx 11 _ rfl
    have HX := zz hx
    clear hc hx hbl
    have hbx := below_a1' wr (.cells #[.int .u64 x.stamp, .int .u8 x.act, .int .u32 x.dir, .string x.name, .int .u32 x.ino, .int .u8 x.kind, .int .u32 x.dir2, .string x.name2, .int .u32 x.old, .int .u32 x.size, .int .i64 x.page, .string x.data] 50)
    have hlk := cntI_look ((HM.out.below HI.out.2.2).below hbx) (k := (i : Int)) ⟨by omega, by omega⟩
    have HBX := zz hbx
    clear hbx
    have HCI := zz (cnt_in HKA.out (i := i) (by rw [HN.out]; exact hi2))
    obtain ⟨cc, hcc⟩ : ∃ cc, ks.count (i : Int) = cc := ⟨_, rfl⟩
    rw [hcc] at hlk HCI
    have hst := pickTo_succ l inos of i
    rw [rAt_get HX.out, HCI.out] at hst
    have HST := zz hst
    have hm2 : m ≤ i := by have := pickTo_len l inos of i; rw [HI.out.1] at this; exact this
    clear hst hcc
    obtain ⟨q, hq⟩ : ∃ q, (decide (0 < cc) == of) = q := ⟨_, rfl⟩
    rw [hq] at HST
    have HRX : Hid ((wr.alloc (.cells #[.int .u64 x.stamp, .int .u8 x.act, .int .u32 x.dir, .string x.name, .int .u32 x.ino, .int .u8 x.kind, .int .u32 x.dir2, .string x.name2, .int .u32 x.old, .int .u32 x.size, .int .i64 x.page, .string x.data] 50)).heap[wr.heap.size]? = some (.cells (cellsR x) 50 (0, 0))) := heap_alloc_new _ _
    cases q
    · go_wp2
      go_roundw
      case rel =>
       refine ⟨i + 1, m, A1, d1, rfl, rfl, hi2, ?_⟩
       show _ ∧ _
       rw [HST.out, if_neg (by simp), List.append_nil]
       exact ⟨HI.out.1, row_below HI.out.2.1 HBX.out, ptrans HI.out.2.2 HBX.out⟩
      case measure => simp only [intOf]; omega
    · have HOW := zz (row_below HI.out.2.1 HBX.out)
      have HBW := zz (ptrans HI.out.2.2 HBX.out)
      go_wp2_with (at_builtin; refine wpList_append_rec rfl _ _ rfl w4.heap.size _ (pickTo l inos of i) m (m + 1) HI.out.1 rfl rfl (HOW.out.alloc _) (wr.heap.size + 1) x rfl (by rw [← World.alloc_size' wr]; exact heap_alloc_new _ _) (by omega) (by rw [World.alloc_size']; have := HBW.out.size; omega) ?_; intro A2 d2 W4 g2 g3; have H4 := zz (And.intro g2 g3); clear g2 g3)
      go_roundw
      case rel =>
       refine ⟨i + 1, m + 1, A2, d2, rfl, rfl, hi2, ?_⟩
       show _ ∧ _
       rw [HST.out, if_pos rfl]
       refine ⟨by rw [List.length_append, HI.out.1]; rfl, H4.out.1, ?_⟩
       exact (HBW.out.alloc HBW.out.size _).grown H4.out.2 (by rw [World.alloc_size']; have := HBW.out.size; omega) (fun q hq => (HOW.out.lt q hq).1)
      case measure => simp only [intOf]; omega
set_option maxRecDepth 100000 in
theorem t_of (A : Option Addr) (c n : Nat) (l : List R) (Ai : Option Addr) (ni ci : Nat) (inos : List Int) (w : World) (hl : RecsAt w A l) (hn : l.length = n) (hn2 : n ≤ 1000) (hnc : n ≤ c) (hi : InosAt w Ai inos) (hni : inos.length = ni) (hni2 : ni ≤ 60000) :
  Calls Tryz.prog 18 #[.slice A n c, .slice Ai ni ci] w fun e w' => ∃ v, e = .returned v ∧ w'.ownsRow w.heap.size 50 12 v (pickL l inos true).length (flatR (pickL l inos true)) ∧ Below w.heap.size w w' := by
 have H := zz (t_pick A c n l Ai ni ci inos true w hl hn hn2 hnc hi hni hni2)
 clear hl hn hi hni
 go_enter Tryz.func18, Tryz.ntmps18
 go_wp2_with (go_at_call 46; (with_reducible refine H.out.mono ?_); rintro e w2 ⟨v, rfl, h1, h2⟩; have HH := zz (And.intro h1 h2); clear h1 h2)
 go_ret
 exact ⟨_, rfl, HH.out.1, HH.out.2⟩
set_option maxRecDepth 100000 in
theorem t_rest (A : Option Addr) (c n : Nat) (l : List R) (Ai : Option Addr) (ni ci : Nat) (inos : List Int) (w : World) (hl : RecsAt w A l) (hn : l.length = n) (hn2 : n ≤ 1000) (hnc : n ≤ c) (hi : InosAt w Ai inos) (hni : inos.length = ni) (hni2 : ni ≤ 60000) :
  Calls Tryz.prog 21 #[.slice A n c, .slice Ai ni ci] w fun e w' => ∃ v, e = .returned v ∧ w'.ownsRow w.heap.size 50 12 v (pickL l inos false).length (flatR (pickL l inos false)) ∧ Below w.heap.size w w' := by
 have H := zz (t_pick A c n l Ai ni ci inos false w hl hn hn2 hnc hi hni hni2)
 clear hl hn hi hni
 go_enter Tryz.func21, Tryz.ntmps21
 go_wp2_with (go_at_call 46; (with_reducible refine H.out.mono ?_); rintro e w2 ⟨v, rfl, h1, h2⟩; have HH := zz (And.intro h1 h2); clear h1 h2)
 go_ret
 exact ⟨_, rfl, HH.out.1, HH.out.2⟩
end

section
open Go.RowKit Go.Maps
noncomputable def runA (t : PT) : List R → Option PT
 | [] => some t
 | r :: l => if (playA t r).1 = 0 then runA (playA t r).2 l else none
section
variable {t u v : PT} {x y r : R} {l A B : List R}
theorem runA_cons : runA t (r :: l) = some u ↔ (playA t r).1 = 0 ∧ runA (playA t r).2 l = some u := by
 show (if _ then _ else none) = some u ↔ _
 by_cases h : (playA t r).1 = 0
 · rw [if_pos h]
   constructor
   · intro e
     exact ⟨h, e⟩
   · intro e
     exact e.2
 · rw [if_neg h]
   constructor
   · intro e
     cases e
   · intro e
     exact absurd e.1 h
theorem runA_append : ∀ {A : List R} {t : PT}, runA t (A ++ B) = some u ↔ ∃ v, runA t A = some v ∧ runA v B = some u
 | [], t => ⟨fun h => ⟨t, rfl, h⟩, fun ⟨v, h1, h2⟩ => by cases h1; exact h2⟩
 | a :: A, t => by
  rw [List.cons_append, runA_cons, runA_append]
  constructor
  · rintro ⟨h, v, h1, h2⟩
    exact ⟨v, runA_cons.2 ⟨h, h1⟩, h2⟩
  · rintro ⟨v, h1, h2⟩
    obtain ⟨h, h3⟩ := runA_cons.1 h1
    exact ⟨h, v, h3, h2⟩
theorem runA_one : runA t [r] = some u ↔ (playA t r).1 = 0 ∧ (playA t r).2 = u := by
 rw [runA_cons]
 exact ⟨fun ⟨a, b⟩ => ⟨a, by cases b; rfl⟩, fun ⟨a, b⟩ => ⟨a, by rw [b]; rfl⟩⟩
theorem runA_well : ∀ {l : List R} {t : PT}, WellP t → (∀ r ∈ l, r.Ok) → runA t l = some u → WellP u
 | [], t, h, _, e => by cases e; exact h
 | r :: l, t, h, ho, e => by
  obtain ⟨_, e2⟩ := runA_cons.1 e
  exact runA_well (h.playA_ (ho r (by simp))) (fun x hx => ho x (List.mem_cons_of_mem _ hx)) e2
theorem runA_held : ∀ {l : List R} {t : PT} {K : Int}, HeldK K t → 0 ≤ K → runA t l = some u → HeldK (K + l.length) u
 | [], t, K, h, _, e => by cases e; simpa using h
 | r :: l, t, K, h, h0, e => by
  obtain ⟨_, e2⟩ := runA_cons.1 e
  have := runA_held (K := K + 1) (h.playA_ h0 r) (by omega) e2
  rw [List.length_cons]
  exact this.mono (by omega)
theorem runA_check : ∀ {l : List R} {t : PT}, runA t l = some u → ∀ r ∈ l, checkB r = true
 | [], t, _, r, hr => by simp at hr
 | a :: l, t, e, r, hr => by
  obtain ⟨e1, e2⟩ := runA_cons.1 e
  rcases List.mem_cons.1 hr with rfl | h
  · cases hc : checkB r
    · unfold playA at e1
      simp [hc] at e1
    · rfl
  · exact runA_check e2 r h
theorem runA_swap (h : WellP t) (hx : x.Ok) (hy : y.Ok) (hm : meetB x y = false) (e : runA t (x :: y :: l) = some u) : runA t (y :: x :: l) = some u := by
 obtain ⟨e1, e2⟩ := runA_cons.1 e
 obtain ⟨e3, e4⟩ := runA_cons.1 e2
 obtain ⟨q1, q2, q3⟩ := apart_play h hx hy hm
 refine runA_cons.2 ⟨q2 ▸ e3, runA_cons.2 ⟨q1 ▸ e1, ?_⟩⟩
 rw [q3]
 exact e4
theorem runA_bubble (hy : y.Ok) : ∀ {B : List R} {t : PT}, WellP t → (∀ r ∈ B, r.Ok) → (∀ r ∈ B, meetB r y = false) → runA t (B ++ [y]) = some u → runA t (y :: B) = some u
 | [], t, _, _, _, e => e
 | a :: B, t, h, ho, hm, e => by
  obtain ⟨e1, e2⟩ := runA_cons.1 e
  have ih := runA_bubble hy (h.playA_ (ho a (by simp))) (fun r hr => ho r (List.mem_cons_of_mem _ hr)) (fun r hr => hm r (List.mem_cons_of_mem _ hr)) e2
  exact runA_swap h (ho a (by simp)) hy (hm a (by simp)) (runA_cons.2 ⟨e1, ih⟩)
theorem runA_keeps {i : Int} : ∀ {l : List R} {t : PT}, WellP t → (∀ r ∈ l, r.Ok) → (∀ r ∈ l, ¬ wIr r i) → runA t l = some u → hdP u i = hdP t i
 | [], t, _, _, _, e => by cases e; rfl
 | a :: l, t, h, ho, hw, e => by
  have hc := runA_check e a (by simp)
  obtain ⟨e1, e2⟩ := runA_cons.1 e
  have ih := runA_keeps (h.playA_ (ho a (by simp))) (fun r hr => ho r (List.mem_cons_of_mem _ hr)) (fun r hr => hw r (List.mem_cons_of_mem _ hr)) e2
  rw [ih]
  unfold playA
  rw [if_pos hc]
  exact (keeps_actA (r := a) h hc).hd i (hw a (by simp))
theorem stat_same {i : Int} (h : hdP u i = hdP t i) : statR u i = statR t i := by
 unfold statR
 cases hx : t.n i with
 | none =>
  have := hd_same h
  rw [hx] at this
  cases hu : u.n i with
  | none => rfl
  | some z => rw [hu] at this; cases this
 | some x =>
  obtain ⟨z, hz, hb⟩ := hd_get h hx
  rw [hz]
  have h1 : z.size = x.size := by have := congrArg PN.size hb; exact this
  unfold statP
  simp only [bare_kind hb, bare_links hb, h1]
theorem read_same {i p : Int} (h : hdP u i = hdP t i) : readR u i p = readR t i p := by
 unfold readR
 rw [there_congr (u := u) (t := t) (is := [i]) (by simpa using hd_same h)]
 unfold fileE'
 cases hx : t.n i with
 | none =>
  have := hd_same h
  rw [hx] at this
  cases hu : u.n i with
  | none => rfl
  | some z => rw [hu] at this; cases this
 | some x =>
  obtain ⟨z, hz, hb⟩ := hd_get h hx
  rw [hz]
  have h1 : z.size = x.size := by have := congrArg PN.size hb; exact this
  have h2 : z.pages = x.pages := by have := congrArg PN.pages hb; exact this
  have h3 : readL z p = readL x p := by unfold readL; rw [h1, h2]
  have h4 : fileQE z = fileQE x := by unfold fileQE; rw [bare_kind hb]
  simp only [h3, h4]
end
section
variable {t u : PT} {l : List R} {inos : List Int}
theorem pick_mem {of : Bool} {i : Nat} {r : R} (h : r ∈ pickTo l inos of i) : ∃ k, k < i ∧ inB l inos l.length k = of ∧ r = rAt l k := by
 unfold pickTo at h
 obtain ⟨k, hk, rfl⟩ := List.mem_map.1 h
 obtain ⟨h1, h2⟩ := List.mem_filter.1 hk
 exact ⟨k, List.mem_range.1 h1, by simpa using h2, rfl⟩
theorem rAt_memJ {k : Nat} (h : k < l.length) : rAt l k ∈ l := by
 unfold rAt
 rw [List.getD_eq_getElem?_getD, List.getElem?_eq_getElem h]
 exact List.getElem_mem h
theorem pick_in {of : Bool} {r : R} (h : r ∈ pickL l inos of) : r ∈ l := by
 obtain ⟨k, hk, _, rfl⟩ := pick_mem h
 exact rAt_memJ hk
theorem runA_part (h : WellP t) (ho : ∀ r ∈ l, r.Ok) : ∀ {i : Nat} {u : PT}, i ≤ l.length → runA t (l.take i) = some u → runA t (pickTo l inos true i ++ pickTo l inos false i) = some u
 | 0, u, _, e => by simpa [pickTo] using e
 | i + 1, u, hi, e => by
  have hil : i < l.length := by omega
  have et : l.take (i + 1) = l.take i ++ [rAt l i] := by
   rw [List.take_add_one, List.getElem?_eq_getElem hil]
   congr 1
   unfold rAt
   rw [List.getD_eq_getElem?_getD, List.getElem?_eq_getElem hil]
   rfl
  rw [et] at e
  obtain ⟨v, e1, e2⟩ := runA_append.1 e
  have ih := runA_part h ho (by omega) e1
  rw [pickTo_succ, pickTo_succ]
  have hy : (rAt l i).Ok := ho _ (rAt_memJ hil)
  cases hb : inB l inos l.length i
  · rw [if_neg (by simp), if_pos (by simp), List.append_nil, ← List.append_assoc]
    exact runA_append.2 ⟨v, ih, e2⟩
  · rw [if_pos (by simp), if_neg (by simp), List.append_nil]
    obtain ⟨ta, a1, a2⟩ := runA_append.1 ih
    have hwa : WellP ta := runA_well h (fun r hr => ho r (by obtain ⟨k, hk, _, rfl⟩ := pick_mem hr; exact rAt_memJ (by omega))) a1
    have b1 : runA ta (pickTo l inos false i ++ [rAt l i]) = some u := runA_append.2 ⟨v, a2, e2⟩
    have b2 := runA_bubble hy hwa (fun r hr => ho r (by obtain ⟨k, hk, _, rfl⟩ := pick_mem hr; exact rAt_memJ (by omega))) (fun r hr => by
     obtain ⟨k, hk, hf, rfl⟩ := pick_mem hr
     cases hm : meetB (rAt l k) (rAt l i)
     · rfl
     · exfalso
       have c1 : InC l inos i := (inB_iff hil).1 hb
       have c2 : InC l inos k := .on c1 (onL_mem.2 ⟨hk, hm⟩)
       have c3 := (inB_iff (by omega)).2 c2
       rw [hf] at c3
       cases c3) b1
    rw [List.append_assoc]
    exact runA_append.2 ⟨ta, a1, b2⟩
theorem closure_plays (h : WellP t) (ho : ∀ r ∈ l, r.Ok) (e : runA t l = some u) :
  ∃ v, runA t (pickL l inos true) = some v ∧ runA v (pickL l inos false) = some u ∧ ∀ i ∈ inos, hdP u i = hdP v i := by
 have e1 := runA_part (inos := inos) h ho (Nat.le_refl l.length) (by rw [List.take_length]; exact e)
 obtain ⟨v, e2, e3⟩ := runA_append.1 e1
 refine ⟨v, e2, e3, fun i hi => ?_⟩
 have hv : WellP v := runA_well h (fun r hr => ho r (pick_in hr)) e2
 have hck := runA_check e
 refine runA_keeps hv (fun r hr => ho r (pick_in hr)) (fun r hr hw => ?_) e3
 obtain ⟨k, hk, hf, rfl⟩ := pick_mem hr
 have hwr : writesB (rAt l k) inos = true := by
  unfold writesB
  refine List.any_eq_true.2 ⟨_, parts_ino (hck _ (rAt_memJ hk)) hw, ?_⟩
  unfold writesPt hasI
  simp [hi]
 have c2 := (inB_iff hk).2 (.own hk hwr : InC l inos k)
 rw [hf] at c2
 cases c2
end
end
end Go.Proofs.YtogljgiefmfafaaGreat
