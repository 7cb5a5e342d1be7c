/- Whether some places are closed, walked. -/
import Derived.Test.YtehckjkihaalfaaGreatCH
namespace Go.Proofs.YtehckjkihaalfaaGreat
open Go.RowKit Go.Maps

set_option maxHeartbeats 2000000 in
theorem t_indexInt (A : Option Addr) (n c : Nat) (xs : List Value) (g : Nat) (lb : Array Value) (p : Value → Bool) (w : World) (hl : xs.length = n) (hn : n ≤ maxLen) (hs : SliceAt w A xs)
    (eg : ∀ args w, (callFunc g args).run Tryz.prog w = .ok (.enter g args) w) (hp : PredV w g lb p xs) :
    Calls Tryz.prog 128 #[.slice A n c, .func (.func g) #[] lb] w fun e w' => FoundI (xs.any p) e ∧ Below w.heap.size w w' := by
  subst hl
  unfold maxLen at hn
  have HP := Lib.hid hp
  have HS := Lib.hid hs
  clear hp hs
  go_enter Tryz.func128, Tryz.ntmps128
  go_wp2
  go_loopw [8] (fun i wr => ∃ j : Nat, j ≤ xs.length ∧ i = .int .i64 j ∧ Hid ((xs.take j).any p = false) ∧ Below w.heap.size w wr) (fun i _ => xs.length - (intOf i).toNat)
  case atStart => exact ⟨0, Nat.zero_le _, rfl, rfl, Below.refl _ _⟩
  case round =>
    obtain ⟨j, hj, rfl, hno, hb⟩ := hrel
    by_cases hjn : j < xs.length
    · obtain ⟨b, o, rfl, hlt, hc⟩ := HS.out (by omega)
      have hx := List.getElem?_eq_getElem hjn
      have c1 := (hb.cell (p := ⟨b, o + j, none⟩) hlt).trans (hc j _ hx)
      have cS := HP.out wr xs[j] (List.getElem_mem hjn) hb
      have HX := Lib.hid hx
      obtain ⟨x, hxe⟩ : ∃ x, xs[j] = x := ⟨_, rfl⟩
      have HM : Hid (x ∈ xs) := by rw [← hxe]; exact List.getElem_mem hjn
      rw [hxe] at c1 cS HX
      clear hx hc hxe
      cases hpx : p x with
      | true =>
        rw [hpx] at cS
        have HF : Hid (FoundI (xs.any p) (.returned (.int .i64 (j : Int)))) := ⟨_, rfl, by rw [any_hit HM.out hpx]; simp⟩
        clear hpx
        go_wp2_with (go_at_fn g; refine cS.mono ?_; rintro e W' ⟨rfl, hb2⟩)
        go_ret
        exact ⟨HF.out, ptrans hb hb2⟩
      | false =>
        rw [hpx] at cS
        have HF : Hid ((xs.take (j + 1)).any p = false) := any_take_false hno.out HX.out hpx
        clear hpx
        go_wp2_with (go_at_fn g; refine cS.mono ?_; rintro e W' ⟨rfl, hb2⟩)
        go_roundw
        case rel => exact ⟨j + 1, by omega, by go_num, HF, ptrans hb hb2⟩
        case measure => simp [intOf]; omega
    · have HF : Hid (FoundI (xs.any p) (.returned (.int .i64 (-1)))) := ⟨_, rfl, by rw [List.take_of_length_le (by omega)] at hno; rw [hno.out]; rfl⟩
      go_wp2
      go_ret
      exact ⟨HF.out, hb⟩
theorem t_containsInt (A : Option Addr) (n c : Nat) (xs : List Value) (g : Nat) (lb : Array Value) (p : Value → Bool) (r : Bool) (hr : xs.any p = r) (w : World) (hl : xs.length = n) (hn : n ≤ maxLen) (hs : SliceAt w A xs)
    (eg : ∀ args w, (callFunc g args).run Tryz.prog w = .ok (.enter g args) w) (hp : PredV w g lb p xs) :
    Calls Tryz.prog 94 #[.slice A n c, .func (.func g) #[] lb] w fun e w' => e = .returned (.bool r) ∧ Below w.heap.size w w' := by
  have HR := Lib.hid hr
  clear hr
  have HP := Lib.hid (t_indexInt A n c xs g lb p w hl hn hs eg hp)
  clear hp hs
  go_enter Tryz.func94, Tryz.ntmps94
  go_wp2_with (go_at_call 128; refine HP.out.mono ?_; rintro e w' ⟨⟨k, rfl, hk⟩, hb⟩; have HN : Hid (decide (0 ≤ k) = r) := hk.trans HR.out; clear hk)
  go_ret
  exact ⟨pret_bool HN.out, hb⟩
/-- Those that a place meets ahead; none, where there is no place. -/
def onZ (l : List R) (k : Int) : List Nat := if 0 ≤ k ∧ k < l.length then onL l k.toNat else []
theorem onZ_nat (l : List R) (k : Nat) (hk : k < l.length) : onZ l (k : Int) = onL l k := by
  unfold onZ
  rw [if_pos ⟨by omega, by omega⟩]
  simp
theorem onZ_len (l : List R) (k : Int) : (onZ l k).length ≤ l.length := by
  unfold onZ
  split
  · rename_i h
    unfold onL
    refine Nat.le_trans (List.length_filter_le _ _) ?_
    simp
    omega
  · simp
set_option maxRecDepth 100000 in
set_option maxHeartbeats 4000000 in
theorem t_onZ (A : Option Addr) (c n : Nat) (k : Int) (hk : I64 k) (l : List R) (w : World) (hl : RecsAt w A l) (hn : l.length = n) (hn2 : n ≤ 60000) (hnc : n ≤ c) :
    Calls Tryz.prog 44 #[.slice A n c, .int .i64 k] w fun e w' => ∃ v, e = .returned v ∧ w'.ownsRow w.heap.size 3 1 v (onZ l k).length (natV (onZ l k)) ∧ Below w.heap.size w w' := by
  by_cases h0 : k < 0
  · have hz : onZ l k = [] := by unfold onZ; rw [if_neg (by omega)]
    rw [hz]
    go_enter Tryz.func44, Tryz.ntmps44
    go_wp2
    go_ret
    exact ⟨_, rfl, World.ownsRow_nil _ _ _ _, Below.refl _ _⟩
  · by_cases h1 : (n : Int) ≤ k
    · have hz : onZ l k = [] := by unfold onZ; rw [if_neg (by omega)]
      rw [hz]
      go_enter Tryz.func44, Tryz.ntmps44
      go_wp2
      go_ret
      exact ⟨_, rfl, World.ownsRow_nil _ _ _ _, Below.refl _ _⟩
    · obtain ⟨j, rfl⟩ : ∃ j : Nat, k = (j : Int) := ⟨k.toNat, by omega⟩
      rw [onZ_nat l j (by omega)]
      exact t_on A c n j l w hl hn hn2 hnc (by omega)
/-- Is a place not among those that are named? -/
def lackP (ks : List Int) : Value → Bool
  | .int .i64 k => ks.count k == 0
  | _ => false
theorem t_lacks (Bh M N : Nat) (ks : List Int) (w : World) (hB : w.heap[Bh]? = some (.cells #[.map (some M)] 74 (0, 0))) (hM : MapAt w Tryz.prog 3 M N (cntI ks)) (k : Int) (hk : I64 k) :
    Calls Tryz.prog 93 #[.int .i64 k, .pointer (some ⟨Bh, 0, none⟩)] w fun e w' => e = .returned (.bool (lackP ks (.int .i64 k))) ∧ Below w.heap.size w w' := by
  have cB := box_cell hB
  have hlk := cntI_look hM hk
  have hq : lackP ks (.int .i64 k) = (((ks.count k : Nat) : Int) == 0) := by
    show (ks.count k == 0) = _
    rw [Bool.eq_iff_iff]
    simp only [beq_iff_eq]
    omega
  obtain ⟨cc, hcc⟩ : ∃ cc, ks.count k = cc := ⟨_, rfl⟩
  rw [hq]
  rw [hcc] at hlk ⊢
  clear hcc hq hM hB
  go_enter Tryz.func93, Tryz.ntmps93
  go_wp2
  go_ret
  exact ⟨rfl, Below.refl _ _⟩
/-- One that a place meets is not among those. -/
def lacksAny (l : List R) (ks : List Int) (k : Int) : Bool := (natV (onZ l k)).any (lackP ks)
def closedB (l : List R) (ks : List Int) : Bool := !ks.any (lacksAny l ks)
theorem enters_lacks : Enters 93 := enters_of Tryz.func93 (by kernel_rfl) rfl
theorem onZ_small {l : List R} {k : Int} (hl : l.length ≤ 60000) : ∀ j ∈ onZ l k, I64 (j : Int) := fun j hj => by
  unfold onZ at hj
  split at hj
  · rename_i h
    have := (onL_mem.1 hj).1
    exact ⟨by omega, by omega⟩
  · simp at hj
theorem lacks_pred (Bh M N : Nat) (ks : List Int) (l : List Nat) (w : World) (hB : w.heap[Bh]? = some (.cells #[.map (some M)] 74 (0, 0))) (hM : MapAt w Tryz.prog 3 M N (cntI ks)) (hl : ∀ j ∈ l, I64 (j : Int)) :
    PredV w 93 #[.pointer (some ⟨Bh, 0, none⟩)] (lackP ks) (natV l) := fun W x hx hb => by
  unfold natV at hx
  obtain ⟨j, hj, rfl⟩ := List.mem_map.1 hx
  exact t_lacks Bh M N ks W ((hb.block _ (lt_heap hB)).trans hB) (hM.below hb) j (hl j hj)
theorem slice_of_row {w : World} {base n c : Nat} {A : Option Addr} {e : TypeId} {xs : List Value} (h : w.ownsRow base e 1 (.slice A n c) n xs) : SliceAt w A xs := fun h0 => by
  have hl : xs.length = n := by have := h.1; omega
  rcases h.2 with ⟨h', h1⟩ | ⟨g, cap, cur, h', _, hc, _⟩
  · omega
  · simp only [Value.slice.injEq] at h'
    obtain ⟨rfl, _, rfl⟩ := h'
    refine ⟨g, 0, rfl, lt_heap hc, fun j x hx => ?_⟩
    have hj := (List.getElem?_eq_some_iff.1 hx).1
    rw [Nat.zero_add, h.cellAt j (by omega), hx]
/-- A row of numbers. -/
def IntsAt (w : World) (A : Option Addr) (l : List Int) : Prop := SliceAt w A (l.map (Value.int .i64))
theorem ints_cell {w : World} {A : Option Addr} {l : List Int} (h : IntsAt w A l) {k : Nat} (hk : k < l.length) : ∃ b o, A = some ⟨b, o, none⟩ ∧ w.cell? ⟨b, o + k, none⟩ = some (.int .i64 l[k]) := by
  obtain ⟨b, o, rfl, _, hc⟩ := h (by simp; omega)
  exact ⟨b, o, rfl, hc k _ (by simp [List.getElem?_eq_getElem hk])⟩
theorem wpList_next_I {ops : Array Oper} {rest : List Oper} {o : Oper} {a : Act} {w : World} {Q : Exit → Act → World → Prop} {b r n cnt : Nat} {ks : List Int} {left : Lit → Bool} (hg : o.guard = none) (it : Operand) (hop : o.op = Op.next it false)
    (hit : a.eval it = .pointer (some ⟨r, 0, none⟩)) (h : RangeAt w Tryz.prog 3 b r n (cntI ks) left cnt)
    (hDone : (∀ kl, left kl = false) → wpList Tryz.prog ops Q rest (a.put o.dst (.tuple #[.bool false])) w)
    (hMore : ∀ (k : Int) (c : Nat) (w' : World) (cnt' : Nat), left (.int .i64 k) = true → k ∈ ks → RangeAt w' Tryz.prog 3 b r n (cntI ks) (fun x => left x && !x.sameKey (.int .i64 k)) cnt' → cnt' < cnt → w.grownBy w' (some r) → w'.heap.size = w.heap.size →
      (Instr.entry (.pointer (some ⟨r, 0, none⟩))).run Tryz.prog w' = .ok (.tuple #[.int .i64 k, .int .i64 (c : Int)]) w' → wpList Tryz.prog ops Q rest (a.put o.dst (.tuple #[.bool true, .int .i64 k, .int .i64 (c : Int)])) w') :
    wpList Tryz.prog ops Q (o :: rest) a w := by
  refine wpList_plain hg fun K' hK' => ?_
  unfold Oper.wp
  rcases h.next law64 o.type with ⟨h0, hl, hrun⟩ | ⟨key, v, kl, w', cnt', hkey, hlk, hv, hrun, hrg, hlt, hgr, hsz, hen⟩
  · simp [execOp, hop, hit, hrun, Result.andThen]
    exact hK' _ _ (hDone hl)
  · obtain ⟨k, rfl, rfl, _⟩ := Maps.keyOf_int_inv Tryz.underlying3 hkey
    have hin : k ∈ ks := cntI_some.1 (by rw [hv]; rfl)
    obtain ⟨c, rfl⟩ : ∃ c : Nat, v = .int .i64 (c : Int) := by
      unfold cntI at hv
      simp only at hv
      split at hv
      · cases hv
      · injection hv with hv
        exact ⟨_, hv.symm⟩
    simp [execOp, hop, hit, hrun, Result.andThen]
    exact hK' _ _ (hMore k c w' cnt' hlk hin hrg hlt hgr hsz hen)
/-- The places counted, so far. -/
def Cnt1 (w : World) (ps : List Int) (wr : World) (i : Nat) : Prop :=
  MapAt wr Tryz.prog 3 w.heap.size i (cntI (ps.take i)) ∧ wr.heap[w.heap.size + 1]? = some (.cells #[.map (some w.heap.size)] 74 (0, 0)) ∧ Below w.heap.size w wr
theorem Cnt1.start (w : World) (ps : List Int) : Cnt1 w ps ((w.alloc (.map #[] 0)).alloc (.cells #[.map (some w.heap.size)] 74)) 0 := by
  have z1 : (w.alloc (.map #[] 0)).heap.size = w.heap.size + 1 := by simp
  refine ⟨?_, ?_, (below_a1' w _).trans (((Below.refl _ _).alloc (by rw [z1]; omega) _))⟩
  · refine MapAt.congr ?_ (m := fun _ => none) fun kl _ => by cases kl with | int q a => cases q <;> rfl | _ => rfl
    exact (MapAt.made w Tryz.prog 3).below ((Below.refl _ _).alloc (Nat.le_refl _) _)
  · have := heap_alloc_new (w.alloc (.map #[] 0)) (.cells #[.map (some w.heap.size)] 74)
    rw [z1] at this
    exact this
/-- The places looked at, so far. -/
def Seen2 (w : World) (l : List R) (ps : List Int) (RB N : Nat) (wr : World) : Prop :=
  ∃ left cnt, RangeAt wr Tryz.prog 3 w.heap.size RB N (cntI ps) left cnt ∧ (∀ k ∈ ps, left (.int .i64 k) = false → lacksAny l ps k = false) ∧ wr.heap[w.heap.size + 1]? = some (.cells #[.map (some w.heap.size)] 74 (0, 0)) ∧ Below w.heap.size w wr ∧ w.heap.size + 1 < RB
theorem closed_all {l : List R} {ps : List Int} {left : Lit → Bool} (h : ∀ k ∈ ps, left (.int .i64 k) = false → lacksAny l ps k = false) (hl : ∀ kl, left kl = false) : closedB l ps = true := by
  unfold closedB
  rw [Bool.not_eq_true', List.any_eq_false]
  intro k hk
  rw [h k hk (hl _)]
  simp
theorem closed_not {l : List R} {ps : List Int} {k : Int} (h : k ∈ ps) (hl : lacksAny l ps k = true) : closedB l ps = false := by
  unfold closedB
  rw [List.any_eq_true.2 ⟨k, h, hl⟩]
  rfl
set_option maxRecDepth 100000 in
set_option maxHeartbeats 4000000 in
theorem t_closed (A : Option Addr) (c n : Nat) (l : List R) (Ap : Option Addr) (np cp : Nat) (ps : List Int) (w : World) (hl : RecsAt w A l) (hn : l.length = n) (hn2 : n ≤ 1000) (hnc : n ≤ c) (hp : IntsAt w Ap ps) (hnp : ps.length = np) (hnp2 : np ≤ 60000) (hps : ∀ x ∈ ps, I64 x) :
    Calls Tryz.prog 46 #[.slice A n c, .slice Ap np cp] w fun e w' => e = .returned (.bool (closedB l ps)) ∧ Below w.heap.size w w' := by
  have HN := Lib.hid hn
  have HL := Lib.hid hl
  have HP := Lib.hid hp
  have HNP := Lib.hid hnp
  have HPS := Lib.hid hps
  clear hl hn hp hnp hps
  have hmm := @run_makeMap Tryz.prog
  go_enter Tryz.func46, Tryz.ntmps46
  go_wp2
  go_loopw [13] (fun x wr => ∃ i : Nat, x = .int .i64 (i : Int) ∧ i ≤ np ∧ Hid (Cnt1 w ps wr i)) (fun x _ => np - (intOf x).toNat)
  case atStart => exact ⟨0, rfl, Nat.zero_le _, Cnt1.start w ps⟩
  case round =>
    obtain ⟨i, rfl, hi, HI⟩ := hrel
    by_cases he : i = np
    · have he' : np = i := he.symm
      clear he
      subst he'
      obtain ⟨hM, hBx, hb⟩ := HI.out
      rw [List.take_of_length_le (by rw [HNP.out]; exact Nat.le_refl _)] at hM
      have cB := box_cell hBx
      obtain ⟨w5, lft, ct, hrng, hRg, hct, hlf, hb5, hs5⟩ := hM.range2 law64 Tryz.underlying74
      obtain ⟨RB, hRB⟩ : ∃ RB, wr.heap.size = RB := ⟨_, rfl⟩
      rw [hRB] at hrng
      have hst : Hid (Seen2 w l ps RB np w5) := by
        rw [hRB] at hRg
        refine ⟨lft, ct, hRg, fun k hk h1 => ?_, (hb5.block _ (lt_heap hBx)).trans hBx, ptrans hb hb5, by rw [← hRB]; exact lt_heap hBx⟩
        rw [hlf (.int .i64 k) trivial, cntI_some.2 hk] at h1
        cases h1
      clear hM hRg hct hlf hb5 hs5 hb hBx hRB HI
      go_wp2
      go_loopw [9] (fun _ wr => Hid (Seen2 w l ps RB np wr)) (fun _ wr => wr.rangeLeft w.heap.size RB)
      case atStart => exact hst
      case round =>
        have HS : Hid (Seen2 w l ps RB np wr) := hrel
        clear hrel
        obtain ⟨left, cnt, hrg, hok, hBx, hb, hRB⟩ := HS.out
        have HOK := Lib.hid hok
        have HBX := Lib.hid hBx
        have HB := Lib.hid hb
        have HRB := Lib.hid hRB
        clear hok hBx hb hRB
        go_wp2_with (at_next; refine wpList_next_I rfl _ rfl rfl hrg ?_ ?_)
        · intro hdone
          have HC := Lib.hid (closed_all HOK.out hdone)
          clear hdone hrg
          go_wp2
          go_ret
          exact ⟨by rw [HC.out]; rfl, HB.out⟩
        · intro k cc w6 cnt6 hlk hin hrg6 hlt6 hg6 hs6 hen
          have HIN := Lib.hid hin
          have HRG := Lib.hid hrg6
          have HLT : Hid (cnt6 < wr.rangeLeft w.heap.size RB) := by show _ < _; rw [hrg.left_eq]; exact hlt6
          have HB6 := Lib.hid (HB.out.grown hg6 HB.out.size (fun q hq => by injection hq with hq; have := HRB.out; omega))
          have HBX6 := Lib.hid ((hg6.block _ (lt_heap HBX.out) (fun e => by injection e with e; have := HRB.out; omega)).trans HBX.out)
          have HI6 := Lib.hid (HPS.out k hin)
          clear hlk hin hrg6 hlt6 hg6 hs6 hrg
          go_wp2_with (go_at_call 44; (with_reducible refine (t_onZ A c n k HI6.out l _ (HL.out.below HB6.out) HN.out (by omega) hnc).mono ?_); rintro e w7 ⟨v7, rfl, h1, h2⟩; obtain ⟨A7, c7, rfl⟩ := row_slice h1; have H7 := Lib.hid (And.intro h1 h2); clear h1 h2)
          have hcon := t_containsInt A7 (onZ l k).length c7 (natV (onZ l k)) 93 #[.pointer (some ⟨w.heap.size + 1, 0, none⟩)] (lackP ps) (lacksAny l ps k) rfl w7 (by unfold natV; rw [List.length_map]) (Nat.le_trans (onZ_len l k) (by rw [HN.out]; unfold maxLen; omega)) (slice_of_row H7.out.1) enters_lacks
            (lacks_pred _ _ _ ps _ w7 ((H7.out.2.block _ (lt_heap HBX6.out)).trans HBX6.out) (HRG.out.owns.below H7.out.2) (by have := onZ_len l k; rw [HN.out] at this; exact onZ_small (by rw [HN.out]; omega)))
          have HCON := Lib.hid hcon
          clear hcon
          go_wp2_with (go_at_call 94; (with_reducible refine HCON.out.mono ?_); rintro e w8 ⟨rfl, hb8⟩; have HB8 := Lib.hid (ptrans H7.out.2 hb8); cases hla : lacksAny l ps k <;> clear hb8)
          · have HSS : Hid (Seen2 w l ps RB np w8) := by
              refine ⟨_, _, HRG.out.below HB8.out, fun j hj h9 => ?_, (HB8.out.block _ (lt_heap HBX6.out)).trans HBX6.out, ptrans HB6.out HB8.out, HRB.out⟩
              by_cases e : j = k
              · rw [e]; exact hla
              · refine HOK.out j hj ?_
                simpa [Lit.sameKey, e] using h9
            have HM8 : Hid (w8.rangeLeft w.heap.size RB < wr.rangeLeft w.heap.size RB) := by
              have := (HRG.out.below HB8.out).left_eq
              have h10 := HLT.out
              show _ < _
              omega
            go_roundw
            case rel => exact HSS
            case measure => exact HM8.out
          · have HC := Lib.hid (closed_not HIN.out hla)
            go_ret
            exact ⟨by rw [HC.out]; rfl, ptrans HB6.out HB8.out⟩
    · have hi2 : i < np := by omega
      obtain ⟨hM, hBx, hb⟩ := HI.out
      have cB := box_cell hBx
      obtain ⟨b, o, rfl, c1⟩ := ints_cell (HP.out.below hb) (k := i) (by rw [HNP.out]; exact hi2)
      obtain ⟨x, hx⟩ : ∃ x, ps[i]'(by rw [HNP.out]; exact hi2) = x := ⟨_, rfl⟩
      rw [hx] at c1
      have HX : Hid (ps[i]? = some x) := by show _ = _; rw [← hx]; exact List.getElem?_eq_getElem _
      have hxI := HPS.out x (List.mem_of_getElem? HX.out)
      have hlk := cntI_look hM hxI
      obtain ⟨W1, hup, hM1, ht⟩ := cntI_turn hM hxI (by omega)
      have H1 : Hid (Cnt1 w ps W1 (i + 1)) := by
        have hg := ht.grown
        refine ⟨?_, (hg.block _ (lt_heap hBx) (fun e => by have := Option.some.inj e; omega)).trans hBx, ?_⟩
        · rw [List.take_add_one, HX.out]
          exact hM1
        · exact hb.grown hg hb.size (fun q hq => by injection hq with hq; omega)
      have hcl : (ps.take i).count x ≤ 60000 := Nat.le_trans List.count_le_length (by rw [List.length_take]; omega)
      obtain ⟨cc, hcc⟩ : ∃ cc, (ps.take i).count x = cc := ⟨_, rfl⟩
      rw [hcc] at hlk hup hcl
      clear hM hBx hb hM1 ht hcc hx hxI
      go_wp2
      go_roundw
      case rel => exact ⟨i + 1, rfl, hi2, H1⟩
      case measure => simp only [intOf]; omega
end Go.Proofs.YtehckjkihaalfaaGreat
