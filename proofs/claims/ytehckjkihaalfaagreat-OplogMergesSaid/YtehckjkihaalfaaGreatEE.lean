/- The heap of fronts: up, down, Push, Pop, Remove, Fix. -/
import Derived.Test.YtehckjkihaalfaaGreatEC
namespace Go.Proofs.YtehckjkihaalfaaGreat
open Go.RowKit Go.Maps

/-- A heap's list behind a pointer. -/
structure FrAt (w : World) (K : Nat → Prop) (Bw : Nat) (l : List Fr) : Prop where
  row : ∃ A c, w.heap[Bw]? = some (.cells #[.slice A l.length c] 87 (0, 0)) ∧ OwnF w K (.slice A l.length c) l.length l
  lt : K Bw
  keys : ∀ e ∈ l, FrOk w K e ∧ e.q ≠ Bw
theorem FrOk.stays {w w' : World} {K : Nat → Prop} {Bw : Nat} {e : Fr} (h : FrOk w K e) (hne : e.q ≠ Bw) (hb : StaysB K Bw w w') : FrOk w' K e := ⟨fun hn => (World.cell?_of_block (a := ⟨e.q, e.o, none⟩) (hb.old _ ⟨h.2, hne⟩)).trans (h.1 hn), h.2⟩
theorem FrAt.keysB {w w' : World} {K : Nat → Prop} {Bw : Nat} {l l' : List Fr} (h : FrAt w K Bw l) (hp : l'.Perm l) (hb : StaysB K Bw w w') : ∀ e ∈ l', FrOk w' K e ∧ e.q ≠ Bw := fun e he => ⟨(h.keys e (hp.mem_iff.1 he)).1.stays (h.keys e (hp.mem_iff.1 he)).2 hb, (h.keys e (hp.mem_iff.1 he)).2⟩
theorem FrAt.same {w w' : World} {K : Nat → Prop} {Bw : Nat} {l : List Fr} (h : FrAt w K Bw l) (hb : Below w.heap.size w w') (hG : ∀ b, K b → b < w.heap.size) : FrAt w' K Bw l := by
  obtain ⟨A, c, h1, h2⟩ := h.row
  exact ⟨⟨A, c, (hb.block _ (lt_heap h1)).trans h1, h2.below hb⟩, h.lt, fun e he => ⟨(h.keys e he).1.below hb hG, (h.keys e he).2⟩⟩
abbrev frI (Bw : Nat) : Value := .iface 89 (.pointer (some ⟨Bw, 0, none⟩))
theorem fmLess0 (Bw : Nat) (w : World) : Sem.run Tryz.prog (method 368 89 (.pointer (some ⟨Bw, 0, none⟩)) "Less") w = Sem.run Tryz.prog (do let v ← loadVar 87 ⟨Bw, 0, none⟩; pure (229, v)) w := by kernel_rfl
theorem fmSwap0 (Bw : Nat) (w : World) : Sem.run Tryz.prog (method 368 89 (.pointer (some ⟨Bw, 0, none⟩)) "Swap") w = Sem.run Tryz.prog (do let v ← loadVar 87 ⟨Bw, 0, none⟩; pure (230, v)) w := by kernel_rfl
theorem fmLen0 (Bw : Nat) (w : World) : Sem.run Tryz.prog (method 368 89 (.pointer (some ⟨Bw, 0, none⟩)) "Len") w = Sem.run Tryz.prog (do let v ← loadVar 87 ⟨Bw, 0, none⟩; pure (228, v)) w := by kernel_rfl
theorem fmLess (Bw : Nat) (v : Value) (w : World) (h : w.cell? ⟨Bw, 0, none⟩ = some v) : Sem.run Tryz.prog (method 368 89 (.pointer (some ⟨Bw, 0, none⟩)) "Less") w = .ok (229, v) w := by
  rw [fmLess0]
  simp [go_sem, h]
theorem fmSwap (Bw : Nat) (v : Value) (w : World) (h : w.cell? ⟨Bw, 0, none⟩ = some v) : Sem.run Tryz.prog (method 368 89 (.pointer (some ⟨Bw, 0, none⟩)) "Swap") w = .ok (230, v) w := by
  rw [fmSwap0]
  simp [go_sem, h]
theorem fmLen (Bw : Nat) (v : Value) (w : World) (h : w.cell? ⟨Bw, 0, none⟩ = some v) : Sem.run Tryz.prog (method 368 89 (.pointer (some ⟨Bw, 0, none⟩)) "Len") w = .ok (228, v) w := by
  rw [fmLen0]
  simp [go_sem, h]
theorem t_fLen (A : Option Addr) (n c : Nat) (w : World) : Calls Tryz.prog 228 #[.slice A n c] w fun e w' => e = .returned (.int .i64 (n : Int)) ∧ w = w' := by
  go_enter Tryz.func228, Tryz.ntmps228
  go_wp2
  go_ret
  exact ⟨rfl, rfl⟩
/-- What Less answers. -/
def IsLt (b : Bool) (x y : Fr) : Prop := b = decide (frLt x y)
theorem IsLt.t {x y : Fr} (h : IsLt true x y) : frLt x y := of_decide_eq_true h.symm
theorem IsLt.f {x y : Fr} (h : IsLt false x y) : ¬ frLt x y := of_decide_eq_false h.symm
theorem c_less (K : Nat → Prop) (n c : Nat) (A : Option Addr) (l : List Fr) (i k : Nat) (w : World) (h : OwnF w K (.slice A n c) n l) (hf : ∀ e ∈ l, FrOk w K e) (hi : i < n) (hk : k < n) (hn1 : 1 ≤ (fAt l i).n) (hn2 : 1 ≤ (fAt l k).n) (hn : n ≤ 60000) :
    Calls Tryz.prog 229 #[.slice A n c, .int .i64 (i : Int), .int .i64 (k : Int)] w fun e w' => (∃ b, e = .returned (.bool b) ∧ IsLt b (fAt l i) (fAt l k)) ∧ Below w.heap.size w w' :=
  (t_fLess K n c A l i k w h hf hi hk hn1 hn2 hn).mono fun _ _ hh => ⟨⟨_, hh.1, rfl⟩, hh.2⟩
/-- What a swap leaves. -/
theorem FrAt.swapped {w w1 w2 : World} {K : Nat → Prop} {Bw n c i j : Nat} {A : Option Addr} {l : List Fr} (h : FrAt w K Bw l) (hk : w1.heap[Bw]? = some (.cells #[.slice A n c] 87 (0, 0))) (hn : l.length = n) (hi : i < n) (hj : j < n)
    (hb : StaysB K Bw w w1) (ho : OwnF w2 K (.slice A n c) n ((l.set i (fAt l j)).set j (fAt l i))) (hs : Stays K w1 w2) : ((l.set i (fAt l j)).set j (fAt l i)).Perm l ∧ FrAt w2 K Bw ((l.set i (fAt l j)).set j (fAt l i)) ∧ StaysB K Bw w w2 := by
  have hp : ((l.set i (fAt l j)).set j (fAt l i)).Perm l := swap_perm l i j _ _ (fAt_get (by omega)) (fAt_get (by omega))
  have hbb := hb.trans' hs.wide
  refine ⟨hp, ⟨⟨A, c, ?_, ?_⟩, h.lt, h.keysB hp hbb⟩, hbb⟩
  · rw [hp.length_eq, hn]
    exact (hs.old _ h.lt).trans hk
  · rw [hp.length_eq, hn]
    exact ho
/-- A Bool comes back. -/
def RetB (e : Ending) : Prop := ∃ b, e = .returned (.bool b)
theorem RetB.of {e : Ending} {b : Bool} (h : e = .returned (.bool b)) : RetB e := ⟨b, h⟩
theorem RetB.get {e : Ending} (h : RetB e) : ∃ b, e = .returned (.bool b) := h
theorem par_arith2 (i : Nat) : ∃ p : Nat, ((i : Int) - 1).tdiv 2 = (p : Int) ∧ p = par i ∧ (p < i ∨ (i = 0 ∧ p = 0)) := by
  rcases Nat.eq_zero_or_pos i with h0 | h0
  · subst h0
    exact ⟨0, by decide, rfl, .inr ⟨rfl, rfl⟩⟩
  · refine ⟨(i - 1) / 2, ?_, rfl, .inl (by omega)⟩
    rw [show (i : Int) - 1 = ((i - 1 : Nat) : Int) by omega]
    rw [Int.tdiv_eq_ediv_of_nonneg (by omega)]
    omega
set_option maxRecDepth 100000 in
set_option maxHeartbeats 4000000 in
theorem t_fUp0 (Bw : Nat) (w : World) : Calls Tryz.prog 96 #[frI Bw, .int .i64 0] w fun e w' => e = .returned (.tuple #[]) ∧ w = w' := by
  go_enter Tryz.func96, Tryz.ntmps96
  go_wp2
  go_loopw [1] (fun x wr => x = .int .i64 0 ∧ wr = w) (fun x _ => (intOf x).toNat)
  case atStart => exact ⟨rfl, rfl⟩
  case round =>
    obtain ⟨rfl, rfl⟩ := hrel
    have hw1 : wrap64 (-1) = -1 := by unfold wrap64; omega
    have hw2 : (-1 : Int).tdiv 2 = 0 := by decide
    go_wp2
    go_end0
    exact ⟨rfl, rfl⟩
set_option maxRecDepth 100000 in
set_option maxHeartbeats 4000000 in
theorem t_fUp (K : Nat → Prop) (Bw : Nat) (l : List Fr) (j : Nat) (w : World) (h : FrAt w K Bw l) (hj : j < l.length) (hu : UpInv (fAt l) l.length j) (hpos : ∀ e ∈ l, 1 ≤ e.n) (hn : l.length ≤ 60000) (hG : ∀ b, K b → b < w.heap.size) :
    Calls Tryz.prog 96 #[frI Bw, .int .i64 (j : Int)] w fun e w' => e = .returned (.tuple #[]) ∧ ∃ l', l'.Perm l ∧ HeapL l' ∧ FrAt w' K Bw l' ∧ StaysB K Bw w w' := by
  have HH := Lib.hid h
  clear h
  obtain ⟨n, hnn⟩ : ∃ n, n = l.length := ⟨_, rfl⟩
  rw [← hnn] at hj hn hu
  have HU := Lib.hid hu
  have HPOS := Lib.hid hpos
  have HN := Lib.hid hnn
  clear hnn hu hpos
  go_enter Tryz.func96, Tryz.ntmps96
  go_wp2
  go_loopw [1] (fun x wr => ∃ (i : Nat) (l' : List Fr), x = .int .i64 (i : Int) ∧ i < n ∧ Hid (l'.Perm l ∧ UpInv (fAt l') n i ∧ FrAt wr K Bw l' ∧ StaysB K Bw w wr)) (fun x _ => (intOf x).toNat)
  case atStart => exact ⟨j, l, rfl, hj, List.Perm.refl _, HU.out, HH.out, Stays.refl' _ _⟩
  case round =>
    obtain ⟨i, l', rfl, hi, HI⟩ := hrel
    have hl' : l'.length = n := HI.out.1.length_eq.trans HN.out.symm
    obtain ⟨A, c, k1, k2⟩ := HI.out.2.2.1.row
    rw [hl'] at k1 k2
    have HL' := Lib.hid hl'
    have HK := Lib.hid k2
    have HK1 := Lib.hid k1
    have cW := box_cell k1
    have HGr : Hid (∀ b, K b → b < wr.heap.size) := fun b hb => Nat.lt_of_lt_of_le (hG b hb) HI.out.2.2.2.size
    clear k1 k2 hl'
    obtain ⟨p, hp, hpp, hpi⟩ := par_arith2 i
    have HPP := Lib.hid hpp
    clear hpp
    have hw1 : wrap64 ((i : Int) - 1) = (i : Int) - 1 := by unfold wrap64; omega
    rcases hpi with hpi | ⟨rfl, rfl⟩
    · have hne : ((p : Int) == (i : Int)) = false := by simp; omega
      have hpn : p < n := by omega
      go_wp2
      rw [fmLess _ _ _ cW]
      go_wp2_with (go_at_call 229; (with_reducible refine (c_less K n c A l' i p wr HK.out (fun e he => (HI.out.2.2.1.keys e he).1) hi hpn (HPOS.out _ (HI.out.1.mem_iff.1 (fAt_mem (by rw [HL'.out]; exact hi)))) (HPOS.out _ (HI.out.1.mem_iff.1 (fAt_mem (by rw [HL'.out]; exact hpn)))) hn).mono ?_); rintro e w1 ⟨⟨b, rfl, hlt⟩, hb⟩; have HLT := Lib.hid hlt; clear hlt; cases b)
      · have HW := Lib.hid (And.intro (HI.out.2.2.1.same hb HGr.out) (HI.out.2.2.2.trans' (Stays.belowB hb HGr.out)))
        go_end0
        refine ⟨rfl, l', HI.out.1, ?_, HW.out.1, HW.out.2⟩
        unfold HeapL
        rw [HL'.out]
        exact HI.out.2.1.stop (.inr (HPP.out ▸ HLT.out.f))
      · have hb1 : Hid (w1.heap[Bw]? = some (.cells #[.slice A n c] 87 (0, 0))) := (hb.block _ (lt_heap HK1.out)).trans HK1.out
        have HW2 := Lib.hid (HI.out.2.2.2.trans' (Stays.belowB hb HGr.out))
        have HB := Lib.hid hb
        have HK2 := Lib.hid (HK.out.below hb)
        clear hb
        rw [fmSwap _ _ _ (box_cell hb1.out)]
        go_wp2_with (go_at_call 230; (with_reducible refine (t_fSwap K n c A l' p i w1 HK2.out hpn hi hpi hn).mono ?_); rintro e w2 ⟨rfl, h1, h2⟩; have HS := Lib.hid (And.intro h1 h2); clear h1 h2)
        have hsw := HI.out.2.2.1.swapped hb1.out HL'.out hpn hi (Stays.belowB HB.out HGr.out) HS.out.1 HS.out.2
        have HSW := Lib.hid hsw
        clear hsw
        go_roundw
        case rel =>
          refine ⟨p, _, rfl, hpn, HSW.out.1.trans HI.out.1, ?_, HSW.out.2.1, HI.out.2.2.2.trans' HSW.out.2.2⟩
          rw [fAt_set (by rw [HL'.out]; exact hpn) (by rw [HL'.out]; exact hi), HPP.out]
          exact HI.out.2.1.step (by omega) hi (HPP.out ▸ HLT.out.t)
        case measure => simp only [intOf]; omega
    · go_wp2
      go_end0
      refine ⟨rfl, l', HI.out.1, ?_, HI.out.2.2⟩
      unfold HeapL
      rw [HL'.out]
      exact HI.out.2.1.stop (.inl rfl)
set_option maxRecDepth 100000 in
set_option maxHeartbeats 8000000 in
theorem t_fDown (K : Nat → Prop) (Bw : Nat) (l : List Fr) (m : Nat) (w : World) (h : FrAt w K Bw l) (h0 : 0 < m) (hm : m ≤ l.length) (hd : DownInv (fAt l) m 0) (hpos : ∀ k, k < m → 1 ≤ (fAt l k).n) (hn : l.length ≤ 60000) (hG : ∀ b, K b → b < w.heap.size) :
    Calls Tryz.prog 97 #[frI Bw, .int .i64 0, .int .i64 (m : Int)] w fun e w' => RetB e ∧ ∃ l', l'.Perm l ∧ HeapF (fAt l') m ∧ (∀ k, m ≤ k → fAt l' k = fAt l k) ∧ FrAt w' K Bw l' ∧ StaysB K Bw w w' := by
  have HH := Lib.hid h
  clear h
  obtain ⟨n, hnn⟩ : ∃ n, n = l.length := ⟨_, rfl⟩
  rw [← hnn] at hm hn
  have HD := Lib.hid hd
  have HPOS := Lib.hid hpos
  have HN := Lib.hid hnn
  clear hnn hd hpos
  go_enter Tryz.func97, Tryz.ntmps97
  go_wp2
  go_loopw [7] (fun x wr => ∃ (i : Nat) (l' : List Fr), x = .int .i64 (i : Int) ∧ i < m ∧ Hid (l'.Perm l ∧ DownInv (fAt l') m i ∧ ((∀ k, m ≤ k → fAt l' k = fAt l k) ∧ ∀ k, k < m → 1 ≤ (fAt l' k).n) ∧ FrAt wr K Bw l' ∧ StaysB K Bw w wr)) (fun x _ => m - (intOf x).toNat)
  case atStart => exact ⟨0, l, rfl, h0, List.Perm.refl _, HD.out, ⟨fun _ _ => rfl, HPOS.out⟩, HH.out, Stays.refl' _ _⟩
  case round =>
    obtain ⟨i, l', rfl, hi, HI⟩ := hrel
    have hl' : l'.length = n := HI.out.1.length_eq.trans HN.out.symm
    obtain ⟨A, c, k1, k2⟩ := HI.out.2.2.2.1.row
    rw [hl'] at k1 k2
    have HL' := Lib.hid hl'
    have HK := Lib.hid k2
    have HK1 := Lib.hid k1
    have cW := box_cell k1
    have HGr : Hid (∀ b, K b → b < wr.heap.size) := fun b hb => Nat.lt_of_lt_of_le (hG b hb) HI.out.2.2.2.2.size
    clear k1 k2 hl'
    have hi5 : i < n := by omega
    have HEND : Hid (∀ (x : Int) (j : Nat) (w1 : World), x = (j : Int) → i < j → j < m → par j = i → (∀ k, 1 ≤ k → k < m → par k = i → ¬ frLt (fAt l' k) (fAt l' j)) → frLt (fAt l' j) (fAt l' i) → Below wr.heap.size wr w1 → Calls Tryz.prog 230 #[.slice A n c, .int .i64 (i : Int), .int .i64 x] w1 fun e w2 => e = .returned (.tuple #[]) ∧ ∃ l2, l2.Perm l ∧ DownInv (fAt l2) m j ∧ ((∀ k, m ≤ k → fAt l2 k = fAt l k) ∧ ∀ k, k < m → 1 ≤ (fAt l2 k).n) ∧ FrAt w2 K Bw l2 ∧ StaysB K Bw w w2) := by
      rintro _ j w1 rfl hj1 hj2 hj3 hj4 hj5 hb
      refine (t_fSwap K n c A l' i j w1 (HK.out.below hb) hi5 (by omega) hj1 hn).mono ?_
      rintro e w2 ⟨rfl, h1, h2⟩
      have hb1 : w1.heap[Bw]? = some (.cells #[.slice A n c] 87 (0, 0)) := (hb.block _ (lt_heap HK1.out)).trans HK1.out
      have hsw := HI.out.2.2.2.1.swapped hb1 HL'.out hi5 (by omega : j < n) (Stays.belowB hb HGr.out) h1 h2
      refine ⟨rfl, _, hsw.1.trans HI.out.1, ?_, ⟨fun k hk => ?_, fun k hk => ?_⟩, hsw.2.1, HI.out.2.2.2.2.trans' hsw.2.2⟩
      · rw [fAt_set (by rw [HL'.out]; exact hi5) (by rw [HL'.out]; omega)]
        exact HI.out.2.1.step (by omega) hj2 hj3 hj4 hj5
      · rw [fAt_set (by rw [HL'.out]; exact hi5) (by rw [HL'.out]; omega)]
        unfold swapF
        rw [if_neg (by omega), if_neg (by omega)]
        exact HI.out.2.2.1.1 k hk
      · rw [fAt_set (by rw [HL'.out]; exact hi5) (by rw [HL'.out]; omega)]
        unfold swapF
        split
        · exact HI.out.2.2.1.2 i hi
        · split
          · exact HI.out.2.2.1.2 j hj2
          · exact HI.out.2.2.1.2 k hk
    have HOUT : Hid (∀ w1, Below wr.heap.size wr w1 → (∀ k, 1 ≤ k → k < m → par k = i → ¬ frLt (fAt l' k) (fAt l' i)) → l'.Perm l ∧ HeapF (fAt l') m ∧ (∀ k, m ≤ k → fAt l' k = fAt l k) ∧ FrAt w1 K Bw l' ∧ StaysB K Bw w w1) := fun w1 hb hh => ⟨HI.out.1, HI.out.2.1.stop hh, HI.out.2.2.1.1, HI.out.2.2.2.1.same hb HGr.out, HI.out.2.2.2.2.trans' (Stays.belowB hb HGr.out)⟩
    have HCW : Hid (∀ w1, Below wr.heap.size wr w1 → w1.cell? ⟨Bw, 0, none⟩ = some (.slice A n c)) := fun w1 hb => box_cell ((hb.block _ (lt_heap HK1.out)).trans HK1.out)
    have HLS : Hid (∀ (x y : Int) (p q : Nat) (w1 : World), x = (p : Int) → y = (q : Int) → Below wr.heap.size wr w1 → p < m → q < m → Calls Tryz.prog 229 #[.slice A n c, .int .i64 x, .int .i64 y] w1 fun e w2 => (∃ b, e = .returned (.bool b) ∧ IsLt b (fAt l' p) (fAt l' q)) ∧ Below wr.heap.size wr w2) := by
      rintro _ _ p q w1 rfl rfl hb h2 h4
      exact (c_less K n c A l' p q w1 (HK.out.below hb) (fun e he => ((HI.out.2.2.2.1.keys e he).1.below hb HGr.out)) (by omega) (by omega) (HI.out.2.2.1.2 p h2) (HI.out.2.2.1.2 q h4) hn).mono fun e w2 h => ⟨h.1, ptrans hb h.2⟩
    have hj3 : ∀ k, 1 ≤ k → par k = i → k = 2 * i + 1 ∨ k = 2 * i + 2 := fun k h1 h2 => by unfold par at h2; omega
    have HJ3 := Lib.hid hj3
    clear hj3
    have HJ1 : Hid (par (2 * i + 1) = i) := by show par _ = _; unfold par; omega
    have HJ2 : Hid (par (2 * i + 2) = i) := by show par _ = _; unfold par; omega
    by_cases hj1 : 2 * i + 1 < m
    · by_cases hj2 : 2 * i + 2 < m
      · go_wp2
        rw [fmLess _ _ _ cW]
        go_wp2_with (go_at_call 229; (with_reducible refine (HLS.out _ _ (2 * i + 2) (2 * i + 1) _ (by omega) (by omega) (Below.refl _ _) (by omega) (by omega)).mono ?_); rintro e w1 ⟨⟨b, rfl, hlt⟩, hb⟩; have HB := Lib.hid hb; have HLT := Lib.hid hlt; clear hb hlt; cases b)
        · rw [fmLess _ _ _ (HCW.out _ HB.out)]
          have hmin : Hid (∀ k, 1 ≤ k → k < m → par k = i → ¬ frLt (fAt l' k) (fAt l' (2 * i + 1))) := fun k a b c => by
            rcases HJ3.out k a c with rfl | rfl
            · exact fun h => frLt_asym h h
            · exact HLT.out.f
          go_wp2_with (go_at_call 229; (with_reducible refine (HLS.out _ _ (2 * i + 1) i _ (by omega) rfl HB.out (by omega) (by omega)).mono ?_); rintro e w2 ⟨⟨b, rfl, hlt⟩, hb⟩; have HB2 := Lib.hid hb; have HLT2 := Lib.hid hlt; clear hb hlt; cases b)
          · go_ret
            exact ⟨RetB.of rfl, l', HOUT.out _ HB2.out fun k a b c => frGe_trans (hmin.out k a b c) HLT2.out.f⟩
          · rw [fmSwap _ _ _ (HCW.out _ HB2.out)]
            go_wp2_with (go_at_call 230; (with_reducible refine (HEND.out _ (2 * i + 1) _ (by omega) (by omega) hj1 HJ1.out hmin.out HLT2.out.t HB2.out).mono ?_); rintro e w3 ⟨rfl, l2, h1⟩; have HS := Lib.hid h1; clear h1)
            go_roundw
            case rel => exact ⟨2 * i + 1, l2, rfl, hj1, HS.out⟩
            case measure => simp only [intOf]; omega
        · rw [fmLess _ _ _ (HCW.out _ HB.out)]
          have hmin : Hid (∀ k, 1 ≤ k → k < m → par k = i → ¬ frLt (fAt l' k) (fAt l' (2 * i + 2))) := fun k a b c => by
            rcases HJ3.out k a c with rfl | rfl
            · exact frLt_asym HLT.out.t
            · exact fun h => frLt_asym h h
          go_wp2_with (go_at_call 229; (with_reducible refine (HLS.out _ _ (2 * i + 2) i _ (by omega) rfl HB.out (by omega) (by omega)).mono ?_); rintro e w2 ⟨⟨b, rfl, hlt⟩, hb⟩; have HB2 := Lib.hid hb; have HLT2 := Lib.hid hlt; clear hb hlt; cases b)
          · go_ret
            exact ⟨RetB.of rfl, l', HOUT.out _ HB2.out fun k a b c => frGe_trans (hmin.out k a b c) HLT2.out.f⟩
          · rw [fmSwap _ _ _ (HCW.out _ HB2.out)]
            go_wp2_with (go_at_call 230; (with_reducible refine (HEND.out _ (2 * i + 2) _ (by omega) (by omega) hj2 HJ2.out hmin.out HLT2.out.t HB2.out).mono ?_); rintro e w3 ⟨rfl, l2, h1⟩; have HS := Lib.hid h1; clear h1)
            go_roundw
            case rel => exact ⟨2 * i + 2, l2, rfl, hj2, HS.out⟩
            case measure => simp only [intOf]; omega
      · have hmin : Hid (∀ k, 1 ≤ k → k < m → par k = i → ¬ frLt (fAt l' k) (fAt l' (2 * i + 1))) := fun k a b c => by
          rcases HJ3.out k a c with rfl | rfl
          · exact fun h => frLt_asym h h
          · omega
        go_wp2
        rw [fmLess _ _ _ cW]
        go_wp2_with (go_at_call 229; (with_reducible refine (HLS.out _ _ (2 * i + 1) i _ (by omega) rfl (Below.refl _ _) (by omega) (by omega)).mono ?_); rintro e w1 ⟨⟨b, rfl, hlt⟩, hb⟩; have HB := Lib.hid hb; have HLT2 := Lib.hid hlt; clear hb hlt; cases b)
        · go_ret
          exact ⟨RetB.of rfl, l', HOUT.out _ HB.out fun k a b c => frGe_trans (hmin.out k a b c) HLT2.out.f⟩
        · rw [fmSwap _ _ _ (HCW.out _ HB.out)]
          go_wp2_with (go_at_call 230; (with_reducible refine (HEND.out _ (2 * i + 1) _ (by omega) (by omega) hj1 HJ1.out hmin.out HLT2.out.t HB.out).mono ?_); rintro e w3 ⟨rfl, l2, h1⟩; have HS := Lib.hid h1; clear h1)
          go_roundw
          case rel => exact ⟨2 * i + 1, l2, rfl, hj1, HS.out⟩
          case measure => simp only [intOf]; omega
    · have HNO : Hid (∀ k, 1 ≤ k → k < m → par k = i → ¬ frLt (fAt l' k) (fAt l' i)) := fun k a b c => by
        rcases HJ3.out k a c with rfl | rfl <;> omega
      go_wp2
      go_ret
      exact ⟨RetB.of rfl, l', HOUT.out _ (Below.refl _ _) HNO.out⟩
end Go.Proofs.YtehckjkihaalfaaGreat
