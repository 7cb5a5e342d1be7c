/- Those of a row that are of the closure, or are not, walked. -/
import Derived.Test.YtehckjkihaalfaaGreatCG
import Derived.Laws.OwnMore
namespace Go.Proofs.YtehckjkihaalfaaGreat
open Go.RowKit Go.Maps

def cellsL (r : R) : List Value := (cellsR r).toList
def flatR (l : List R) : List Value := l.flatMap cellsL
theorem own_low {w : World} {base base' size n : Nat} {e : TypeId} {v : Value} {xs : List Value} (h : w.ownsRow base e size v n xs) (hb : base' ≤ base) : w.ownsRow base' e size v n xs :=
  ⟨h.1, h.2.elim .inl fun ⟨g, cap, cur, a, b, c⟩ => .inr ⟨g, cap, cur, a, Nat.le_trans hb b, c⟩⟩
theorem flatR_append (a b : List R) : flatR (a ++ b) = flatR a ++ flatR b := by unfold flatR; rw [List.flatMap_append]
theorem infoRec : ∃ i, Tryz.prog.info? 34 = some i ∧ i.zero = some (.agg #[.int .u64 0, .int .u8 0, .int .u32 0, .string ⟨#[]⟩, .int .u32 0, .int .u8 0, .int .u32 0, .string ⟨#[]⟩, .int .u32 0, .int .u32 0, .int .i64 0, .string ⟨#[]⟩]) ∧ i.size = 12 ∧ i.bytes = 96 := by
  have : (Tryz.prog.info? 34).map (fun i => (i.zero, i.size, i.bytes)) = some (some (.agg #[.int .u64 0, .int .u8 0, .int .u32 0, .string ⟨#[]⟩, .int .u32 0, .int .u8 0, .int .u32 0, .string ⟨#[]⟩, .int .u32 0, .int .u32 0, .int .i64 0, .string ⟨#[]⟩]), 12, 96) := by kernel_rfl
  obtain ⟨i, hi, he⟩ := Option.map_eq_some_iff.1 this
  simp only [Prod.mk.injEq] at he
  exact ⟨i, hi, he.1, he.2.1, he.2.2⟩
theorem run_append_rec (base ty : Nat) (w : World) (v : Value) (l : List R) (n : Nat) (hn : l.length = n) (hown : w.ownsRow base 34 12 v n (flatR l)) (q : Nat) (p : R) (hq : w.heap[q]? = some (.cells (cellsR p) 34 (0, 0)))
    (hl : n ≤ 100000) (hbase : base ≤ w.heap.size) :
    ∃ v' w', (Builtin.append_ #[37, 37] ty #[v, .slice (some ⟨q, 0, none⟩) 1 1]).run Tryz.prog w = .ok v' w' ∧ w'.ownsRow base 34 12 v' (n + 1) (flatR (l ++ [p])) ∧ w.grownBy w' v.ownBlock := by
  subst hn
  obtain ⟨i0, hi, hz0, hz1, hz2⟩ := infoRec
  obtain ⟨v', w', hrun, h2, h3, _, _⟩ := run_append_own_at (P := Tryz.prog) w base 37 ty 34 i0 _ 12 96 Tryz.underlying37 hi hz0 hz1 hz2 rfl (by decide) v l.length (flatR l) hown ⟨q, 0, none⟩ 1 1 (cellsL p)
    rfl (fun j u hu => by
      rw [Addr.add_mid, Nat.zero_add]
      simp only [World.cell?, hq]
      simpa [cellsL] using hu) (by simp [cellsL, Value.oneCell']) (by unfold maxLen; omega) (by omega) hbase
  exact ⟨v', w', hrun, by rw [flatR_append, show flatR [p] = cellsL p by simp [flatR]]; exact h2, h3⟩
theorem wpList_append_rec {ops : Array Oper} {rest : List Oper} {o : Oper} {a : Act} {Q : Exit → Act → World → Prop} {w : World} (hgd : o.guard = none) (s x : Operand)
    (ho : o.op = .call { callee := .builtin .append, args := #[s, x], argTypes := #[37, 37] })
    (base : Nat) (v : Value) (l : List R) (n k : Nat) (hn : l.length = n) (hk : n + 1 = k) (hs : a.eval s = v) (hown : w.ownsRow base 34 12 v n (flatR l)) (q : Nat) (p : R) (hx : a.eval x = .slice (some ⟨q, 0, none⟩) 1 1)
    (hq : w.heap[q]? = some (.cells (cellsR p) 34 (0, 0))) (hl : n ≤ 100000) (hbase : base ≤ w.heap.size)
    (h : ∀ A1 c1 w', w'.ownsRow base 34 12 (.slice A1 k c1) k (flatR (l ++ [p])) → w.grownBy w' v.ownBlock → wpList Tryz.prog ops Q rest (a.put o.dst (.slice A1 k c1)) w') : wpList Tryz.prog ops Q (o :: rest) a w :=
  wpList_plain hgd fun _ hK => by
    subst hk
    obtain ⟨v', w', hrun, h2, h3⟩ := run_append_rec base o.type w v l n hn hown q p hq hl hbase
    unfold Oper.wp execOp
    simp only [ho, resolve, invoke, builtin, Sem.run_bind, Sem.run_pure, Result.andThen_ok, List.map_toArray, List.map_cons, List.map_nil, hs, hx, hrun]
    obtain ⟨A1, c1, rfl⟩ := row_slice h2
    exact hK _ _ (h A1 c1 w' h2 h3)
/-- Those ahead of a place that are of the closure, or are not. -/
def pickTo (l : List R) (inos : List Int) (of : Bool) (i : Nat) : List R := ((List.range i).filter fun k => inB l inos l.length k == of).map (rAt l)
def pickL (l : List R) (inos : List Int) (of : Bool) : List R := pickTo l inos of l.length
theorem pickTo_succ (l : List R) (inos : List Int) (of : Bool) (i : Nat) : pickTo l inos of (i + 1) = pickTo l inos of i ++ (if (inB l inos l.length i == of) = true then [rAt l i] else []) := by
  unfold pickTo
  rw [List.range_succ, List.filter_append, List.map_append]
  congr 1
  cases h : (inB l inos l.length i == of) <;> simp [h]
theorem pickTo_len (l : List R) (inos : List Int) (of : Bool) (i : Nat) : (pickTo l inos of i).length ≤ i := by
  unfold pickTo
  rw [List.length_map]
  exact Nat.le_trans (List.length_filter_le _ _) (by simp)
theorem cnt_in {l : List R} {inos ks : List Int} (hk : ∀ k : Nat, Named ks k ↔ InC l inos k) {i : Nat} (hi : i < l.length) : inB l inos l.length i = decide (0 < ks.count (i : Int)) := by
  rw [Bool.eq_iff_iff, inB_iff hi, ← hk i, decide_eq_true_eq, List.count_pos_iff]
  rfl
set_option maxRecDepth 100000 in
set_option maxHeartbeats 4000000 in
theorem t_pick (A : Option Addr) (c n : Nat) (l : List R) (Ai : Option Addr) (ni ci : Nat) (inos : List Int) (of : Bool) (w : World) (hl : RecsAt w A l) (hn : l.length = n) (hn2 : n ≤ 1000) (hnc : n ≤ c) (hi : InosAt w Ai inos) (hni : inos.length = ni) (hni2 : ni ≤ 60000) :
    Calls Tryz.prog 91 #[.slice A n c, .slice Ai ni ci, .bool of] w fun e w' => ∃ v, e = .returned v ∧ w'.ownsRow w.heap.size 34 12 v (pickL l inos of).length (flatR (pickL l inos of)) ∧ Below w.heap.size w w' := by
  have HIN := Lib.hid (t_in A c n l Ai ni ci inos w hl hn hn2 hnc hi hni hni2)
  have HN := Lib.hid hn
  have HL := Lib.hid hl
  clear hl hn hi hni
  go_enter Tryz.func91, Tryz.ntmps91
  go_wp2_with (go_at_call 88; (with_reducible refine HIN.out.mono ?_); rintro e w4 ⟨M, N, ks, rfl, hM, h1, h2, h3, h4, h5⟩; have HM := Lib.hid hM; have HKA := Lib.hid h4; have HB4 := Lib.hid h5; have HGM := Lib.hid h1; clear hM h1 h2 h3 h4 h5)
  go_loopw [6, 15] (fun v x wr => ∃ (i m : Nat) (A1 : Option Addr) (d1 : Nat), x = .int .i64 (i : Int) ∧ v = .slice A1 m d1 ∧ i ≤ n ∧ Hid ((pickTo l inos of i).length = m ∧ wr.ownsRow w4.heap.size 34 12 (.slice A1 m d1) m (flatR (pickTo l inos of i)) ∧ Below w4.heap.size w4 wr)) (fun _ x _ => n - (intOf x).toNat)
  case atStart => exact ⟨0, 0, none, 0, rfl, rfl, Nat.zero_le _, rfl, World.ownsRow_nil _ _ _ _, Below.refl _ _⟩
  case round =>
    obtain ⟨i, m, A1, d1, rfl, rfl, hi, HI⟩ := hrel
    by_cases he : i = n
    · have hf : Hid (pickTo l inos of i = pickL l inos of) := by show _ = _; unfold pickL; rw [he, HN.out]
      go_wp2
      go_ret
      refine ⟨_, rfl, ?_, ptrans HB4.out HI.out.2.2⟩
      rw [← hf.out, HI.out.1]
      exact own_low HI.out.2.1 HB4.out.size
    · have hi2 : i < n := by omega
      obtain ⟨x, hx⟩ : ∃ x, l[i]? = some x := ⟨l[i]'(by rw [HN.out]; omega), List.getElem?_eq_getElem _⟩
      obtain ⟨b, o, rfl, hbl, hc⟩ := ((HL.out.below HB4.out).below HI.out.2.2).at_ (fun e => by rw [e] at hx; simp at hx)
      have c0 : wr.cell? ⟨b, o + i * 12, none⟩ = some (.int .u64 x.stamp) := hc i x hx 0 _ rfl
      have c1 := hc i x hx 1 _ rfl
      have c2 := hc i x hx 2 _ rfl
      have c3 := hc i x hx 3 _ rfl
      have c4 := hc i x hx 4 _ rfl
      have c5 := hc i x hx 5 _ rfl
      have c6 := hc i x hx 6 _ rfl
      have c7 := hc i x hx 7 _ rfl
      have c8 := hc i x hx 8 _ rfl
      have c9 := hc i x hx 9 _ rfl
      have c10 := hc i x hx 10 _ rfl
      have c11 := hc i x hx 11 _ rfl
      have HX := Lib.hid hx
      clear hc hx hbl
      have hbx := below_a1' wr (.cells #[.int .u64 x.stamp, .int .u8 x.act, .int .u32 x.dir, .string x.name, .int .u32 x.ino, .int .u8 x.kind, .int .u32 x.dir2, .string x.name2, .int .u32 x.old, .int .u32 x.size, .int .i64 x.page, .string x.data] 34)
      have hlk := cntI_look ((HM.out.below HI.out.2.2).below hbx) (k := (i : Int)) ⟨by omega, by omega⟩
      have HBX := Lib.hid hbx
      clear hbx
      have HCI := Lib.hid (cnt_in HKA.out (i := i) (by rw [HN.out]; exact hi2))
      obtain ⟨cc, hcc⟩ : ∃ cc, ks.count (i : Int) = cc := ⟨_, rfl⟩
      rw [hcc] at hlk HCI
      have hst := pickTo_succ l inos of i
      rw [rAt_get HX.out, HCI.out] at hst
      have HST := Lib.hid hst
      have hm2 : m ≤ i := by have := pickTo_len l inos of i; rw [HI.out.1] at this; exact this
      clear hst hcc
      obtain ⟨q, hq⟩ : ∃ q, (decide (0 < cc) == of) = q := ⟨_, rfl⟩
      rw [hq] at HST
      have HRX : Hid ((wr.alloc (.cells #[.int .u64 x.stamp, .int .u8 x.act, .int .u32 x.dir, .string x.name, .int .u32 x.ino, .int .u8 x.kind, .int .u32 x.dir2, .string x.name2, .int .u32 x.old, .int .u32 x.size, .int .i64 x.page, .string x.data] 34)).heap[wr.heap.size]? = some (.cells (cellsR x) 34 (0, 0))) := heap_alloc_new _ _
      cases q
      · go_wp2
        go_roundw
        case rel =>
          refine ⟨i + 1, m, A1, d1, rfl, rfl, hi2, ?_⟩
          show _ ∧ _
          rw [HST.out, if_neg (by simp), List.append_nil]
          exact ⟨HI.out.1, row_below HI.out.2.1 HBX.out, ptrans HI.out.2.2 HBX.out⟩
        case measure => simp only [intOf]; omega
      · have HOW := Lib.hid (row_below HI.out.2.1 HBX.out)
        have HBW := Lib.hid (ptrans HI.out.2.2 HBX.out)
        go_wp2_with (at_builtin; refine wpList_append_rec rfl _ _ rfl w4.heap.size _ (pickTo l inos of i) m (m + 1) HI.out.1 rfl rfl (HOW.out.alloc _) (wr.heap.size + 1) x rfl (by rw [← World.alloc_size' wr]; exact heap_alloc_new _ _) (by omega) (by rw [World.alloc_size']; have := HBW.out.size; omega) ?_; intro A2 d2 W4 g2 g3; have H4 := Lib.hid (And.intro g2 g3); clear g2 g3)
        go_roundw
        case rel =>
          refine ⟨i + 1, m + 1, A2, d2, rfl, rfl, hi2, ?_⟩
          show _ ∧ _
          rw [HST.out, if_pos rfl]
          refine ⟨by rw [List.length_append, HI.out.1]; rfl, H4.out.1, ?_⟩
          exact (HBW.out.alloc HBW.out.size _).grown H4.out.2 (by rw [World.alloc_size']; have := HBW.out.size; omega) (fun q hq => (HOW.out.lt q hq).1)
        case measure => simp only [intOf]; omega
set_option maxRecDepth 100000 in
theorem t_of (A : Option Addr) (c n : Nat) (l : List R) (Ai : Option Addr) (ni ci : Nat) (inos : List Int) (w : World) (hl : RecsAt w A l) (hn : l.length = n) (hn2 : n ≤ 1000) (hnc : n ≤ c) (hi : InosAt w Ai inos) (hni : inos.length = ni) (hni2 : ni ≤ 60000) :
    Calls Tryz.prog 41 #[.slice A n c, .slice Ai ni ci] w fun e w' => ∃ v, e = .returned v ∧ w'.ownsRow w.heap.size 34 12 v (pickL l inos true).length (flatR (pickL l inos true)) ∧ Below w.heap.size w w' := by
  have H := Lib.hid (t_pick A c n l Ai ni ci inos true w hl hn hn2 hnc hi hni hni2)
  clear hl hn hi hni
  go_enter Tryz.func41, Tryz.ntmps41
  go_wp2_with (go_at_call 91; (with_reducible refine H.out.mono ?_); rintro e w2 ⟨v, rfl, h1, h2⟩; have HH := Lib.hid (And.intro h1 h2); clear h1 h2)
  go_ret
  exact ⟨_, rfl, HH.out.1, HH.out.2⟩
set_option maxRecDepth 100000 in
theorem t_rest (A : Option Addr) (c n : Nat) (l : List R) (Ai : Option Addr) (ni ci : Nat) (inos : List Int) (w : World) (hl : RecsAt w A l) (hn : l.length = n) (hn2 : n ≤ 1000) (hnc : n ≤ c) (hi : InosAt w Ai inos) (hni : inos.length = ni) (hni2 : ni ≤ 60000) :
    Calls Tryz.prog 43 #[.slice A n c, .slice Ai ni ci] w fun e w' => ∃ v, e = .returned v ∧ w'.ownsRow w.heap.size 34 12 v (pickL l inos false).length (flatR (pickL l inos false)) ∧ Below w.heap.size w w' := by
  have H := Lib.hid (t_pick A c n l Ai ni ci inos false w hl hn hn2 hnc hi hni hni2)
  clear hl hn hi hni
  go_enter Tryz.func43, Tryz.ntmps43
  go_wp2_with (go_at_call 91; (with_reducible refine H.out.mono ?_); rintro e w2 ⟨v, rfl, h1, h2⟩; have HH := Lib.hid (And.intro h1 h2); clear h1 h2)
  go_ret
  exact ⟨_, rfl, HH.out.1, HH.out.2⟩
end Go.Proofs.YtehckjkihaalfaaGreat
