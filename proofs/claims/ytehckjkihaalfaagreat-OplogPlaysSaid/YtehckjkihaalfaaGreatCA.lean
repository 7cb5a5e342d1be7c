/- Rows of records; rows of numbers. -/
import Derived.Test.YtehckjkihaalfaaGreatBQ
namespace Go.Proofs.YtehckjkihaalfaaGreat
open Go.RowKit Go.Maps

def RecOk (r : R) : Prop := r.Ok ∧ r.name.size ≤ maxLen ∧ r.name2.size ≤ maxLen ∧ r.data.size ≤ maxLen
/-- A row of records. -/
structure RecsAt (w : World) (A : Option Addr) (l : List R) : Prop where
  at_ : l ≠ [] → ∃ b o, A = some ⟨b, o, none⟩ ∧ b < w.heap.size ∧ ∀ (k : Nat) (r : R), l[k]? = some r → ∀ (i : Nat) (v : Value), (cellsR r)[i]? = some v → w.cell? ⟨b, o + k * 12 + i, none⟩ = some v
  ok : ∀ r ∈ l, RecOk r
theorem RecsAt.below {w w' : World} {A : Option Addr} {l : List R} (h : RecsAt w A l) (hb : Below w.heap.size w w') : RecsAt w' A l :=
  ⟨fun hn => by
    obtain ⟨b, o, h1, h2, h3⟩ := h.at_ hn
    exact ⟨b, o, h1, Nat.lt_of_lt_of_le h2 hb.size, fun k r hk i v hv => (World.cell?_of_block (a := ⟨b, _, none⟩) (hb.block b h2)).trans (h3 k r hk i v hv)⟩, h.ok⟩
/-- The places of a row that are met by another one. -/
def rAt (l : List R) (k : Nat) : R := l.getD k ⟨0, 0, 0, ⟨#[]⟩, 0, 0, 0, ⟨#[]⟩, 0, 0, 0, ⟨#[]⟩⟩
def onL (l : List R) (k : Nat) : List Nat := (List.range k).filter fun i => meetB (rAt l i) (rAt l k)
def natV (l : List Nat) : List Value := l.map fun (n : Nat) => Value.int .i64 (n : Int)
theorem infoI : ∃ i, Tryz.prog.info? 3 = some i ∧ i.zero = some (.int .i64 0) ∧ i.size = 1 ∧ i.bytes = 8 := by
  have : (Tryz.prog.info? 3).map (fun i => (i.zero, i.size, i.bytes)) = some (some (.int .i64 0), 1, 8) := by kernel_rfl
  obtain ⟨i, hi, he⟩ := Option.map_eq_some_iff.1 this
  simp only [Prod.mk.injEq] at he
  exact ⟨i, hi, he.1, he.2.1, he.2.2⟩
theorem run_append_int (base ty : Nat) (w : World) (v : Value) (l : List Nat) (n : Nat) (hn : l.length = n) (hown : w.ownsRow base 3 1 v n (natV l)) (q : Nat) (x : Nat) (hq : w.heap[q]? = some (.cells #[.int .i64 (x : Int)] 3 (0, 0)))
    (hl : n ≤ 100000) (hbase : base ≤ w.heap.size) :
    ∃ v' w', (Builtin.append_ #[63, 63] ty #[v, .slice (some ⟨q, 0, none⟩) 1 1]).run Tryz.prog w = .ok v' w' ∧ w'.ownsRow base 3 1 v' (n + 1) (natV (l ++ [x])) ∧ w.grownBy w' v.ownBlock := by
  subst hn
  obtain ⟨i0, hi, hz0, hz1, hz2⟩ := infoI
  obtain ⟨v', w', hrun, h2, h3, _, _⟩ := run_append_own_at (P := Tryz.prog) w base 63 ty 3 i0 _ 1 8 Tryz.underlying63 hi hz0 hz1 hz2 rfl (by decide) v l.length (natV l) hown ⟨q, 0, none⟩ 1 1 [.int .i64 (x : Int)]
    rfl (fun j u hu => by
      rw [Addr.add_mid, Nat.zero_add]
      simp only [World.cell?, hq]
      simpa using hu) (by simp [Value.oneCell']) (by unfold maxLen; omega) (by omega) hbase
  exact ⟨v', w', hrun, by unfold natV at h2 ⊢; rw [List.map_append]; exact h2, h3⟩
theorem wpList_append_int {ops : Array Oper} {rest : List Oper} {o : Oper} {a : Act} {Q : Exit → Act → World → Prop} {w : World} (hgd : o.guard = none) (s x : Operand)
    (ho : o.op = .call { callee := .builtin .append, args := #[s, x], argTypes := #[63, 63] })
    (base : Nat) (v : Value) (l : List Nat) (n k : Nat) (hn : l.length = n) (hk : n + 1 = k) (hs : a.eval s = v) (hown : w.ownsRow base 3 1 v n (natV l)) (q p : Nat) (hx : a.eval x = .slice (some ⟨q, 0, none⟩) 1 1)
    (hq : w.heap[q]? = some (.cells #[.int .i64 (p : Int)] 3 (0, 0))) (hl : n ≤ 100000) (hbase : base ≤ w.heap.size)
    (h : ∀ A1 c1 w', w'.ownsRow base 3 1 (.slice A1 k c1) k (natV (l ++ [p])) → w.grownBy w' v.ownBlock → wpList Tryz.prog ops Q rest (a.put o.dst (.slice A1 k c1)) w') : wpList Tryz.prog ops Q (o :: rest) a w :=
  wpList_plain hgd fun _ hK => by
    subst hk
    obtain ⟨v', w', hrun, h2, h3⟩ := run_append_int base o.type w v l n hn hown q p hq hl hbase
    unfold Oper.wp execOp
    simp only [ho, resolve, invoke, builtin, Sem.run_bind, Sem.run_pure, Result.andThen_ok, List.map_toArray, List.map_cons, List.map_nil, hs, hx, hrun]
    obtain ⟨A1, c1, rfl⟩ := row_slice h2
    exact hK _ _ (h A1 c1 w' h2 h3)
theorem row_below {w w' : World} {base size n : Nat} {e : TypeId} {v : Value} {xs : List Value} (h : w.ownsRow base e size v n xs) (hb : Below w.heap.size w w') : w'.ownsRow base e size v n xs :=
  h.kept (row := none) ⟨hb.os, hb.tape, hb.output, hb.size, fun k hk _ => hb.block k hk⟩ (by cases hv : v.ownBlock with | none => exact .inl rfl | some x => exact .inr (by simp))
def onTo (l : List R) (k i : Nat) : List Nat := (List.range i).filter fun i => meetB (rAt l i) (rAt l k)
theorem onTo_succ (l : List R) (k i : Nat) : onTo l k (i + 1) = onTo l k i ++ (if meetB (rAt l i) (rAt l k) = true then [i] else []) := by
  unfold onTo
  rw [List.range_succ, List.filter_append]
  congr 1
  cases h : meetB (rAt l i) (rAt l k) <;> simp [h]
theorem onTo_len (l : List R) (k i : Nat) : (onTo l k i).length ≤ i := by
  unfold onTo
  exact Nat.le_trans (List.length_filter_le _ _) (by simp)
theorem rAt_get {l : List R} {i : Nat} {x : R} (h : l[i]? = some x) : rAt l i = x := by
  unfold rAt
  rw [List.getD_eq_getElem?_getD, h]
  rfl
theorem meetR (w : World) {x y : R} (hx : RecOk x) (hy : RecOk y) : Calls Tryz.prog 49 #[x.val, y.val] w fun e w' => e = .returned (.bool (meetB x y)) ∧ Below w.heap.size w w' :=
  t_meet x y hx.1 hx.2.1 hx.2.2.1 hy.1 hy.2.1 hy.2.2.1 w
set_option maxRecDepth 100000 in
set_option maxHeartbeats 4000000 in
theorem t_on (A : Option Addr) (c n k : Nat) (l : List R) (w : World) (hl : RecsAt w A l) (hn : l.length = n) (hn2 : n ≤ 60000) (hnc : n ≤ c) (hk : k < n) :
    Calls Tryz.prog 44 #[.slice A n c, .int .i64 (k : Int)] w fun e w' => ∃ v, e = .returned v ∧ w'.ownsRow w.heap.size 3 1 v (onL l k).length (natV (onL l k)) ∧ Below w.heap.size w w' := by
  have hk0 : ¬ (k : Int) < 0 := by omega
  have hk1 : ¬ (n : Int) ≤ k := by omega
  have hk2 : (k : Int) ≤ c := by omega
  have hc0 : ¬ c = 0 := by omega
  obtain ⟨b, o, rfl, hbl, hc⟩ := hl.at_ (fun e => by rw [e] at hn; simp at hn; omega)
  obtain ⟨z, hz⟩ : ∃ z, l[k]? = some z := ⟨l[k]'(by omega), List.getElem?_eq_getElem _⟩
  have HL := Lib.hid hl
  have HC := Lib.hid (And.intro hbl hc)
  have HN := Lib.hid hn
  have HZ := Lib.hid hz
  clear hl hc hn hz hbl
  go_enter Tryz.func44, Tryz.ntmps44
  go_wp2
  go_loopw [4, 19] (fun v x wr => ∃ (i m : Nat) (A1 : Option Addr) (d1 : Nat), x = .int .i64 (i : Int) ∧ v = .slice A1 m d1 ∧ i ≤ k ∧ Hid ((onTo l k i).length = m ∧ wr.ownsRow w.heap.size 3 1 (.slice A1 m d1) m (natV (onTo l k i)) ∧ Below w.heap.size w wr)) (fun _ x _ => k - (intOf x).toNat)
  case atStart => exact ⟨0, 0, none, 0, rfl, rfl, Nat.zero_le _, rfl, World.ownsRow_nil _ _ _ _, Below.refl _ _⟩
  case round =>
    obtain ⟨i, m, A1, d1, rfl, rfl, hi, HI⟩ := hrel
    by_cases he : i = k
    · have hf : Hid (onTo l k i = onL l k) := by show _ = _; rw [he]; rfl
      go_wp2
      go_ret
      refine ⟨_, rfl, ?_, HI.out.2.2⟩
      rw [← hf.out, HI.out.1]
      exact HI.out.2.1
    · have hi2 : i < k := by omega
      obtain ⟨x, hx⟩ : ∃ x, l[i]? = some x := ⟨l[i]'(by rw [HN.out]; omega), List.getElem?_eq_getElem _⟩
      have hce : ∀ (k : Nat) (r : R), l[k]? = some r → ∀ (i : Nat) (v : Value), (cellsR r)[i]? = some v → wr.cell? ⟨b, o + k * 12 + i, none⟩ = some v := fun k r h1 i v h2 => (World.cell?_of_block (a := ⟨b, _, none⟩) (HI.out.2.2.block b HC.out.1)).trans (HC.out.2 k r h1 i v h2)
      have c0 : wr.cell? ⟨b, o + i * 12, none⟩ = some (.int .u64 x.stamp) := hce i x hx 0 _ rfl
      have c1 := hce i x hx 1 _ rfl
      have c2 := hce i x hx 2 _ rfl
      have c3 := hce i x hx 3 _ rfl
      have c4 := hce i x hx 4 _ rfl
      have c5 := hce i x hx 5 _ rfl
      have c6 := hce i x hx 6 _ rfl
      have c7 := hce i x hx 7 _ rfl
      have c8 := hce i x hx 8 _ rfl
      have c9 := hce i x hx 9 _ rfl
      have c10 := hce i x hx 10 _ rfl
      have c11 := hce i x hx 11 _ rfl
      have HX := Lib.hid hx
      have HZC : Hid (∀ (i : Nat) (v : Value), (cellsR z)[i]? = some v → (wr.alloc (.cells #[.int .u64 x.stamp, .int .u8 x.act, .int .u32 x.dir, .string x.name, .int .u32 x.ino, .int .u8 x.kind, .int .u32 x.dir2, .string x.name2, .int .u32 x.old, .int .u32 x.size, .int .i64 x.page, .string x.data] 34)).cell? ⟨b, o + k * 12 + i, none⟩ = some v) := fun i v h2 => (World.cell?_of_block (a := ⟨b, _, none⟩) (heap_alloc_old wr _ (Nat.lt_of_lt_of_le HC.out.1 HI.out.2.2.size))).trans (hce k z HZ.out i v h2)
      have HBL2 : Hid (b < (wr.alloc (.cells #[.int .u64 x.stamp, .int .u8 x.act, .int .u32 x.dir, .string x.name, .int .u32 x.ino, .int .u8 x.kind, .int .u32 x.dir2, .string x.name2, .int .u32 x.old, .int .u32 x.size, .int .i64 x.page, .string x.data] 34)).heap.size) := by show _ < _; rw [World.alloc_size']; have := HI.out.2.2.size; have := HC.out.1; omega
      have HXB : Hid ((wr.alloc (.cells #[.int .u64 x.stamp, .int .u8 x.act, .int .u32 x.dir, .string x.name, .int .u32 x.ino, .int .u8 x.kind, .int .u32 x.dir2, .string x.name2, .int .u32 x.old, .int .u32 x.size, .int .i64 x.page, .string x.data] 34)).heap[wr.heap.size]? = some (.cells (cellsR x) 34 (0, 0))) := heap_alloc_new _ _
      clear hce hx
      go_wp2
      have hxo := HL.out.ok x (List.mem_of_getElem? HX.out)
      have hzo := HL.out.ok z (List.mem_of_getElem? HZ.out)
      refine wp_region_rel RelB (phi [isV (.agg #[.int .u64 x.stamp, .int .u8 x.act, .int .u32 x.dir, .string x.name, .int .u32 x.ino, .int .u8 x.kind, .int .u32 x.dir2, .string x.name2, .int .u32 x.old, .int .u32 x.size, .int .i64 x.page, .string x.data]), isV (.slice (some ⟨b, o, none⟩) n c), isV (.int .i64 (k : Int)), isV (.pointer (some ⟨b, o + k * 12, none⟩)), isV (.agg #[.int .u64 z.stamp, .int .u8 z.act, .int .u32 z.dir, .string z.name, .int .u32 z.ino, .int .u8 z.kind, .int .u32 z.dir2, .string z.name2, .int .u32 z.old, .int .u32 z.size, .int .i64 z.page, .string z.data]), isV (.bool (meetB x z))]) (by kernel_rfl) (by kernel_rfl) (by kernel_rfl) (RelB.of (below_drew _)) (fun _ _ _ a b => a.trans b) ?_ ?_ ?_
      · refine stays_phiR ?_
        simp only [List.forall_mem_cons]
        exact ⟨fun _ _ _ h _ => h, fun _ _ _ h _ => h, fun _ _ _ h _ => h, fun _ _ _ h _ => h, fun _ _ _ h _ => h, fun _ _ _ h _ => h, fun _ h => absurd h (by simp)⟩
      · refine ⟨?_, ?_, ?_, ?_, ?_, ?_, trivial⟩
        · refine opR_mk rfl fun a W2 hB hp hq K hK => ?_
          have e6 : a.tmps[6]?.getD undef = .pointer (some ⟨wr.heap.size, 0, none⟩) := hp 6 (by kernel_rfl)
          have x0 := rec_cell0 (RelB.rec hB HXB.out) 0 _ rfl
          have x1 := rec_cell0 (RelB.rec hB HXB.out) 1 _ rfl
          have x2 := rec_cell0 (RelB.rec hB HXB.out) 2 _ rfl
          have x3 := rec_cell0 (RelB.rec hB HXB.out) 3 _ rfl
          have x4 := rec_cell0 (RelB.rec hB HXB.out) 4 _ rfl
          have x5 := rec_cell0 (RelB.rec hB HXB.out) 5 _ rfl
          have x6 := rec_cell0 (RelB.rec hB HXB.out) 6 _ rfl
          have x7 := rec_cell0 (RelB.rec hB HXB.out) 7 _ rfl
          have x8 := rec_cell0 (RelB.rec hB HXB.out) 8 _ rfl
          have x9 := rec_cell0 (RelB.rec hB HXB.out) 9 _ rfl
          have x10 := rec_cell0 (RelB.rec hB HXB.out) 10 _ rfl
          have x11 := rec_cell0 (RelB.rec hB HXB.out) 11 _ rfl
          clear hp hq
          go_simp
          exact hK _ _ (RelB.refl _) rfl
        · refine opR_mk rfl fun a W2 hB hp hq K hK => ?_
          have e0 : a.tmps[0]?.getD undef = .slice (some ⟨b, o, none⟩) n c := hp 0 (by kernel_rfl)
          clear hp hq
          go_simp
          exact hK _ _ (RelB.refl _) rfl
        · refine opR_mk rfl fun a W2 hB hp hq K hK => ?_
          have e1 : a.tmps[1]?.getD undef = .int .i64 (k : Int) := hp 1 (by kernel_rfl)
          clear hp hq
          go_simp
          exact hK _ _ (RelB.refl _) rfl
        · refine opR_mk rfl fun a W2 hB hp hq K hK => ?_
          have e25 : a.tmps[25]?.getD undef = .slice (some ⟨b, o, none⟩) n c := hq 1 _ (by kernel_rfl) rfl
          have e26 : a.tmps[26]?.getD undef = .int .i64 (k : Int) := hq 2 _ (by kernel_rfl) rfl
          clear hp hq
          go_simp
          exact hK _ _ (RelB.refl _) rfl
        · refine opR_mk rfl fun a W2 hB hp hq K hK => ?_
          have e27 : a.tmps[27]?.getD undef = .pointer (some ⟨b, o + k * 12, none⟩) := hq 3 _ (by kernel_rfl) rfl
          have z0 : W2.cell? ⟨b, o + k * 12, none⟩ = some (.int .u64 z.stamp) := (World.cell?_of_block (a := ⟨b, _, none⟩) (Below.block hB b HBL2.out)).trans (HZC.out 0 _ rfl)
          have z1 := (World.cell?_of_block (a := ⟨b, _, none⟩) (Below.block hB b HBL2.out)).trans (HZC.out 1 _ rfl)
          have z2 := (World.cell?_of_block (a := ⟨b, _, none⟩) (Below.block hB b HBL2.out)).trans (HZC.out 2 _ rfl)
          have z3 := (World.cell?_of_block (a := ⟨b, _, none⟩) (Below.block hB b HBL2.out)).trans (HZC.out 3 _ rfl)
          have z4 := (World.cell?_of_block (a := ⟨b, _, none⟩) (Below.block hB b HBL2.out)).trans (HZC.out 4 _ rfl)
          have z5 := (World.cell?_of_block (a := ⟨b, _, none⟩) (Below.block hB b HBL2.out)).trans (HZC.out 5 _ rfl)
          have z6 := (World.cell?_of_block (a := ⟨b, _, none⟩) (Below.block hB b HBL2.out)).trans (HZC.out 6 _ rfl)
          have z7 := (World.cell?_of_block (a := ⟨b, _, none⟩) (Below.block hB b HBL2.out)).trans (HZC.out 7 _ rfl)
          have z8 := (World.cell?_of_block (a := ⟨b, _, none⟩) (Below.block hB b HBL2.out)).trans (HZC.out 8 _ rfl)
          have z9 := (World.cell?_of_block (a := ⟨b, _, none⟩) (Below.block hB b HBL2.out)).trans (HZC.out 9 _ rfl)
          have z10 := (World.cell?_of_block (a := ⟨b, _, none⟩) (Below.block hB b HBL2.out)).trans (HZC.out 10 _ rfl)
          have z11 := (World.cell?_of_block (a := ⟨b, _, none⟩) (Below.block hB b HBL2.out)).trans (HZC.out 11 _ rfl)
          clear hp hq
          go_simp
          exact hK _ _ (RelB.refl _) rfl
        · refine opR_mk rfl fun a W2 hB hp hq K hK => ?_
          have e24 : a.tmps[24]?.getD undef = .agg #[.int .u64 x.stamp, .int .u8 x.act, .int .u32 x.dir, .string x.name, .int .u32 x.ino, .int .u8 x.kind, .int .u32 x.dir2, .string x.name2, .int .u32 x.old, .int .u32 x.size, .int .i64 x.page, .string x.data] := hq 0 _ (by kernel_rfl) rfl
          have e28 : a.tmps[28]?.getD undef = .agg #[.int .u64 z.stamp, .int .u8 z.act, .int .u32 z.dir, .string z.name, .int .u32 z.ino, .int .u8 z.kind, .int .u32 z.dir2, .string z.name2, .int .u32 z.old, .int .u32 z.size, .int .i64 z.page, .string z.data] := hq 4 _ (by kernel_rfl) rfl
          clear hp hq
          go_simp
          refine (meetR W2 hxo hzo).mono ?_
          rintro e w2 ⟨rfl, hb2⟩
          exact hK _ _ (RelB.of hb2) rfl
      · intro vs W3 hB3 hv3 _
        have v5 : vs 5 = .bool (meetB x z) := hv3 5 _ rfl rfl
        have hB4 : Below wr.heap.size wr W3 := (below_a1' wr _).trans ((show Below _ _ _ from hB3).mono (by rw [World.alloc_size']; omega))
        have HW3 : Hid (W3.ownsRow w.heap.size 3 1 (.slice A1 m d1) m (natV (onTo l k i)) ∧ Below w.heap.size w W3) := ⟨row_below HI.out.2.1 hB4, ptrans HI.out.2.2 hB4⟩
        have hst := onTo_succ l k i
        rw [rAt_get HX.out, rAt_get HZ.out] at hst
        have HST := Lib.hid hst
        clear hB3 hv3 hB4 hst hxo hzo
        simp only [List.take_succ_cons, List.take_zero, putAll, Act.put, List.setIfInBounds_toArray, List.set_cons_succ, List.set_cons_zero, Nat.zero_add, Nat.reduceAdd, v5]
        have hm2 : m ≤ i := by have := onTo_len l k i; rw [HI.out.1] at this; exact this
        cases hm : meetB x z
        · go_wp2
          go_roundw
          case rel =>
            refine ⟨i + 1, m, A1, d1, rfl, rfl, hi2, ?_⟩
            show _ ∧ _
            rw [HST.out, if_neg (by rw [hm]; simp), List.append_nil]
            exact ⟨HI.out.1, HW3.out.1, HW3.out.2⟩
          case measure => simp only [intOf]; omega
        · go_wp2_with (at_builtin; refine wpList_append_int rfl (.tmp 30) (.tmp 32) rfl w.heap.size _ (onTo l k i) m (m + 1) HI.out.1 rfl rfl (HW3.out.1.alloc _) W3.heap.size i rfl (heap_alloc_new _ _) (by omega) (by rw [World.alloc_size']; have := HW3.out.2.size; omega) ?_; intro A2 d2 W4 g2 g3; have H4 := Lib.hid (And.intro g2 g3); clear g2 g3)
          go_roundw
          case rel =>
            refine ⟨i + 1, m + 1, A2, d2, rfl, rfl, hi2, ?_⟩
            show _ ∧ _
            rw [HST.out, if_pos hm]
            refine ⟨by rw [List.length_append, HI.out.1]; rfl, H4.out.1, ?_⟩
            exact (HW3.out.2.alloc HW3.out.2.size _).grown H4.out.2 (by rw [World.alloc_size']; have := HW3.out.2.size; omega) (fun q hq => (HW3.out.1.lt q hq).1)
          case measure => simp only [intOf]; omega
end Go.Proofs.YtehckjkihaalfaaGreat
