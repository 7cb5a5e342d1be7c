/- does. -/
import Derived.Test.YtnnidgjfjgkdpaaC
import Derived.Laws.EntriesVeiled
namespace Go.Proofs.Ytnnidgjfjgkdpaa
open Go.RowKit Go.Maps

/-- An insertion into a map that the call makes. -/
theorem wpList_insert_own {H : Type} {P : Program} (w : World) {ops : Array Oper} {rest : List Oper} {o : Oper} {a : Act} {Q : Exit → Act → World → Prop}
    (hg : o.guard = none) (m x v : Operand) (t : TypeId) (hop : o.op = Op.insert t m x v)
    (k e : TypeId) (K : Keyed P k) (ht : P.underlying t = some (.map k e)) (F : Value → Option (DataW H × List MemPlace)) (b n : Nat) (D : DataW H)
    (hm : a.eval m = .map (some b)) (hown : w.ownsMap P k F b n D) (hn : n < maxLen) (key val : Value) (kl : Lit) (hx : a.eval x = key) (hv : a.eval v = val) (hkey : keyOf P k key = some kl)
    (d : DataW H) (ps : List MemPlace) (hval : F val = some (d, ps))
    (hK : ∀ w', w'.ownsMap P k F b (n + 1) (D.put kl d) → w.grownBy w' (some b) → wpList P ops Q rest (a.put o.dst undef) w') :
    wpList P ops Q (o :: rest) a w := by
  refine wpList_plain hg fun K' hK' => ?_
  obtain ⟨w', hrun, r1, r2⟩ := hown.update K ht hn hkey hval
  unfold Oper.wp
  simp [execOp, hop, hm, hx, hv, hrun, Result.andThen]
  exact hK' _ _ (hK w' r1 r2)

/-- Whatever value an element is. -/
def anyElem (v : Value) : Option (DataW Value × List MemPlace) := some (.held v, [])
theorem law5 : Keyed Try.prog 5 := int_keyed Try.underlying5
/-- A life's method, bound. -/
def bound (f L : Nat) : Value := .agg #[.func (.func f) #[.pointer (some ⟨L, 0, none⟩)] #[]]
/-- The table of what records do to a life. -/
def doesD (L : Nat) : DataW Value := ((((DataW.map []).put (.int .u8 2) (.held (bound 34 L))).put (.int .u8 3) (.held (bound 35 L))).put (.int .u8 5) (.held (bound 36 L))).put (.int .u8 6) (.held (bound 36 L))

theorem key5 (n : Int) (h : 0 ≤ n ∧ n ≤ 255) : keyOf Try.prog 5 (.int .u8 n) = some (.int .u8 n) := keyOf_int_mk Try.underlying5 (by simp [Lit.wf, IntKind.min, IntKind.max, IntKind.signed, IntKind.bits]; omega)

theorem does_any (L : Nat) (w : World) : Calls Try.prog 18 #[.pointer (some ⟨L, 0, none⟩)] w fun e w' => e = .returned (.map (some w.heap.size)) ∧ w'.ownsMap Try.prog 5 anyElem w.heap.size 4 (doesD L) ∧ Below w.heap.size w w' := by
  have hmm := @run_makeMap Try.prog
  have hM := World.ownsMap_made w Try.prog 5 anyElem
  have hB := (Below.refl w.heap.size w).alloc (Nat.le_refl _) (.map #[] 0)
  go_enter Try.func18, Try.ntmps18
  go_wp2_with (first
    | (refine wpList_insert_own _ rfl _ _ _ 53 rfl 5 57 law5 Try.underlying53 anyElem w.heap.size _ _ rfl hM (by unfold maxLen; omega) _ _ _ rfl rfl (key5 _ (by decide)) _ [] rfl ?_; intro w1 hM1 hg1; replace hB := hB.grown hg1 hB.size (by rintro k ⟨rfl⟩; exact Nat.le_refl _); clear hM; have hM := hM1; clear hM1 hg1))
  go_ret
  exact ⟨rfl, hM, hB⟩

/-! ### behind -/
attribute [local go_sem] Oper.semAt_some

theorem behind_any (A : Option Addr) (n c : Nat) (k : Int) (w : World) :
    Calls Try.prog 19 #[.slice A n c, .int .i64 k] w fun e w' => e = .returned (.func (.func 37) #[] #[.pointer (some ⟨w.heap.size + 1, 0, none⟩), .pointer (some ⟨w.heap.size, 0, none⟩)]) ∧ w' = (w.alloc (.cells #[.slice A n c] 22)).alloc (.cells #[.int .i64 k] 3) := by
  go_enter Try.func19, Try.ntmps19
  go_wp2
  go_ret
  exact ⟨rfl, rfl⟩

/-- Records with their places, from a place on. -/
def placed : List R → Nat → List (Nat × R)
  | [], _ => []
  | r :: rs, i => (i, r) :: placed rs (i + 1)
/-- Those behind a place. -/
def behindOf (rs : List R) (k : Nat) : List (Nat × R) := placed (rs.drop (k + 1)) (k + 1)
theorem placed_length : ∀ (rs : List R) (i : Nat), (placed rs i).length = rs.length
  | [], _ => rfl
  | _ :: rs, i => by simp [placed, placed_length rs]
theorem placed_get : ∀ (rs : List R) (i j : Nat), (placed rs i)[j]? = (rs[j]?).map fun r => (i + j, r)
  | [], _, _ => by simp [placed]
  | r :: rs, i, 0 => by simp [placed]
  | r :: rs, i, j + 1 => by
    simp only [placed, List.getElem?_cons_succ, placed_get rs (i + 1) j]
    rw [show i + 1 + j = i + (j + 1) from by omega]
theorem behindOf_length (rs : List R) (k : Nat) : (behindOf rs k).length = rs.length - (k + 1) := by unfold behindOf; rw [placed_length, List.length_drop]
theorem behindOf_step {rs : List R} {k j : Nat} {r : R} (h : rs[k + 1 + j]? = some r) : (behindOf rs k).take (j + 1) = (behindOf rs k).take j ++ [(k + 1 + j, r)] := by
  have hg : (behindOf rs k)[j]? = some (k + 1 + j, r) := by unfold behindOf; rw [placed_get, List.getElem?_drop, h]; rfl
  rw [List.take_add_one, hg]; rfl

/-- What a round keeps: all below n₁, and one box. -/
structure KeepAt (n₁ bt : Nat) (A B : World) : Prop where
  low : ∀ k, k < n₁ → B.heap[k]? = A.heap[k]?
  box : B.heap[bt]? = A.heap[bt]?
theorem KeepAt.refl (n₁ bt : Nat) (A : World) : KeepAt n₁ bt A A := ⟨fun _ _ => rfl, rfl⟩
theorem KeepAt.trans {n₁ bt : Nat} {A B C : World} (h : KeepAt n₁ bt A B) (k : KeepAt n₁ bt B C) : KeepAt n₁ bt A C := ⟨fun i hi => (k.low i hi).trans (h.low i hi), k.box.trans h.box⟩
theorem KeepAt.put {n₁ bt : Nat} {w : World} (hn : n₁ ≤ w.heap.size) (hb : bt < w.heap.size) (W : World) (l : Nat) (o o' : Obj) (hl : w.heap.size ≤ l) (_ : W.heap[l]? = some o) (_ : o.isCells = false) (_ : o.isWalk = false) : KeepAt n₁ bt W (W.putObj l o') :=
  ⟨fun i hi => World.putObj_heap_other (by omega), World.putObj_heap_other (by omega)⟩

set_option maxHeartbeats 1000000 in
theorem behind_in (l bt bk n c B n₁ k : Nat) (A : Option Addr) (rs : List R) (J Jx : List (Nat × R) → World → Prop) (hn : n ≤ maxLen) (hk : k < n) (hB : B ≤ n₁)
    (hY : ∀ pre x W, x.2.Ok → J pre W → pre.length < n → YieldAt Fence.wide 5 Try.prog l #[.int .i64 x.1, x.2.val] W fun e W' =>
      (e = .returned (.bool true) ∧ J (pre ++ [x]) W' ∧ KeepAt n₁ bt W W') ∨ (e = .returned (.bool false) ∧ Jx (pre ++ [x]) W'))
    (W : World) (hbt : Boxed W bt 22 (.slice A n c)) (hbk : Boxed W bk 3 (.int .i64 k)) (h : Recs W B A n rs) (h0 : J [] W) :
    CallsIn Fence.wide 6 Try.prog 37 #[.func (.yield l) #[] #[], .pointer (some ⟨bk, 0, none⟩), .pointer (some ⟨bt, 0, none⟩)] W fun e W' => (∃ v, e = .returned v) ∧
      ((∃ ys, ys = behindOf rs k ∧ J ys W') ∨ (∃ pre, pre <+: behindOf rs k ∧ Jx pre W')) := by
  unfold maxLen at hn
  have ck := hbk.cell
  refine callsIn_of_wp Try.func37 rfl trivial ?_ rfl
  simp only [Try.ntmps37, List.size_toArray, List.length_cons, List.length_nil, Nat.reduceAdd, Nat.reduceSub, Array.replicate_succ, Array.replicate_zero, List.push_toArray, List.append_toArray, List.nil_append, List.cons_append]
  gi_wp2
  gi_loopw [4] (fun i wr => ∃ j : Nat, k + 1 + j ≤ n ∧ i = .int .i64 ((k + 1 + j : Nat) : Int) ∧ Boxed wr bt 22 (.slice A n c) ∧ Recs wr B A n rs ∧ J ((behindOf rs k).take j) wr) (fun i _ => n + 1 - (intOf i).toNat)
  case atStart => exact ⟨0, by omega, by go_num, hbt, h, h0⟩
  case round =>
    obtain ⟨j, hj, rfl, hb, hr, hJ⟩ := hrel
    have cb := hb.cell
    obtain ⟨i, hi⟩ : ∃ i, k + 1 + j = i := ⟨_, rfl⟩
    rw [hi] at hj
    rw [hi]
    by_cases he : i = n
    · have hfin : (behindOf rs k).take j = behindOf rs k := List.take_of_length_le (by rw [behindOf_length, h.len]; omega)
      rw [hfin] at hJ
      have he' : ¬ (i : Int) < n := by omega
      clear hfin hi he
      gi_wp2
      go_end0
      exact ⟨⟨_, rfl⟩, .inl hJ⟩
    · have hin : i < n := by omega
      obtain ⟨b, o, r, rfl, hbB, hg, hat, hok⟩ := hr.get hin
      have hst := behindOf_step (rs := rs) (k := k) (j := j) (r := r) (by rw [hi]; exact hg)
      rw [hi] at hst
      have hlen : ((behindOf rs k).take j).length < n := by rw [List.length_take]; omega
      obtain ⟨fn, tmps, assign, body, hy, hR⟩ := hY _ (i, r) wr hok hJ hlen
      obtain ⟨c0, c1, c2, c3, c4, c5, c6, c7, c8, c9, c10, c11⟩ := hat
      rw [← hst] at hR
      unfold R.val at hy
      have Hst := Lib.hid hst
      have Hi := Lib.hid hi
      clear hst hi he hlen
      gi_wp2
      refine hR.mono ?_
      rintro e W3 (⟨rfl, hJ3, hk3⟩ | ⟨rfl, hJx3⟩)
      · have hb3 : Boxed W3 bt 22 _ := hk3.box.trans hb
        have hr3 := hr.keep (Nat.le_refl _) (w' := W3) (fun p hp => World.cell?_of_block (hk3.low _ (by omega)))
        gi_wp2
        go_roundw
        case rel => exact ⟨j + 1, by have := Hi.out; omega, by have := Hi.out; go_num, hb3, hr3, hJ3⟩
        case measure => simp [intOf]; omega
      · gi_wp2
        refine bodyPost_ret (results_none rfl _ _ _) rfl ?_
        exact ⟨⟨_, rfl⟩, .inr ⟨_, List.take_prefix _ _, hJx3⟩⟩

theorem behind_stops (bt bk n c B n₁ k : Nat) (A : Option Addr) (rs : List R) (w : World) (hn : n ≤ maxLen) (hk : k < n) (hB : B ≤ n₁) (hn₁ : n₁ ≤ w.heap.size)
    (hbt : Boxed w bt 22 (.slice A n c)) (hbk : Boxed w bk 3 (.int .i64 k)) (h : Recs w B A n rs) :
    SeqStopsK Fence.wide 6 Try.prog 37 #[.pointer (some ⟨bk, 0, none⟩), .pointer (some ⟨bt, 0, none⟩)] (fun x : Nat × R => #[.int .i64 x.1, x.2.val]) (KeepAt n₁ bt) (fun ys => ys = behindOf rs k) (fun pre => pre <+: behindOf rs k) n w := by
  intro l J Jx W hW _ _ hY h0
  exact behind_in l bt bk n c B n₁ k A rs J Jx hn hk hB (fun pre x W _ => hY pre x W) W ((hW.block bt hbt.lt).trans hbt) ((hW.block bk hbk.lt).trans hbk) (h.keep (Nat.le_refl _) (fun p hp => hW.cell (by omega))) h0

/-- The same, over records that are known to be in bounds. -/
theorem behind_stops_ok (bt bk n c B n₁ k : Nat) (A : Option Addr) (rs : List R) (w : World) (hn : n ≤ maxLen) (hk : k < n) (hB : B ≤ n₁) (hn₁ : n₁ ≤ w.heap.size)
    (hbt : Boxed w bt 22 (.slice A n c)) (hbk : Boxed w bk 3 (.int .i64 k)) (h : Recs w B A n rs) :
    SeqStopsK Fence.wide 6 Try.prog 37 #[.pointer (some ⟨bk, 0, none⟩), .pointer (some ⟨bt, 0, none⟩)] (fun x : {y : Nat × R // y.2.Ok} => #[.int .i64 x.1.1, x.1.2.val]) (KeepAt n₁ bt) (fun ys => ys.map (·.1) = behindOf rs k) (fun pre => pre.map (·.1) <+: behindOf rs k) n w := by
  intro l J Jx W hW _ _ hY h0
  refine (behind_in l bt bk n c B n₁ k A rs (fun ys W => ∃ zs, zs.map (·.1) = ys ∧ J zs W) (fun ys W => ∃ zs, zs.map (·.1) = ys ∧ Jx zs W) hn hk hB ?_ W ((hW.block bt hbt.lt).trans hbt) ((hW.block bk hbk.lt).trans hbk) (h.keep (Nat.le_refl _) (fun p hp => hW.cell (by omega))) ⟨[], rfl, h0⟩).mono ?_
  · rintro pre x V hx ⟨zs, rfl, hJ⟩ hlt
    obtain ⟨fn, tmps, assign, body, hy, hR⟩ := hY zs ⟨x, hx⟩ V hJ (by simpa using hlt)
    refine ⟨fn, tmps, assign, body, hy, hR.mono ?_⟩
    rintro e V' (⟨he, hJ', hk'⟩ | ⟨he, hJ'⟩)
    · exact .inl ⟨he, ⟨_, by simp, hJ'⟩, hk'⟩
    · exact .inr ⟨he, ⟨_, by simp, hJ'⟩⟩
  · rintro e V' ⟨hv, ⟨ys, hys, zs, hz, hJ⟩ | ⟨pre, hp, zs, hz, hJ⟩⟩
    · exact ⟨hv, .inl ⟨zs, hz.trans hys, hJ⟩⟩
    · exact ⟨hv, .inr ⟨zs, by show zs.map (fun x => x.val) <+: _; rw [hz]; exact hp, hJ⟩⟩
end Go.Proofs.Ytnnidgjfjgkdpaa
