/- does. -/
import Derived.Test.YtogljgiefmfafaaGreatPd35
import Derived.Laws.EntriesVeiled
import Derived.Sort.QuietThIn
import Derived.CallsIn
import Derived.RangeFuncNested
namespace Go.Proofs.YtogljgiefmfafaaGreat.A
open Go.RowKit Go.Maps
theorem wpList_insert_own {H : Type} {P : Program} (w : World) {ops : Array Oper} {rest : List Oper} {o : Oper} {a : Act} {Q : Exit → Act → World → Prop}
  (hg : o.guard = none) (m x v : Operand) (t : TypeId) (hop : o.op = Op.insert t m x v)
  (k e : TypeId) (K : Keyed P k) (ht : P.underlying t = some (.map k e)) (F : Value → Option (DataW H × List MemPlace)) (b n : Nat) (D : DataW H)
  (hm : a.eval m = .map (some b)) (hown : w.ownsMap P k F b n D) (hn : n < maxLen) (key val : Value) (kl : Lit) (hx : a.eval x = key) (hv : a.eval v = val) (hkey : keyOf P k key = some kl)
  (d : DataW H) (ps : List MemPlace) (hval : F val = some (d, ps))
  (hK : ∀ w', w'.ownsMap P k F b (n + 1) (D.put kl d) → w.grownBy w' (some b) → wpList P ops Q rest (a.put o.dst undef) w') :
  wpList P ops Q (o :: rest) a w := by
 refine wpList_plain hg fun K' hK' => ?_
 obtain ⟨w', hrun, r1, r2⟩ := hown.update K ht hn hkey hval
 unfold Oper.wp
 simp [execOp, hop, hm, hx, hv, hrun, Result.andThen]
 exact hK' _ _ (hK w' r1 r2)
def anyElem (v : Value) : Option (DataW Value × List MemPlace) := some (.held v, [])
theorem law5 : Keyed Tryz.prog 5 := int_keyed Tryz.underlying5
def bound (f L : Nat) : Value := .agg #[.func (.func f) #[.pointer (some ⟨L, 0, none⟩)] #[]]
def doesD (L : Nat) : DataW Value := ((((DataW.map []).put (.int .u8 2) (.held (bound 135 L))).put (.int .u8 3) (.held (bound 136 L))).put (.int .u8 5) (.held (bound 137 L))).put (.int .u8 6) (.held (bound 137 L))
theorem key5 (n : Int) (h : 0 ≤ n ∧ n ≤ 255) : keyOf Tryz.prog 5 (.int .u8 n) = some (.int .u8 n) := keyOf_int_mk Tryz.underlying5 (by simp [Lit.wf, IntKind.min, IntKind.max, IntKind.signed, IntKind.bits]; omega)
set_option maxRecDepth 100000 in
theorem does_any (L : Nat) (w : World) : Calls Tryz.prog 74 #[.pointer (some ⟨L, 0, none⟩)] w fun e w' => e = .returned (.map (some w.heap.size)) ∧ w'.ownsMap Tryz.prog 5 anyElem w.heap.size 4 (doesD L) ∧ Below w.heap.size w w' := by
 have hmm := @run_makeMap Tryz.prog
 have hM := World.ownsMap_made w Tryz.prog 5 anyElem
 have hB := (Below.refl w.heap.size w).alloc (Nat.le_refl _) (.map #[] 0)
 go_enter Tryz.func74, Tryz.ntmps74
 go_wp2_with (first
  | (refine wpList_insert_own _ rfl _ _ _ 135 rfl 5 139 law5 Tryz.underlying135 anyElem w.heap.size _ _ rfl hM (by unfold maxLen; omega) _ _ _ rfl rfl (key5 _ (by decide)) _ [] rfl ?_; intro w1 hM1 hg1; replace hB := hB.grown hg1 hB.size (by rintro k ⟨rfl⟩; exact Nat.le_refl _); clear hM; have hM := hM1; clear hM1 hg1))
 go_ret
 exact ⟨rfl, hM, hB⟩
attribute [local go_sem] Oper.semAt_some
theorem behind_any (A : Option Addr) (n c : Nat) (k : Int) (w : World) :
  Calls Tryz.prog 75 #[.slice A n c, .int .i64 k] w fun e w' => e = .returned (.func (.func 138) #[] #[.pointer (some ⟨w.heap.size + 1, 0, none⟩), .pointer (some ⟨w.heap.size, 0, none⟩)]) ∧ w' = (w.alloc (.cells #[.slice A n c] 22)).alloc (.cells #[.int .i64 k] 3) := by
 go_enter Tryz.func75, Tryz.ntmps75
 go_wp2
 go_ret
 exact ⟨rfl, rfl⟩
def placed : List R → Nat → List (Nat × R)
 | [], _ => []
 | r :: rs, i => (i, r) :: placed rs (i + 1)
def behindOf (rs : List R) (k : Nat) : List (Nat × R) := placed (rs.drop (k + 1)) (k + 1)
theorem placed_length : ∀ (rs : List R) (i : Nat), (placed rs i).length = rs.length
 | [], _ => rfl
 | _ :: rs, i => by simp [placed, placed_length rs]
theorem placed_get : ∀ (rs : List R) (i j : Nat), (placed rs i)[j]? = (rs[j]?).map fun r => (i + j, r)
 | [], _, _ => by simp [placed]
 | r :: rs, i, 0 => by simp [placed]
 | r :: rs, i, j + 1 => by
  simp only [placed, List.getElem?_cons_succ, placed_get rs (i + 1) j]
  rw [show i + 1 + j = i + (j + 1) from by omega]
theorem behindOf_length (rs : List R) (k : Nat) : (behindOf rs k).length = rs.length - (k + 1) := by unfold behindOf; rw [placed_length, List.length_drop]
theorem behindOf_step {rs : List R} {k j : Nat} {r : R} (h : rs[k + 1 + j]? = some r) : (behindOf rs k).take (j + 1) = (behindOf rs k).take j ++ [(k + 1 + j, r)] := by
 have hg : (behindOf rs k)[j]? = some (k + 1 + j, r) := by unfold behindOf; rw [placed_get, List.getElem?_drop, h]; rfl
 rw [List.take_add_one, hg]; rfl
structure KeepAt (n₁ bt : Nat) (A B : World) : Prop where
 low : ∀ k, k < n₁ → B.heap[k]? = A.heap[k]?
 box : B.heap[bt]? = A.heap[bt]?
theorem KeepAt.trans {n₁ bt : Nat} {A B C : World} (h : KeepAt n₁ bt A B) (k : KeepAt n₁ bt B C) : KeepAt n₁ bt A C := ⟨fun i hi => (k.low i hi).trans (h.low i hi), k.box.trans h.box⟩
theorem KeepAt.put {n₁ bt : Nat} {w : World} (hn : n₁ ≤ w.heap.size) (hb : bt < w.heap.size) (W : World) (l : Nat) (o o' : Obj) (hl : w.heap.size ≤ l) (_ : W.heap[l]? = some o) (_ : o.isCells = false) (_ : o.isWalk = false) : KeepAt n₁ bt W (W.putObj l o') :=
 ⟨fun i hi => World.putObj_heap_other (by omega), World.putObj_heap_other (by omega)⟩
set_option maxHeartbeats 1000000 in
theorem behind_in (l bt bk n c B n₁ k : Nat) (A : Option Addr) (rs : List R) (J Jx : List (Nat × R) → World → Prop) (hn : n ≤ maxLen) (hk : k < n) (hB : B ≤ n₁)
  (hY : ∀ pre x W, x.2.Ok → J pre W → pre.length < n → YieldAt Fence.wide 5 Tryz.prog l #[.int .i64 x.1, x.2.val] W fun e W' =>
   (e = .returned (.bool true) ∧ J (pre ++ [x]) W' ∧ KeepAt n₁ bt W W') ∨ (e = .returned (.bool false) ∧ Jx (pre ++ [x]) W'))
  (W : World) (hbt : Boxed W bt 22 (.slice A n c)) (hbk : Boxed W bk 3 (.int .i64 k)) (h : Recs W B A n rs) (h0 : J [] W) :
  CallsIn Fence.wide 6 Tryz.prog 138 #[.func (.yield l) #[] #[], .pointer (some ⟨bk, 0, none⟩), .pointer (some ⟨bt, 0, none⟩)] W fun e W' => (∃ v, e = .returned v) ∧
   ((∃ ys, ys = behindOf rs k ∧ J ys W') ∨ (∃ pre, pre <+: behindOf rs k ∧ Jx pre W')) := by
 unfold maxLen at hn
 have ck := hbk.cell
 refine callsIn_of_wp Tryz.func138 rfl trivial ?_ rfl
 simp only [Tryz.ntmps138, List.size_toArray, List.length_cons, List.length_nil, Nat.reduceAdd, Nat.reduceSub, Array.replicate_succ, Array.replicate_zero, List.push_toArray, List.append_toArray, List.nil_append, List.cons_append]
 gi_wp2
 gi_loopw [4] (fun i wr => ∃ j : Nat, k + 1 + j ≤ n ∧ i = .int .i64 ((k + 1 + j : Nat) : Int) ∧ Boxed wr bt 22 (.slice A n c) ∧ Recs wr B A n rs ∧ J ((behindOf rs k).take j) wr) (fun i _ => n + 1 - (intOf i).toNat)
 case atStart => exact ⟨0, by omega, by go_num, hbt, h, h0⟩
 case round =>
  obtain ⟨j, hj, rfl, hb, hr, hJ⟩ := hrel
  have cb := hb.cell
  obtain ⟨i, hi⟩ : ∃ i, k + 1 + j = i := ⟨_, rfl⟩
  rw [hi] at hj
  rw [hi]
  by_cases he : i = n
  · have hfin : (behindOf rs k).take j = behindOf rs k := List.take_of_length_le (by rw [behindOf_length, h.len]; omega)
    rw [hfin] at hJ
    have he' : ¬ (i : Int) < n := by omega
    clear hfin hi he
    gi_wp2
    go_end0
    exact ⟨⟨_, rfl⟩, .inl hJ⟩
  · have hin : i < n := by omega
    obtain ⟨b, o, r, rfl, hbB, hg, hat, hok⟩ := hr.get hin
    have hst := behindOf_step (rs := rs) (k := k) (j := j) (r := r) (by rw [hi]; exact hg)
    rw [hi] at hst
    have hlen : ((behindOf rs k).take j).length < n := by rw [List.length_take]; omega
    obtain ⟨fn, tmps, assign, body, hy, hR⟩ := hY _ (i, r) wr hok hJ hlen
    obtain ⟨c0, c1, c2, c3, c4, c5, c6, c7, c8, c9, c10, c11⟩ := hat
    rw [← hst] at hR
    unfold R.val at hy
    have Hst := Lib.hid hst
    have Hi := Lib.hid hi
    clear hst hi he hlen
    gi_wp2
    refine hR.mono ?_
    rintro e W3 (⟨rfl, hJ3, hk3⟩ | ⟨rfl, hJx3⟩)
    · have hb3 : Boxed W3 bt 22 _ := hk3.box.trans hb
      have hr3 := hr.keep (Nat.le_refl _) (w' := W3) (fun p hp => World.cell?_of_block (hk3.low _ (by omega)))
      gi_wp2
      go_roundw
      case rel => exact ⟨j + 1, by have := Hi.out; omega, by have := Hi.out; go_num, hb3, hr3, hJ3⟩
      case measure => simp [intOf]; omega
    · gi_wp2
      refine bodyPost_ret (results_none rfl _ _ _) rfl ?_
      exact ⟨⟨_, rfl⟩, .inr ⟨_, List.take_prefix _ _, hJx3⟩⟩
theorem behind_stops (bt bk n c B n₁ k : Nat) (A : Option Addr) (rs : List R) (w : World) (hn : n ≤ maxLen) (hk : k < n) (hB : B ≤ n₁) (hn₁ : n₁ ≤ w.heap.size)
  (hbt : Boxed w bt 22 (.slice A n c)) (hbk : Boxed w bk 3 (.int .i64 k)) (h : Recs w B A n rs) :
  SeqStopsK Fence.wide 6 Tryz.prog 138 #[.pointer (some ⟨bk, 0, none⟩), .pointer (some ⟨bt, 0, none⟩)] (fun x : Nat × R => #[.int .i64 x.1, x.2.val]) (KeepAt n₁ bt) (fun ys => ys = behindOf rs k) (fun pre => pre <+: behindOf rs k) n w := by
 intro l J Jx W hW _ _ hY h0
 exact behind_in l bt bk n c B n₁ k A rs J Jx hn hk hB (fun pre x W _ => hY pre x W) W ((hW.block bt hbt.lt).trans hbt) ((hW.block bk hbk.lt).trans hbk) (h.keep (Nat.le_refl _) (fun p hp => hW.cell (by omega))) h0
theorem behind_stops_ok (bt bk n c B n₁ k : Nat) (A : Option Addr) (rs : List R) (w : World) (hn : n ≤ maxLen) (hk : k < n) (hB : B ≤ n₁) (hn₁ : n₁ ≤ w.heap.size)
  (hbt : Boxed w bt 22 (.slice A n c)) (hbk : Boxed w bk 3 (.int .i64 k)) (h : Recs w B A n rs) :
  SeqStopsK Fence.wide 6 Tryz.prog 138 #[.pointer (some ⟨bk, 0, none⟩), .pointer (some ⟨bt, 0, none⟩)] (fun x : {y : Nat × R // y.2.Ok} => #[.int .i64 x.1.1, x.1.2.val]) (KeepAt n₁ bt) (fun ys => ys.map (·.1) = behindOf rs k) (fun pre => pre.map (·.1) <+: behindOf rs k) n w := by
 intro l J Jx W hW _ _ hY h0
 refine (behind_in l bt bk n c B n₁ k A rs (fun ys W => ∃ zs, zs.map (·.1) = ys ∧ J zs W) (fun ys W => ∃ zs, zs.map (·.1) = ys ∧ Jx zs W) hn hk hB ?_ W ((hW.block bt hbt.lt).trans hbt) ((hW.block bk hbk.lt).trans hbk) (h.keep (Nat.le_refl _) (fun p hp => hW.cell (by omega))) ⟨[], rfl, h0⟩).mono ?_
 · rintro pre x V hx ⟨zs, rfl, hJ⟩ hlt
   obtain ⟨fn, tmps, assign, body, hy, hR⟩ := hY zs ⟨x, hx⟩ V hJ (by simpa using hlt)
   refine ⟨fn, tmps, assign, body, hy, hR.mono ?_⟩
   rintro e V' (⟨he, hJ', hk'⟩ | ⟨he, hJ'⟩)
   · exact .inl ⟨he, ⟨_, by simp, hJ'⟩, hk'⟩
   · exact .inr ⟨he, ⟨_, by simp, hJ'⟩⟩
 · rintro e V' ⟨hv, ⟨ys, hys, zs, hz, hJ⟩ | ⟨pre, hp, zs, hz, hJ⟩⟩
   · exact ⟨hv, .inl ⟨zs, hz.trans hys, hJ⟩⟩
   · exact ⟨hv, .inr ⟨zs, by show zs.map (fun x => x.val) <+: _; rw [hz]; exact hp, hJ⟩⟩
end Go.Proofs.YtogljgiefmfafaaGreat.A

namespace Go.Proofs.YtogljgiefmfafaaGreat.A
section
variable {n : Nat} {P : Program} {ops : Array Oper} {C : World → Prop} {lp : Nat}
def noDefer (o : Oper) : Bool := match o.op with | .defer _ => false | _ => true
theorem noDefer_spec {o : Oper} (h : noDefer o = true) : ∀ c, o.op ≠ .defer c := fun c e => by simp [noDefer, e] at h
theorem wpQuietIn_of {Q : Act → Prop} : ∀ (l : List Oper) (a : Act), wpQuiet P ops C Q l a → wpQuietIn (Fence.wide.inRound lp) n P ops C Q l a
 | [], _, h => h
 | o :: l, a, h => by
  refine ⟨fun _ _ _ _ => trivial, ?_⟩
  unfold wpQuiet at h
  split at h
  · rename_i hw
    rw [if_pos hw]
    obtain ⟨v, h1, h2⟩ := h
    refine ⟨v, fun w hC => ?_, wpQuietIn_of l _ h2⟩
    have h3 := h1 w hC
    unfold Oper.quietAt at h3
    unfold Oper.quietAtIn
    generalize (execOp a.eval o).run P w = r at *
    cases r with
    | ok x w' =>
     cases x <;> simp only [Oper.quietUpon] at h3 <;> simp only [Oper.quietUponIn]
     case value u => exact h3
     case skip => exact h3
     case enter f args => exact ⟨h3.1, (fun h => by cases h), callsIn_wide.2 h3.2⟩
    | halt x w' => simp only [Oper.quietUpon] at h3
  · rename_i hw
    rw [if_neg hw]
    exact wpQuietIn_of l _ h
theorem opIn_of_quiet {F : Fence} {o : Oper} {a : Act} {K : Act → Prop} {K' : Act → World → Prop} {Q' : Exit → Act → World → Prop} {w : World} (hd : noDefer o = true) (hw : C w) (h : ∀ a w', C w' → K a → K' a w')
  (ha : o.askedIn F P a C) (hh : o.quietIn F n P a C K) : o.wpIn F n P a w K' Q' := by
 obtain ⟨v, h1, h2⟩ := hh
 have h3 := h1 w hw
 unfold Oper.quietAtIn at h3
 unfold Oper.wpIn
 refine ⟨ha w hw, ?_⟩
 rw [Oper.semAt_eq _ _ _ (noDefer_spec hd)]
 generalize (execOp a.eval o).run P w = r at *
 cases r with
 | ok x w' =>
  cases x <;> simp only [Oper.quietUponIn] at h3 <;> simp only [Oper.uponIn]
  case value u =>
   obtain ⟨e1, e2⟩ := h3
   rw [e1, e2]
   exact h _ _ hw h2
  case skip =>
   obtain ⟨e1, e2⟩ := h3
   rw [e1, ← e2]
   exact h _ _ hw h2
  case enter f args =>
   obtain ⟨e1, hd, hc⟩ := h3
   rw [e1]
   exact ⟨hd, hc.mono fun e w'' ⟨he, hw''⟩ => by subst he; exact h _ _ hw'' h2⟩
 | halt x w' => simp only [Oper.quietUponIn] at h3
theorem wpOpIn_of_q {F : Fence} (hd : ∀ (i : Nat) (o : Oper), ops[i]? = some o → noDefer o = true) {i : Nat} {a : Act} {K : Act → Prop} {K' : Act → World → Prop} {Q' : Exit → Act → World → Prop} {w : World} (hC : C w) (h : ∀ a w', C w' → K a → K' a w')
  (hh : qOpIn F n P ops C i K a) : wpOpIn F n P ops Q' i K' a w := by
 unfold qOpIn at hh
 unfold wpOpIn
 split
 · rename_i ho; simp only [ho] at hh; exact h _ _ hC hh
 · rename_i o ho
   simp only [ho] at hh
   obtain ⟨ha, hh⟩ := hh
   split
   · rename_i hw; simp only [hw, if_true] at hh; exact opIn_of_quiet (hd _ _ ho) hC h ha hh
   · rename_i hw; simp only [hw] at hh; exact ⟨ha w hC, h _ _ hC hh⟩
theorem wpAnyIn_of_q {F : Fence} {md : Region.Mode} (hd : ∀ (i : Nat) (o : Oper), ops[i]? = some o → noDefer o = true) {Q : Act → Prop} {Q' : Exit → Act → World → Prop} (hQ : ∀ a w, C w → Q a → Q' .normal a w) : ∀ (fuel : Nat) (listed : Array Bool) (a : Act) (w : World), C w →
  wpAnyQIn F n P md ops C Q fuel listed a → wpAnyIn F n P md ops Q' fuel listed a w
 | 0, _, _, _, hw, h => ⟨h.1, hQ _ _ hw h.2⟩
 | fuel + 1, _, _, _, hw, h => ⟨fun h0 => hQ _ _ hw (h.1 h0), fun i hi => wpOpIn_of_q hd hw (fun a' w' hw' => wpAnyIn_of_q hd hQ fuel _ a' w' hw') (h.2 i hi)⟩
theorem round_quiet {id : Nat} {Q : Exit → Act → World → Prop} {a : Act} {w : World} {l : List Oper} (hm : P.follows .mixedOrders = true) (hB : Region.lexB .any l.toArray = true) (hd : l.all noDefer = true)
  (h : wpQuiet P l.toArray (fun w' => ∃ n, w' = w.drewN n) (fun a' => ∀ w', (∃ n, w' = w.drewN n) → Q .normal a' w') l a) : (Code.region id l.toArray true).wpIn (Fence.wide.inRound lp) n P Q a w := by
 have hB2 := hB
 simp only [Region.lexB, Bool.and_eq_true] at hB2
 refine wpIn_region_any hm (wpAnyIn_of_q (C := fun w' => ∃ n, w' = w.drewN n) (Q := fun a' => ∀ w', (∃ n, w' = w.drewN n) → Q .normal a' w') (fun i o ho => ?_) (fun _ w' hw' h => h w' hw') _ _ _ _ ⟨1, rfl⟩ ?_)
 · exact List.all_eq_true.1 hd o (List.mem_of_getElem? (by simpa using ho))
 · have := wpAnyQIn_lex (F := Fence.wide.inRound lp) (n := n) (P := P) (C := fun w' => ∃ n, w' = w.drewN n) (md := .any) hB2.1 l 0 (Array.replicate l.toArray.size false) a (by simp) (by simpa using hB2.2) (wpQuietIn_of l a h)
   simpa using this
end
end Go.Proofs.YtogljgiefmfafaaGreat.A

namespace Go.Proofs.YtogljgiefmfafaaGreat.A
open Go.RowKit Go.Maps
attribute [local go_sem] Oper.semAt_some
theorem bdn {B : Nat} {a w : World} (h : Below B a w) (n : Nat) : Below B a (w.drewN n) := h.trans ⟨rfl, rfl, rfl, Nat.le_refl _, fun _ _ => rfl⟩
theorem ret_fin {B0 n r : Nat} {w W W1 : World} {u : Value} (hk : KeepsFrom B0 W W1) (hb : Below n w W1) (hr : Boxed W1 r 4 u) (hn : n ≤ r) (v : Value) (q : Nat) :
  KeepsFrom B0 W ((W1.drewN q).setCell ⟨r, 0, none⟩ v) ∧ Boxed ((W1.drewN q).setCell ⟨r, 0, none⟩ v) r 4 v ∧ Below n w ((W1.drewN q).setCell ⟨r, 0, none⟩ v) :=
 ⟨hk.trans (KeepsFrom.trans (Y := W1.drewN q) ⟨Nat.le_refl _, fun _ _ _ h _ => h⟩ ((KeepsOthers.setCell (W1.drewN q) _ _).from _)), Boxed.set (W := W1.drewN q) _ hr, (bdn hb q).setCell (p := ⟨r, 0, none⟩) hn _⟩
def againGo (x : R) : Nat → List R → Bool
 | _, [] => false
 | c, r :: rs =>
  if r.ino ≠ x.ino then againGo x c rs
  else if r.act = 5 ∨ r.act = 7 ∨ r.act = 1 then false
  else if r.act = 6 then
   if c = 0 ∧ x.size < r.size then false
   else if r.page = x.page then true
   else againGo x (c + 1) rs
  else againGo x c rs
def againB (rs : List R) (k : Nat) : Bool :=
 match rs[k]? with
 | some x => if x.act = 6 then againGo x 0 (rs.drop (k + 1)) else false
 | none => false
def cnt (x : R) (pre : List (Nat × R)) : Nat := pre.countP fun y => decide (y.2.ino = x.ino ∧ y.2.act = 6)
theorem cnt_snoc (x : R) (pre : List (Nat × R)) (y : Nat × R) : cnt x (pre ++ [y]) = cnt x pre + if y.2.ino = x.ino ∧ y.2.act = 6 then 1 else 0 := by
 unfold cnt; rw [List.countP_append]; by_cases h : y.2.ino = x.ino ∧ y.2.act = 6 <;> simp [h]
theorem cnt_le (x : R) (pre : List (Nat × R)) : cnt x pre ≤ pre.length := List.countP_le_length
def Goes (x : R) (pre : List (Nat × R)) : Prop := ∀ rest, againGo x 0 (pre.map (·.2) ++ rest) = againGo x (cnt x pre) rest
def Ends (x : R) (pre : List (Nat × R)) : Prop := ∀ rest, againGo x 0 (pre.map (·.2) ++ rest) = againGo x 0 (pre.map (·.2))
theorem Goes.nil (x : R) : Goes x [] := fun _ => rfl
theorem Goes.step {x : R} {pre : List (Nat × R)} (h : Goes x pre) (y : Nat × R) (hy : ∀ rest, againGo x (cnt x pre) (y.2 :: rest) = againGo x (cnt x (pre ++ [y])) rest) : Goes x (pre ++ [y]) := fun rest => by
 rw [List.map_append, List.append_assoc, h]; exact hy rest
theorem Goes.ends {x : R} {pre : List (Nat × R)} (h : Goes x pre) (y : Nat × R) (v : Bool) (hy : ∀ rest, againGo x (cnt x pre) (y.2 :: rest) = v) : againGo x 0 ((pre ++ [y]).map (·.2)) = v ∧ Ends x (pre ++ [y]) := by
 have h1 : ∀ rest, againGo x 0 ((pre ++ [y]).map (·.2) ++ rest) = v := fun rest => by rw [List.map_append, List.append_assoc, h]; exact hy rest
 have h2 := h1 []
 rw [List.append_nil] at h2
 exact ⟨h2, fun rest => by rw [h1, h2]⟩
def RecBlk (W : World) (B : Nat) (r : R) : Prop := W.heap[B]? = some (.cells r.cells.toArray 50 (0, 0))
theorem RecBlk.at_ {W : World} {B : Nat} {r : R} (h : RecBlk W B r) : RecAt W B 0 r := by
 have hc : ∀ i, W.cell? ⟨B, i, none⟩ = r.cells[i]? := fun i => by simp [World.cell?, show W.heap[B]? = _ from h]
 exact ⟨hc 0, hc 1, hc 2, hc 3, hc 4, hc 5, hc 6, hc 7, hc 8, hc 9, hc 10, hc 11⟩
theorem RecBlk.kept {W W' : World} {row : Option Nat} {B : Nat} {r : R} (h : RecBlk W B r) (hg : W.grownBy W' row) (hne : some B ≠ row) : RecBlk W' B r := (hg.block B (Array.getElem?_eq_some_iff.1 h).1 hne).trans h
theorem RecBlk.not_row {W : World} {B : Nat} {r : R} {row : Option Nat} (h : RecBlk W B r) (hr : ∀ q, row = some q → ∃ o : Obj, W.heap[q]? = some o ∧ o.isCells = false) : some B ≠ row := fun e => by
 obtain ⟨o, ho, hc⟩ := hr B e.symm
 rw [show W.heap[B]? = _ from h] at ho; cases ho; cases hc
theorem placed_snd : ∀ (rs : List R) (i : Nat), (placed rs i).map (·.2) = rs
 | [], _ => rfl
 | r :: rs, i => by simp [placed, placed_snd rs]
theorem behindOf_snd (rs : List R) (k : Nat) : (behindOf rs k).map (·.2) = rs.drop (k + 1) := placed_snd _ _
set_option maxRecDepth 100000 in
set_option maxHeartbeats 4000000 in
theorem again_in (A : Option Addr) (n c B k : Nat) (rs : List R) (x : R) (w : World) (h : Recs w B A n rs) (hB : B ≤ w.heap.size) (hn : n ≤ maxLen) (hk : k < n) (hx : rs[k]? = some x) (h6 : (x.act != 6) = false) :
  CallsIn Fence.wide 7 Tryz.prog 77 #[.slice A n c, .int .i64 k] w fun e W' => e = .returned (.bool (againGo x 0 (rs.drop (k + 1)))) ∧ Below w.heap.size w W' := by
 have hn' := hn
 unfold maxLen at hn'
 obtain ⟨b, o, x', rfl, hbB, hx', hat, hxok⟩ := h.get hk
 obtain rfl : x = x' := by rw [hx] at hx'; simpa using hx'
 have hb1 : b < w.heap.size := by omega
 have c1 := hat.c1
 have hb2 : b < w.heap.size + 1 := by omega
 have hb3 : b < w.heap.size + 1 + 1 := by omega
 have hb4 : b < w.heap.size + 1 + 1 + 1 := by omega
 have hkn : ¬ (n : Int) ≤ k := by omega
 have hk0 : ¬ (k : Int) < 0 := by omega
 refine callsIn_of_wp_marks Tryz.func77 rfl trivial ?_ rfl
 simp only [Tryz.ntmps77, List.size_toArray, List.length_cons, List.length_nil, Nat.reduceAdd, Nat.reduceSub, Array.replicate_succ, Array.replicate_zero, List.push_toArray, List.append_toArray, List.nil_append, List.cons_append]
 gi_wp2_with (refine ⟨trivial, ?_⟩; gi_at_call 75; refine (callsIn_wide.2 (behind_any _ _ _ _ _)).mono ?_; rintro e w' ⟨rfl, rfl⟩)
 have bL := (((((Boxed.new w 22 (.slice (some ⟨b, o, none⟩) n c)).alloc (.cells #[.int .i64 k] 3)).alloc (.cells #[.bool false] 4)).alloc (.cells #[.int .i64 0] 3)).alloc (.cells #[.slice (some ⟨b, o, none⟩) n c] 22)).alloc (.cells #[.int .i64 k] 3)
 have bK := ((((Boxed.new (w.alloc (.cells #[.slice (some ⟨b, o, none⟩) n c] 22)) 3 (.int .i64 k)).alloc (.cells #[.bool false] 4)).alloc (.cells #[.int .i64 0] 3)).alloc (.cells #[.slice (some ⟨b, o, none⟩) n c] 22)).alloc (.cells #[.int .i64 k] 3)
 have bR := (((Boxed.new ((w.alloc (.cells #[.slice (some ⟨b, o, none⟩) n c] 22)).alloc (.cells #[.int .i64 k] 3)) 4 (.bool false)).alloc (.cells #[.int .i64 0] 3)).alloc (.cells #[.slice (some ⟨b, o, none⟩) n c] 22)).alloc (.cells #[.int .i64 k] 3)
 have bN := ((Boxed.new (((w.alloc (.cells #[.slice (some ⟨b, o, none⟩) n c] 22)).alloc (.cells #[.int .i64 k] 3)).alloc (.cells #[.bool false] 4)) 3 (.int .i64 0)).alloc (.cells #[.slice (some ⟨b, o, none⟩) n c] 22)).alloc (.cells #[.int .i64 k] 3)
 have bT := (Boxed.new ((((w.alloc (.cells #[.slice (some ⟨b, o, none⟩) n c] 22)).alloc (.cells #[.int .i64 k] 3)).alloc (.cells #[.bool false] 4)).alloc (.cells #[.int .i64 0] 3)) 22 (.slice (some ⟨b, o, none⟩) n c)).alloc (.cells #[.int .i64 k] 3)
 have bC := Boxed.new (((((w.alloc (.cells #[.slice (some ⟨b, o, none⟩) n c] 22)).alloc (.cells #[.int .i64 k] 3)).alloc (.cells #[.bool false] 4)).alloc (.cells #[.int .i64 0] 3)).alloc (.cells #[.slice (some ⟨b, o, none⟩) n c] 22)) 3 (.int .i64 k)
 have hB0 := ((((((Below.refl _ w).alloc (Nat.le_refl _) (.cells #[.slice (some ⟨b, o, none⟩) n c] 22)).alloc (by simp) (.cells #[.int .i64 k] 3)).alloc (by simp; omega) (.cells #[.bool false] 4)).alloc (by simp; omega) (.cells #[.int .i64 0] 3)).alloc (by simp; omega) (.cells #[.slice (some ⟨b, o, none⟩) n c] 22)).alloc (by simp; omega) (.cells #[.int .i64 k] 3)
 have hsz : ((((((w.alloc (.cells #[.slice (some ⟨b, o, none⟩) n c] 22)).alloc (.cells #[.int .i64 k] 3)).alloc (.cells #[.bool false] 4)).alloc (.cells #[.int .i64 0] 3)).alloc (.cells #[.slice (some ⟨b, o, none⟩) n c] 22)).alloc (.cells #[.int .i64 k] 3)).heap.size = w.heap.size + 6 := by simp
 simp only [World.size_alloc] at bK bR bN bT bC
 obtain ⟨W0, hW0⟩ : ∃ W0, (((((w.alloc (.cells #[.slice (some ⟨b, o, none⟩) n c] 22)).alloc (.cells #[.int .i64 k] 3)).alloc (.cells #[.bool false] 4)).alloc (.cells #[.int .i64 0] 3)).alloc (.cells #[.slice (some ⟨b, o, none⟩) n c] 22)).alloc (.cells #[.int .i64 k] 3) = W0 := ⟨_, rfl⟩
 rw [hW0] at bL bK bR bN bT bC hB0 hsz ⊢
 clear hW0
 have h0 := h.below hB0 hB (Nat.le_refl _)
 refine wpIn_rangeFunc_ownH rfl (by omega) (gf := 138) (lb := #[.pointer (some ⟨w.heap.size + 1 + 1 + 1 + 1 + 1, 0, none⟩), .pointer (some ⟨w.heap.size + 1 + 1 + 1 + 1, 0, none⟩)]) rfl trivial (enters_of Tryz.func138 (by kernel_rfl) rfl)
  (behind_stops (w.heap.size + 1 + 1 + 1 + 1) (w.heap.size + 1 + 1 + 1 + 1 + 1) n c B w.heap.size k (some ⟨b, o, none⟩) rs W0 hn hk hB (by omega) bT bC h0) KeepAt.trans (KeepAt.put (by omega) (by omega)) (Below.refl _ _) (fun _ => rfl)
  (fun pre W => ((Boxed W w.heap.size 22 (.slice (some ⟨b, o, none⟩) n c) ∧ Boxed W (w.heap.size + 1) 3 (.int .i64 k)) ∧ Boxed W (w.heap.size + 1 + 1) 4 (.bool false) ∧ Boxed W (w.heap.size + 1 + 1 + 1) 3 (.int .i64 (cnt x pre)) ∧ Boxed W (w.heap.size + 1 + 1 + 1 + 1 + 1) 3 (.int .i64 k)) ∧ Goes x pre ∧ Below w.heap.size w W)
  (fun d pre W => (d = .ret ∧ Ends x pre) ∧ Boxed W (w.heap.size + 1 + 1) 4 (.bool (againGo x 0 (pre.map (·.2)))) ∧ Below w.heap.size w W)
  (OwnFrom.and (OwnFrom.and (OwnFrom.and (Own.from (boxed_own _ _ _) _) (Own.from (boxed_own _ _ _) _)) (OwnFrom.and (Own.from (boxed_own _ _ _) _) (OwnFrom.and (Own.from (boxed_own _ _ _) _) (Own.from (boxed_own _ _ _) _)))) (OwnFrom.and (ownFrom_pure _ _) (ownFrom_below (Nat.le_refl _) (by omega))))
  (fun d => OwnFrom.and (ownFrom_pure _ _) (OwnFrom.and (Own.from (boxed_own _ _ _) _) (ownFrom_below (Nat.le_refl _) (by omega))))
  ⟨⟨⟨bL, bK⟩, bR, bN, bC⟩, Goes.nil x, hB0⟩
  (fun y a' W => ∃ Bx, w.heap.size + 5 < Bx ∧ RecBlk W Bx y.2 ∧ a' = { tmps := #[Value.slice (some ⟨b, o, none⟩) n c, .int .i64 k, .pointer (some ⟨w.heap.size, 0, none⟩), .pointer (some ⟨w.heap.size + 1, 0, none⟩), .pointer (some ⟨w.heap.size + 1 + 1, 0, none⟩), .pointer (some ⟨w.heap.size + 1 + 1 + 1, 0, none⟩), undef, .pointer (some ⟨Bx, 0, none⟩), .int .i64 k, .bool false, .bool false, .int .i64 k, .slice (some ⟨b, o, none⟩) n c, .int .i64 n, .bool false, .bool false, .bool false, .slice (some ⟨b, o, none⟩) n c, .int .i64 k, .pointer (some ⟨b, o + k * 12, none⟩), .pointer (some ⟨b, o + k * 12 + 1, none⟩), .int .u8 x.act, .bool false, .bool false, .slice (some ⟨b, o, none⟩) n c, .int .i64 k, .func (.func 138) #[] #[.pointer (some ⟨w.heap.size + 1 + 1 + 1 + 1 + 1, 0, none⟩), .pointer (some ⟨w.heap.size + 1 + 1 + 1 + 1, 0, none⟩)], .int .i64 y.1, y.2.val, undef, undef, undef, undef, undef, undef, undef, undef, undef, undef, undef, undef, undef, undef, undef, undef, undef, undef, undef, undef, undef, undef, undef, undef, undef, undef, undef, undef, undef, undef, undef, undef, undef, undef, undef, undef, undef, undef], defers := [] })
  (fun y a' _ X Y row hs hg hr => by obtain ⟨Bx, h1, h2, h3⟩ := hs; exact ⟨Bx, h1, h2.kept hg (h2.not_row (fun r e => (hr r e).2)), h3⟩)
  ?assign ?body ?done ?stop
 case assign =>
  rintro l pre y W K ⟨⟨⟨qL, qK⟩, qR, qN, qC⟩, hG, hB1⟩ hK
  have hsW := hB1.size
  have hq := qC.lt
  unfold R.val
  gi_wp2
  exact hK _ _ ((KeepsOthers.alloc _ _).from _) ⟨fun i hi => Below.heap_alloc _ _ _ (by omega), Below.heap_alloc _ _ _ (by omega)⟩ ⟨⟨⟨qL.alloc _, qK.alloc _⟩, qR.alloc _, qN.alloc _, qC.alloc _⟩, hG, hB1.alloc hsW _⟩ ⟨W.heap.size, by omega, heap_alloc_new W _, rfl⟩
 case body =>
  rintro l pre y a' W hl _ ⟨⟨⟨qL, qK⟩, qR, qN, qC⟩, hG, hB1⟩ ⟨Bx, hBx, hX, rfl⟩ hlt
  have hsW := hB1.size
  have cL := qL.cell
  have cK := qK.cell
  have cN := qN.cell
  have fN := qN.frozen
  have fR := qR.frozen
  have cR := qR.cell
  have hcl := cnt_le x pre
  have hXa := hX.at_
  have hb2 := (h.below hB1 hB (Nat.le_refl _))
  obtain ⟨b', o', x', e1, hb3, e2, hx2, _⟩ := hb2.get hk
  cases e1
  obtain rfl : x = x' := by rw [hx] at e2; simpa using e2
  have x4 := hx2.c4
  have x9 := hx2.c9
  have x10 := hx2.c10
  have y4 := hXa.c4
  have y1 := hXa.c1
  have y9 := hXa.c9
  have y10 := hXa.c10
  clear e2 hb3 hb2 hXa hx2
  by_cases hi : y.2.ino = x.ino
  case neg =>
   have hi' : (y.2.ino != x.ino) = true := by simpa using hi
   have hG2 := Lib.hid (hG.step y (fun rest => by rw [cnt_snoc, if_neg (fun hh => hi hh.1)]; simp only [againGo, ne_eq, hi, not_false_eq_true, if_true]; rfl))
   have hC2 := Lib.hid (show cnt x (pre ++ [y]) = cnt x pre by rw [cnt_snoc, if_neg (fun hh => hi hh.1)]; rfl)
   clear hi
   gi_wp2
   (refine round_quiet (by kernel_rfl) (by kernel_rfl) (by kernel_rfl) ?_; (repeat (go_big_quiet_step (fail))); refine wpQuiet_nil ?_; intro _ hw'; obtain ⟨nq, hw''⟩ := hw'; subst hw'')
   gi_wp2
   refine ⟨⟨Nat.le_refl _, fun _ _ _ h _ => h⟩, ⟨fun _ _ => rfl, rfl⟩, ⟨⟨qL, qK⟩, qR, ?_, qC⟩, hG2.out, bdn hB1 _⟩
   rw [hC2.out]; exact qN
  case pos =>
   have hi' : (y.2.ino != x.ino) = false := by simpa using hi
   by_cases ha : y.2.act = 5 ∨ y.2.act = 7 ∨ y.2.act = 1
   case pos =>
    obtain ⟨v1, v2⟩ := hG.ends y false (fun rest => by simp only [againGo, ne_eq, hi, not_true_eq_false, if_false, ha, if_true])
    have hV := Lib.hid v1
    have hE := Lib.hid v2
    clear v1 v2
    have Hi := Lib.hid hi
    clear hi
    have fin := Lib.hid (show ∀ q, KeepsFrom W0.heap.size W ((W.drewN q).setCell ⟨w.heap.size + 1 + 1, 0, none⟩ (.bool false)) ∧ (Ends x (pre ++ [y]) ∧ Boxed ((W.drewN q).setCell ⟨w.heap.size + 1 + 1, 0, none⟩ (.bool false)) (w.heap.size + 1 + 1) 4 (.bool (againGo x 0 ((pre ++ [y]).map (·.2)))) ∧ Below w.heap.size w ((W.drewN q).setCell ⟨w.heap.size + 1 + 1, 0, none⟩ (.bool false))) from fun q => by
     refine ⟨KeepsFrom.trans (Y := W.drewN q) ⟨Nat.le_refl _, fun _ _ _ h _ => h⟩ ((KeepsOthers.setCell (W.drewN q) _ _).from _), hE.out, ?_, (bdn hB1 q).setCell (p := ⟨w.heap.size + 1 + 1, 0, none⟩) (by simp; omega) _⟩
     rw [hV.out]; exact Boxed.set (W := W.drewN q) _ qR)
    by_cases a5 : y.2.act = 5
    · have a5' : (y.2.act == 5) = true := by simpa using a5
      clear ha a5
      gi_wp2
      (refine round_quiet (by kernel_rfl) (by kernel_rfl) (by kernel_rfl) ?_; (repeat (go_big_quiet_step (fail))); refine wpQuiet_nil ?_; intro _ hw'; obtain ⟨nq, hw''⟩ := hw'; subst hw'')
      gi_wp2
      obtain ⟨f1, f2, f3, f4⟩ := fin.out nq; exact ⟨f1, ⟨rfl, f2⟩, f3, f4⟩
    · have a5' : (y.2.act == 5) = false := by simpa using a5
      by_cases a7 : y.2.act = 7
      · have a7' : (y.2.act == 7) = true := by simpa using a7
        clear ha a5 a7
        gi_wp2
        (refine round_quiet (by kernel_rfl) (by kernel_rfl) (by kernel_rfl) ?_; (repeat (go_big_quiet_step (fail))); refine wpQuiet_nil ?_; intro _ hw'; obtain ⟨nq, hw''⟩ := hw'; subst hw'')
        gi_wp2
        obtain ⟨f1, f2, f3, f4⟩ := fin.out nq; exact ⟨f1, ⟨rfl, f2⟩, f3, f4⟩
      · have a7' : (y.2.act == 7) = false := by simpa using a7
        have a1' : (y.2.act == 1) = true := by simpa [a5, a7] using ha
        clear ha a5 a7
        gi_wp2
        (refine round_quiet (by kernel_rfl) (by kernel_rfl) (by kernel_rfl) ?_; (repeat (go_big_quiet_step (fail))); refine wpQuiet_nil ?_; intro _ hw'; obtain ⟨nq, hw''⟩ := hw'; subst hw'')
        gi_wp2
        obtain ⟨f1, f2, f3, f4⟩ := fin.out nq; exact ⟨f1, ⟨rfl, f2⟩, f3, f4⟩
   case neg =>
    obtain ⟨a5, a71⟩ := not_or.1 ha
    obtain ⟨a7, a1⟩ := not_or.1 a71
    have a5' : (y.2.act == 5) = false := by simpa using a5
    have a7' : (y.2.act == 7) = false := by simpa using a7
    have a1' : (y.2.act == 1) = false := by simpa using a1
    by_cases a6 : y.2.act = 6
    case neg =>
     have a6' : (y.2.act == 6) = false := by simpa using a6
     have hG2 := Lib.hid (hG.step y (fun rest => by rw [cnt_snoc, if_neg (fun hh => a6 hh.2)]; simp only [againGo, ne_eq, hi, not_true_eq_false, if_false, ha, a6]; rfl))
     have hC2 := Lib.hid (show cnt x (pre ++ [y]) = cnt x pre by rw [cnt_snoc, if_neg (fun hh => a6 hh.2)]; rfl)
     clear hi ha a5 a71 a7 a1 a6
     gi_wp2
     (refine round_quiet (by kernel_rfl) (by kernel_rfl) (by kernel_rfl) ?_; (repeat (go_big_quiet_step (fail))); refine wpQuiet_nil ?_; intro _ hw'; obtain ⟨nq, hw''⟩ := hw'; subst hw'')
     gi_wp2
     refine ⟨⟨Nat.le_refl _, fun _ _ _ h _ => h⟩, ⟨fun _ _ => rfl, rfl⟩, ⟨⟨qL, qK⟩, qR, ?_, qC⟩, hG2.out, bdn hB1 _⟩
     rw [hC2.out]; exact qN
    case pos =>
     have a6' : (y.2.act == 6) = true := by simpa using a6
     have hgo : ∀ rest, againGo x (cnt x pre) (y.2 :: rest) = if cnt x pre = 0 ∧ x.size < y.2.size then false else if y.2.page = x.page then true else againGo x (cnt x pre + 1) rest := fun rest => by
      simp only [againGo, ne_eq, hi, not_true_eq_false, if_false, ha]; rw [if_pos a6]
     have Hgo := Lib.hid hgo
     have hC2 := Lib.hid (show cnt x (pre ++ [y]) = cnt x pre + 1 by rw [cnt_snoc, if_pos ⟨hi, a6⟩])
     clear hi ha a5 a71 a7 a1 a6 hgo
     have eB : Bx ≠ w.heap.size + 1 + 1 + 1 := by omega
     have eb : b ≠ w.heap.size + 1 + 1 + 1 := by omega
     have hWf : ∀ q : Nat, ∃ W1, (W.drewN q).setCell ⟨w.heap.size + 1 + 1 + 1, 0, none⟩ (.int .i64 ((cnt x pre : Int) + 1)) = W1 ∧ RowKit.Hid (((Boxed W1 w.heap.size 22 (.slice (some ⟨b, o, none⟩) n c) ∧ Boxed W1 (w.heap.size + 1) 3 (.int .i64 k)) ∧ Boxed W1 (w.heap.size + 1 + 1) 4 (.bool false) ∧ Boxed W1 (w.heap.size + 1 + 1 + 1) 3 (.int .i64 (cnt x (pre ++ [y]))) ∧ Boxed W1 (w.heap.size + 1 + 1 + 1 + 1 + 1) 3 (.int .i64 k)) ∧ Below w.heap.size w W1 ∧ KeepsFrom W0.heap.size W W1 ∧ KeepAt w.heap.size (w.heap.size + 1 + 1 + 1 + 1) W W1)
       ∧ W1.cell? ⟨w.heap.size, 0, none⟩ = some (.slice (some ⟨b, o, none⟩) n c) ∧ W1.cell? ⟨w.heap.size + 1, 0, none⟩ = some (.int .i64 k) ∧ W1.cell? ⟨w.heap.size + 1 + 1 + 1, 0, none⟩ = some (.int .i64 ((cnt x pre : Int) + 1)) ∧ W1.frozen? ⟨w.heap.size + 1 + 1, 0, none⟩ = false ∧ W1.cell? ⟨w.heap.size + 1 + 1, 0, none⟩ = some (.bool false)
       ∧ W1.cell? ⟨b, o + k * 12 + 9, none⟩ = some (.int .u32 x.size) ∧ W1.cell? ⟨b, o + k * 12 + 10, none⟩ = some (.int .i64 x.page) ∧ W1.cell? ⟨Bx, 9, none⟩ = some (.int .u32 y.2.size) ∧ W1.cell? ⟨Bx, 10, none⟩ = some (.int .i64 y.2.page) := fun q => by
      refine ⟨_, rfl, Lib.hid ⟨⟨⟨Boxed.other (W := W.drewN q) qL (by omega) _, Boxed.other (W := W.drewN q) qK (by omega) _⟩, Boxed.other (W := W.drewN q) qR (by omega) _, ?_, Boxed.other (W := W.drewN q) qC (by omega) _⟩, (bdn hB1 q).setCell (p := ⟨w.heap.size + 1 + 1 + 1, 0, none⟩) (by simp; omega) _, KeepsFrom.trans (Y := W.drewN q) ⟨Nat.le_refl _, fun _ _ _ h _ => h⟩ ((KeepsOthers.setCell (W.drewN q) _ _).from _), ⟨fun i hi => Below.heap_setCell _ _ _ i (by simp; omega), Below.heap_setCell _ _ _ _ (by simp)⟩⟩, ?_⟩
      · have := Boxed.set (W := W.drewN q) (.int .i64 ((cnt x pre : Int) + 1)) qN
        rw [hC2.out]; simpa using this
      · exact ⟨(Boxed.other (W := W.drewN q) qL (by omega) _).cell, (Boxed.other (W := W.drewN q) qK (by omega) _).cell, (Boxed.set (W := W.drewN q) _ qN).cell, (Boxed.other (W := W.drewN q) qR (by omega) _).frozen, (Boxed.other (W := W.drewN q) qR (by omega) _).cell, (World.cell?_of_block (Below.heap_setCell _ _ _ b (by simpa using eb))).trans x9, (World.cell?_of_block (Below.heap_setCell _ _ _ b (by simpa using eb))).trans x10, (World.cell?_of_block (Below.heap_setCell _ _ _ Bx (by simpa using eB))).trans y9, (World.cell?_of_block (Below.heap_setCell _ _ _ Bx (by simpa using eB))).trans y10⟩
     have HWf := Lib.hid hWf
     clear hWf
     by_cases c0 : cnt x pre = 0
     case pos =>
      have c0' : ((cnt x pre : Int) + 1 == 1) = true := by rw [c0]; rfl
      by_cases hs : x.size < y.2.size
      case pos =>
       have hs' : (decide (x.size < y.2.size)) = true := by simpa using hs
       obtain ⟨v1, v2⟩ := hG.ends y false (fun rest => by rw [Hgo.out, if_pos ⟨c0, hs⟩])
       have hV := Lib.hid v1
       have hE := Lib.hid v2
       clear v1 v2 hs c0
       gi_wp2
       (refine round_quiet (by kernel_rfl) (by kernel_rfl) (by kernel_rfl) ?_; (repeat (go_big_quiet_step (fail))); refine wpQuiet_nil ?_; intro _ hw'; obtain ⟨nq, hw''⟩ := hw'; subst hw'')
       gi_wp2
       obtain ⟨W1, hW1, HI, z0, z1, z2, z3, z4, z5, z6, z7, z8⟩ := HWf.out nq
       rw [hW1]
       clear hW1
       (refine round_quiet (by kernel_rfl) (by kernel_rfl) (by kernel_rfl) ?_; (repeat (go_big_quiet_step (fail))); refine wpQuiet_nil ?_; intro _ hw'; obtain ⟨nq, hw''⟩ := hw'; subst hw'')
       obtain ⟨n1, hn1⟩ : ∃ n1, n1 = nq := ⟨_, rfl⟩
       rw [← hn1]
       clear hn1
       gi_wp2
       obtain ⟨⟨⟨p1, p2⟩, p3, p4, p5⟩, p6, p7, p8⟩ := HI
       obtain ⟨f1, f2, f3⟩ := ret_fin p7 p6 p3 (by omega) (.bool false) n1
       exact ⟨f1, ⟨rfl, hE.out⟩, by rw [hV.out]; exact f2, f3⟩
      case neg =>
       have hs' : (decide (x.size < y.2.size)) = false := by simpa using hs
       have Hnn := Lib.hid (show ¬ (cnt x pre = 0 ∧ x.size < y.2.size) from fun hh => hs hh.2)
       clear hs c0
       gi_wp2
       (refine round_quiet (by kernel_rfl) (by kernel_rfl) (by kernel_rfl) ?_; (repeat (go_big_quiet_step (fail))); refine wpQuiet_nil ?_; intro _ hw'; obtain ⟨nq, hw''⟩ := hw'; subst hw'')
       gi_wp2
       obtain ⟨W1, hW1, HI, z0, z1, z2, z3, z4, z5, z6, z7, z8⟩ := HWf.out nq
       rw [hW1]
       clear hW1
       (refine round_quiet (by kernel_rfl) (by kernel_rfl) (by kernel_rfl) ?_; (repeat (go_big_quiet_step (fail))); refine wpQuiet_nil ?_; intro _ hw'; obtain ⟨nq, hw''⟩ := hw'; subst hw'')
       obtain ⟨n1, hn1⟩ : ∃ n1, n1 = nq := ⟨_, rfl⟩
       rw [← hn1]
       clear hn1
       by_cases hp : y.2.page = x.page
       case pos =>
        have hp' : (y.2.page == x.page) = true := by simpa using hp
        obtain ⟨v1, v2⟩ := Lib.hid (hG.ends y true (fun rest => by rw [Hgo.out, if_neg Hnn.out, if_pos hp]))
        have hV := Lib.hid v1
        have hE := Lib.hid v2
        clear hp v1 v2
        gi_wp2
        (refine round_quiet (by kernel_rfl) (by kernel_rfl) (by kernel_rfl) ?_; (repeat (go_big_quiet_step (fail))); refine wpQuiet_nil ?_; intro _ hw'; obtain ⟨nq, hw''⟩ := hw'; subst hw'')
        gi_wp2
        obtain ⟨⟨⟨p1, p2⟩, p3, p4, p5⟩, p6, p7, p8⟩ := HI
        obtain ⟨f1, f2, f3⟩ := ret_fin p7 p6 p3 (by omega) (.bool true) (n1 + nq)
        exact ⟨f1, ⟨rfl, hE.out⟩, by rw [hV.out]; exact f2, f3⟩
       case neg =>
        have hp' : (y.2.page == x.page) = false := by simpa using hp
        have hG2 := Lib.hid (hG.step y (fun rest => by rw [hC2.out, Hgo.out, if_neg Hnn.out, if_neg hp]))
        clear hp
        gi_wp2
        (refine round_quiet (by kernel_rfl) (by kernel_rfl) (by kernel_rfl) ?_; (repeat (go_big_quiet_step (fail))); refine wpQuiet_nil ?_; intro _ hw'; obtain ⟨nq, hw''⟩ := hw'; subst hw'')
        gi_wp2
        obtain ⟨⟨⟨p1, p2⟩, p3, p4, p5⟩, p6, p7, p8⟩ := HI
        refine ⟨p7.trans ⟨Nat.le_refl _, fun _ _ _ h _ => h⟩, p8.trans ⟨fun _ _ => rfl, rfl⟩, ⟨⟨p1, p2⟩, p3, p4, p5⟩, hG2.out, bdn (bdn p6 _) _⟩
     case neg =>
      have c0' : ((cnt x pre : Int) + 1 == 1) = false := by simp; omega
      have Hnn := Lib.hid (show ¬ (cnt x pre = 0 ∧ x.size < y.2.size) from fun hh => c0 hh.1)
      clear c0
      gi_wp2
      (refine round_quiet (by kernel_rfl) (by kernel_rfl) (by kernel_rfl) ?_; (repeat (go_big_quiet_step (fail))); refine wpQuiet_nil ?_; intro _ hw'; obtain ⟨nq, hw''⟩ := hw'; subst hw'')
      gi_wp2
      obtain ⟨W1, hW1, HI, z0, z1, z2, z3, z4, z5, z6, z7, z8⟩ := HWf.out nq
      rw [hW1]
      clear hW1
      (refine round_quiet (by kernel_rfl) (by kernel_rfl) (by kernel_rfl) ?_; (repeat (go_big_quiet_step (fail))); refine wpQuiet_nil ?_; intro _ hw'; obtain ⟨nq, hw''⟩ := hw'; subst hw'')
      obtain ⟨n1, hn1⟩ : ∃ n1, n1 = nq := ⟨_, rfl⟩
      rw [← hn1]
      clear hn1
      by_cases hp : y.2.page = x.page
      case pos =>
       have hp' : (y.2.page == x.page) = true := by simpa using hp
       obtain ⟨v1, v2⟩ := Lib.hid (hG.ends y true (fun rest => by rw [Hgo.out, if_neg Hnn.out, if_pos hp]))
       have hV := Lib.hid v1
       have hE := Lib.hid v2
       clear hp v1 v2
       gi_wp2
       (refine round_quiet (by kernel_rfl) (by kernel_rfl) (by kernel_rfl) ?_; (repeat (go_big_quiet_step (fail))); refine wpQuiet_nil ?_; intro _ hw'; obtain ⟨nq, hw''⟩ := hw'; subst hw'')
       gi_wp2
       obtain ⟨⟨⟨p1, p2⟩, p3, p4, p5⟩, p6, p7, p8⟩ := HI
       obtain ⟨f1, f2, f3⟩ := ret_fin p7 p6 p3 (by omega) (.bool true) (n1 + nq)
       exact ⟨f1, ⟨rfl, hE.out⟩, by rw [hV.out]; exact f2, f3⟩
      case neg =>
       have hp' : (y.2.page == x.page) = false := by simpa using hp
       have hG2 := Lib.hid (hG.step y (fun rest => by rw [hC2.out, Hgo.out, if_neg Hnn.out, if_neg hp]))
       clear hp
       gi_wp2
       (refine round_quiet (by kernel_rfl) (by kernel_rfl) (by kernel_rfl) ?_; (repeat (go_big_quiet_step (fail))); refine wpQuiet_nil ?_; intro _ hw'; obtain ⟨nq, hw''⟩ := hw'; subst hw'')
       gi_wp2
       obtain ⟨⟨⟨p1, p2⟩, p3, p4, p5⟩, p6, p7, p8⟩ := HI
       refine ⟨p7.trans ⟨Nat.le_refl _, fun _ _ _ h _ => h⟩, p8.trans ⟨fun _ _ => rfl, rfl⟩, ⟨⟨p1, p2⟩, p3, p4, p5⟩, hG2.out, bdn (bdn p6 _) _⟩
 case done =>
  rintro D ys W hD rfl ⟨⟨⟨qL, qK⟩, qR, qN, qC⟩, hG, hB1⟩ hK
  have fR := qR.frozen
  have cR := qR.cell
  have hV : againGo x 0 (rs.drop (k + 1)) = false := by
   have := hG []
   rwa [List.append_nil, behindOf_snd] at this
  have Hv := Lib.hid hV
  clear hV
  gi_wp2
  have hK' : (W.setCell ⟨w.heap.size + 1 + 1, 0, none⟩ (.bool false)).heap[D]? = some (.deferred (some [])) := (Below.heap_setCell _ _ _ D (by simp; omega)).trans hK
  have qR2 := qR.set (.bool false)
  have hc5 := (qR2.kept (grownBy_putObj' _ D (.deferred none)) (by simp; omega)).cell
  have hB2 := hB1.setCell (p := ⟨w.heap.size + 1 + 1, 0, none⟩) (by simp; omega) (.bool false)
  refine ⟨by simp, .inl ⟨_, _, rfl, run_takeDeferred hK', ?_⟩⟩
  exact ⟨_, by simp [results, Tryz.f77, go_sem, hc5]; rfl, by rw [Hv.out], hB2.trans (belowK_b (w := w) (Nat.le_refl _) _ D _ _ (by omega) hK' rfl rfl)⟩
 case stop =>
  rintro D d pre W hD hp ⟨⟨rfl, hE⟩, qR, hB1⟩ hK
  have cR := qR.cell
  have hV : againGo x 0 (rs.drop (k + 1)) = againGo x 0 (pre.map (·.2)) := by
   obtain ⟨t, ht⟩ := hp
   have := hE (t.map (·.2))
   rwa [← List.map_append, ht, behindOf_snd] at this
  have Hv := Lib.hid hV
  clear hV
  gi_wp2
  have hc5 := (qR.kept (grownBy_putObj' _ D (.deferred none)) (by simp; omega)).cell
  refine ⟨by simp, .inl ⟨_, _, rfl, run_takeDeferred hK, ?_⟩⟩
  exact ⟨_, by simp [results, Tryz.f77, go_sem, hc5]; rfl, by rw [Hv.out], hB1.trans (belowK_b (w := w) (Nat.le_refl _) _ D _ _ (by omega) hK rfl rfl)⟩
set_option maxRecDepth 100000 in
set_option maxHeartbeats 2000000 in
theorem again_any (A : Option Addr) (n c B k : Nat) (rs : List R) (w : World) (h : Recs w B A n rs) (hB : B ≤ w.heap.size) (hn : n ≤ maxLen) (hk : k < n) :
  Calls Tryz.prog 77 #[.slice A n c, .int .i64 k] w fun e W' => e = .returned (.bool (againB rs k)) ∧ Below w.heap.size w W' := by
 obtain ⟨b, o, x, rfl, hbB, hx, hat, hxok⟩ := h.get hk
 by_cases h6 : x.act = 6
 · have := callsIn_wide.1 (again_in (some ⟨b, o, none⟩) n c B k rs x w h hB hn hk hx (by simpa using h6))
   refine this.mono ?_
   rintro e W' ⟨rfl, hb⟩
   exact ⟨by unfold againB; rw [hx]; simp only [h6, if_true], hb⟩
 · have hv : againB rs k = false := by unfold againB; rw [hx]; simp only [h6, if_false]
   rw [hv]
   have h6' : (x.act != 6) = true := by simpa using h6
   have hn' := hn
   unfold maxLen at hn'
   have hb1 : b < w.heap.size := by omega
   have c1 := hat.c1
   have hb2 : b < w.heap.size + 1 := by omega
   have hb3 : b < w.heap.size + 1 + 1 := by omega
   have hkn : ¬ (n : Int) ≤ k := by omega
   have hk0 : ¬ (k : Int) < 0 := by omega
   clear h6 hv hx
   go_enter Tryz.func77, Tryz.ntmps77
   go_wp2
   refine bodyPost_ret (v := .bool false) (by simp [results, Tryz.f77, go_sem]) rfl ?_
   exact ⟨rfl, (((Below.refl _ w).alloc (Nat.le_refl _) _).alloc (by simp) _).alloc (by simp; omega) _⟩
end Go.Proofs.YtogljgiefmfafaaGreat.A
