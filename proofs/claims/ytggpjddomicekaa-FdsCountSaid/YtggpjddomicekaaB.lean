/- The iterator over a core's open descriptors, and its callers List and Opens. -/
import Derived.Test.YtggpjddomicekaaA
import Derived.RangeFuncNested
import Derived.RangeFuncLeaves
import Derived.Shelf.Abstract
import Derived.Shelf.RegionOpen
import Derived.OwnWalkIn
import Derived.TacticsInMore
import Derived.LoopNIn
import Derived.LoopIn
import Derived.Maps.AppendAt
import Derived.Sort.BigQuietIn
import Derived.BigQuiet
import Derived.Deep.MidRow
namespace Go.Proofs.Ytggpjddomicekaa
open Go.RowKit

attribute [local go_sem] Oper.semAt_some

theorem wideScope {n : Nat} {P : Program} {c : Code} {Q : Exit → Act → World → Prop} {a : Act} {w : World} (h : c.wpIn Fence.wide n P (Exit.noGoto Q) a w) : (Code.scope c).wpIn Fence.wide n P Q a w :=
  wpIn_wide.2 (wp_scope_straight (wpIn_wide.1 h))
theorem wideLabel {n : Nat} {P : Program} {l : Nat} {Q : Exit → Act → World → Prop} {a : Act} {w : World} (h : Q .normal a w) : (Code.label l).wpIn Fence.wide n P Q a w :=
  wpIn_wide.2 (wp_label h)

/-- A load of many cells, in a region whose operations only read. -/
theorem wpQuiet_load_mid {P : Program} {ops : Array Oper} {C : World → Prop} {Q : Act → Prop} {a : Act} {o : Oper} {rest : List Oper} (hgd : o.guard = none) (ty : TypeId) (x : Operand) (ho : o.op = .load ty x)
    (p : Value) (hx : a.eval x = p) (v : Value) (hrun : ∀ w, C w → (Instr.loadAt ty p).run P w = .ok v w)
    (h : wpQuiet P ops C Q rest (a.put o.dst v)) : wpQuiet P ops C Q (o :: rest) a := by
  unfold wpQuiet
  rw [if_pos (by simp [Region.wanted, hgd])]
  refine ⟨v, fun w hw => ?_, h⟩
  unfold Oper.quietAt execOp
  simp only [ho, hx, Sem.run_bind, Sem.run_pure, hrun w hw, Result.andThen_ok]
  exact ⟨rfl, rfl⟩

theorem opener (b : Nat) (c : Int) (w : World) :
    CallsIn Fence.wide 9 Try.prog 12 #[.pointer (some ⟨b, 0, none⟩), .int .i64 c] w fun e w' => e = .returned (.func (.func 13) #[] #[.pointer (some ⟨w.heap.size, 0, none⟩), .pointer (some ⟨w.heap.size + 1, 0, none⟩)]) ∧ w' = (w.alloc (.cells #[.pointer (some ⟨b, 0, none⟩)] 24)).alloc (.cells #[.int .i64 c] 3) := by
  refine callsIn_of_wp Try.func12 rfl trivial ?_ rfl
  simp only [Try.ntmps12, List.size_toArray, List.length_cons, List.length_nil, Nat.reduceAdd, Nat.reduceSub, Array.replicate_succ, Array.replicate_zero, List.push_toArray, List.append_toArray, List.nil_append, List.cons_append]
  gi_wp2
  go_ret
  exact ⟨rfl, rfl⟩

/-- The open ones of a row, from place k on: descriptor and inode. -/
def opens (T : Nat → Int) (c : Nat) : Nat → List (Nat × Int)
  | 0 => []
  | k + 1 => opens T c k ++ (if T (c * 16 + k) = 0 then [] else [(k, T (c * 16 + k))])

theorem opens_length (T : Nat → Int) (c k : Nat) : (opens T c k).length ≤ k := by
  induction k with
  | zero => simp [opens]
  | succ k ih => unfold opens; split <;> simp <;> omega
theorem opens_zero {T : Nat → Int} {c k : Nat} (h : T (c * 16 + k) = 0) : opens T c (k + 1) = opens T c k := by simp [opens, h]
theorem opens_some {T : Nat → Int} {c k : Nat} (h : T (c * 16 + k) ≠ 0) : opens T c (k + 1) = opens T c k ++ [(k, T (c * 16 + k))] := by simp [opens, h]
theorem opens_prefix (T : Nat → Int) (c k m : Nat) (h : k ≤ m) : opens T c k <+: opens T c m := by
  induction m with
  | zero => obtain rfl : k = 0 := by omega
            exact List.prefix_refl _
  | succ m ih =>
    by_cases e : k = m + 1
    · subst e; exact List.prefix_refl _
    · refine (ih (by omega)).trans ?_
      rw [opens]; exact List.prefix_append _ _

/-- The cells of a row of the table. -/
def rowCells (T : Nat → Int) (c : Nat) : List Value := (List.range 16).map fun i => .int .u32 (T (c * 16 + i))

theorem rowCells_length (T : Nat → Int) (c : Nat) : (rowCells T c).length = 16 := by simp [rowCells]

theorem Tab.load {w : World} {b : Nat} {T : Nat → Int} {n : Int} (h : Tab w b T n) (c : Nat) (hc : c < 8) :
    (Instr.loadAt 44 (.pointer (some ⟨b, c * 16, none⟩))).run Try.prog w = .ok (.agg (rowCells T c).toArray) w := by
  refine run_loadAt_mid w b (c * 16) 44 (rowCells T c) _ ?_ Try.underlying44 rfl (by rw [rowCells_length]; kernel_rfl)
  intro j v hj
  have hl : j < 16 := by have := (List.getElem?_eq_some_iff.1 hj).1; rwa [rowCells_length] at this
  simp [rowCells, hl] at hj
  rw [h.cell (by omega), hj]

theorem rowCells_get (T : Nat → Int) (c k : Nat) (hk : k < 16) : (rowCells T c)[k]? = some (.int .u32 (T (c * 16 + k))) := by
  simp [rowCells, hk]
theorem run_index_row (T : Nat → Int) (c k : Nat) (hk : k < 16) (w : World) :
    (Instr.index 44 (.agg (rowCells T c).toArray) (.int .i64 k)).run Try.prog w = .ok (.int .u32 (T (c * 16 + k))) w := by
  have hg := rowCells_get T c k hk
  unfold Instr.index
  simp [go_sem, run_underlying Try.underlying44, part]
  rw [if_pos hk, hg]
  rfl

set_option maxRecDepth 100000 in
set_option maxHeartbeats 1000000 in
theorem iter_in (l Bt Bc b c : Nat) (n : Int) (T : Nat → Int) (n₀ : Nat) (J Jx : List (Nat × Int) → World → Prop) (hcn : (c : Int) < n) (hn : n ≤ 8)
    (hY : ∀ pre x W, J pre W → pre.length < 16 → YieldAt Fence.wide 5 Try.prog l #[.agg #[.int .i64 x.1, .int .u32 x.2]] W fun e W' =>
      (e = .returned (.bool true) ∧ J (pre ++ [x]) W' ∧ Below n₀ W W') ∨ (e = .returned (.bool false) ∧ Jx (pre ++ [x]) W'))
    (W : World) (hBt : W.cell? ⟨Bt, 0, none⟩ = some (.pointer (some ⟨b, 0, none⟩))) (hBc : W.cell? ⟨Bc, 0, none⟩ = some (.int .i64 c)) (hT : Tab W b T n) (h0 : ∀ nq, J [] (W.drewN nq)) :
    CallsIn Fence.wide 6 Try.prog 13 #[.func (.yield l) #[] #[], .pointer (some ⟨Bt, 0, none⟩), .pointer (some ⟨Bc, 0, none⟩)] W fun e W' => (∃ v, e = .returned v) ∧
      ((∃ ys, ys = opens T c 16 ∧ J ys W') ∨ (∃ pre, pre <+: opens T c 16 ∧ Jx pre W')) := by
  refine callsIn_of_wp Try.func13 rfl trivial ?_ rfl
  simp only [Try.ntmps13, List.size_toArray, List.length_cons, List.length_nil, Nat.reduceAdd, Nat.reduceSub, Array.replicate_succ, Array.replicate_zero, List.push_toArray, List.append_toArray, List.nil_append, List.cons_append]
  have hc8 : (c : Int) < 8 := by omega
  have hc0 : (0 : Int) ≤ c := by omega
  have hld : ∀ k, (Instr.loadAt 44 (.pointer (some ⟨b, c * 16, none⟩))).run Try.prog (W.drewN k) = .ok (.agg (rowCells T c).toArray) (W.drewN k) := fun k => Tab.load (w := W.drewN k) (hT.kept rfl) c (by omega)
  have hrow := run_index_row T c
  have hls := rowCells_length T c
  refine wideScope ?_
  gi_wp2_with (first | (refine ⟨trivial, ?_⟩; gi_at_call 11; refine (callsIn_wide.2 (has_yes _ _ _ _ hT.cores (by omega) hcn)).mono ?_; rintro e w' ⟨rfl, rfl⟩) | refine wideLabel ?_)
  refine wpIn_wide.2 ?_
  refine wp_region_quiet_lit (by kernel_rfl) (by kernel_rfl) ?_
  repeat (go_big_quiet_step (fail))
  refine wpQuiet_load_mid rfl 44 _ rfl _ rfl (.agg (rowCells T c).toArray) (by rintro w ⟨k, rfl⟩; exact hld k) ?_
  simp only [Act.put, List.setIfInBounds_toArray, List.set_cons_succ, List.set_cons_zero]
  repeat (go_big_quiet_step (fail))
  refine wpQuiet_nil ?_
  rintro _ ⟨nq, rfl⟩
  gi_wp2
  gi_loopw [16] (fun i wr => ∃ k : Nat, k ≤ 16 ∧ i = .int .i64 k ∧ J (opens T c k) wr) (fun i _ => 17 - (intOf i).toNat)
  case atStart => exact ⟨0, by omega, rfl, h0 nq⟩
  case round =>
    obtain ⟨k, hk, rfl, hJ⟩ := hrel
    have hlen := opens_length T c k
    by_cases he : k = 16
    · subst he
      gi_wp2
      rw [Exit.noGoto_normal]
      go_end0
      exact ⟨⟨_, rfl⟩, .inl ⟨_, rfl, hJ⟩⟩
    · have hk16 : k < 16 := by omega
      have hrk := hrow k hk16
      obtain ⟨fn, tmps, assign, body, hy, hR⟩ := hY (opens T c k) (k, T (c * 16 + k)) wr hJ (by omega)
      by_cases hz : T (c * 16 + k) = 0
      · have hJ' : J (opens T c (k + 1)) wr := by rw [opens_zero hz]; exact hJ
        have hz' : (T (c * 16 + k) == 0) = true := by simpa using hz
        clear hz
        gi_wp2
        go_roundw
        case rel => exact ⟨k + 1, by omega, by go_num, hJ'⟩
        case measure => simp [intOf]; omega
      · have hz' : (T (c * 16 + k) == 0) = false := by simpa using hz
        clear hls hld
        gi_wp2
        refine hR.mono ?_
        rintro e W3 (⟨rfl, hJ3, hk3⟩ | ⟨rfl, hJx3⟩)
        · rw [← opens_some hz] at hJ3
          gi_wp2
          go_roundw
          case rel => exact ⟨k + 1, by omega, by go_num, hJ3⟩
          case measure => simp [intOf]; omega
        · rw [← opens_some hz] at hJx3
          have hpre := opens_prefix T c (k + 1) 16 (by omega)
          gi_wp2
          rw [Exit.noGoto_normal]
          go_end0
          exact ⟨⟨_, rfl⟩, .inr ⟨_, hpre, hJx3⟩⟩

theorem iter_no (l Bt Bc b : Nat) (c : Int) (n : Int) (W : World) (h : ¬ (0 ≤ c ∧ c < n)) (hBt : W.cell? ⟨Bt, 0, none⟩ = some (.pointer (some ⟨b, 0, none⟩))) (hBc : W.cell? ⟨Bc, 0, none⟩ = some (.int .i64 c))
    (hc : W.cell? ⟨b, 128, none⟩ = some (.int .i64 n)) :
    CallsIn Fence.wide 6 Try.prog 13 #[.func (.yield l) #[] #[], .pointer (some ⟨Bt, 0, none⟩), .pointer (some ⟨Bc, 0, none⟩)] W fun e W' => (∃ v, e = .returned v) ∧ W = W' := by
  refine callsIn_of_wp Try.func13 rfl trivial ?_ rfl
  simp only [Try.ntmps13, List.size_toArray, List.length_cons, List.length_nil, Nat.reduceAdd, Nat.reduceSub, Array.replicate_succ, Array.replicate_zero, List.push_toArray, List.append_toArray, List.nil_append, List.cons_append]
  refine wideScope ?_
  gi_wp2_with (first | (refine ⟨trivial, ?_⟩; gi_at_call 11; refine (callsIn_wide.2 (has_no _ _ _ _ hc h)).mono ?_; rintro e w' ⟨rfl, rfl⟩) | refine wideLabel ?_)
  rw [Exit.noGoto_ret]
  refine bodyPost_ret (results_none rfl _ _ _) rfl ?_
  exact ⟨⟨_, rfl⟩, rfl⟩

/-- What a core's row has open. -/
def rowOf (T : Nat → Int) (n : Int) (c : Int) : List (Nat × Int) := if 0 ≤ c ∧ c < n then opens T c.toNat 16 else []
theorem rowOf_length (T : Nat → Int) (n c : Int) : (rowOf T n c).length ≤ 16 := by
  unfold rowOf; split
  · exact opens_length _ _ _
  · simp

theorem iter_stops (Bt Bc b : Nat) (c : Int) (n : Int) (T : Nat → Int) (n₀ : Nat) (w : World) (hn : n ≤ 8) (hb : b < n₀) (hbt : Bt < w.heap.size) (hbc : Bc < w.heap.size) (hn₀ : n₀ ≤ w.heap.size)
    (hBt : w.cell? ⟨Bt, 0, none⟩ = some (.pointer (some ⟨b, 0, none⟩))) (hBc : w.cell? ⟨Bc, 0, none⟩ = some (.int .i64 c)) (hT : Tab w b T n) :
    SeqStopsK Fence.wide 6 Try.prog 13 #[.pointer (some ⟨Bt, 0, none⟩), .pointer (some ⟨Bc, 0, none⟩)] (fun x : Nat × Int => #[.agg #[.int .i64 x.1, .int .u32 x.2]]) (Below n₀) (fun ys => ys = rowOf T n c) (fun pre => pre <+: rowOf T n c) 16 w := by
  intro l J Jx W hW hJ _ hY h0
  have hBt' := (hW.cell (p := ⟨Bt, 0, none⟩) hbt).trans hBt
  have hBc' := (hW.cell (p := ⟨Bc, 0, none⟩) hbc).trans hBc
  have hT' := hT.below hW (by omega)
  by_cases h : 0 ≤ c ∧ c < n
  · have e : rowOf T n c = opens T c.toNat 16 := by unfold rowOf; rw [if_pos h]
    have ec : ((c.toNat : Nat) : Int) = c := by omega
    rw [e]
    rw [← ec] at hBc'
    exact iter_in l Bt Bc b c.toNat n T n₀ J Jx (by omega) hn hY W hBt' hBc' hT' fun nq => hJ [] W _ none h0 ⟨rfl, rfl, rfl, Nat.le_refl _, fun _ _ _ => rfl⟩ (fun r e => by cases e)
  · have e : rowOf T n c = [] := by unfold rowOf; rw [if_neg h]
    rw [e]
    exact (iter_no l Bt Bc b c n W h hBt' hBc' hT'.cores).mono fun e W' ⟨h1, h2⟩ => by subst h2; exact ⟨h1, .inl ⟨[], rfl, h0⟩⟩
end Go.Proofs.Ytggpjddomicekaa
