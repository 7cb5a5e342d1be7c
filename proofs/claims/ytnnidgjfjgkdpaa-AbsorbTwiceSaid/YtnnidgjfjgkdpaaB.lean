/- Same, keep, behind. -/
import Derived.Test.YtnnidgjfjgkdpaaA
import Derived.RangeFuncNested
import Derived.RangeFuncLeaves
import Derived.Shelf.Abstract
import Derived.Shelf.RegionOpen
import Derived.OwnWalkIn
import Derived.TacticsInMore
import Derived.LoopNIn
import Derived.LoopIn
import Derived.Maps.AppendAt
namespace Go.Proofs.Ytnnidgjfjgkdpaa
open Go.RowKit

theorem neq_self (r : R) (w : World) : (binOp .neq 31 r.val r.val).run Try.prog w = .ok (.bool false) w := by
  unfold R.val
  simp [go_sem]

theorem RecAt.load_n {w : World} {b o : Nat} {r : R} (h : RecAt w b o r) (k : Nat) : (Instr.loadAt 31 (.pointer (some ⟨b, o, none⟩))).run Try.prog (w.drewN k) = .ok r.val (w.drewN k) :=
  RecAt.load (w := w.drewN k) (h.of_same fun _ => rfl)

/-- A load of many cells, in a region whose operations only read. -/
theorem wpQuiet_load_mid {P : Program} {ops : Array Oper} {C : World → Prop} {Q : Act → Prop} {a : Act} {o : Oper} {rest : List Oper} (hgd : o.guard = none) (ty : TypeId) (x : Operand) (ho : o.op = .load ty x)
    (p : Value) (hx : a.eval x = p) (v : Value) (hrun : ∀ w, C w → (Instr.loadAt ty p).run P w = .ok v w)
    (h : wpQuiet P ops C Q rest (a.put o.dst v)) : wpQuiet P ops C Q (o :: rest) a := by
  unfold wpQuiet
  rw [if_pos (by simp [Region.wanted, hgd])]
  refine ⟨v, fun w hw => ?_, h⟩
  unfold Oper.quietAt execOp
  simp only [ho, hx, Sem.run_bind, Sem.run_pure, hrun w hw, Result.andThen_ok]
  exact ⟨rfl, rfl⟩

set_option maxHeartbeats 1000000 in
theorem same_any (A A' : Option Addr) (n c c' B : Nat) (rs : List R) (w : World) (h : Recs w B A n rs) (h' : Recs w B A' n rs) (hn : n ≤ maxLen) :
    Calls Try.prog 11 #[.slice A n c, .slice A' n c'] w fun e w' => e = .returned (.bool true) ∧ ∃ k, w.drewN k = w' := by
  unfold maxLen at hn
  go_enter Try.func11, Try.ntmps11
  go_wp2
  go_loopw [5] (fun i wr => ∃ k q : Nat, k ≤ n ∧ i = .int .i64 k ∧ w.drewN q = wr) (fun i _ => n - (intOf i).toNat)
  case atStart => exact ⟨0, 0, Nat.zero_le _, rfl, rfl⟩
  case round =>
    obtain ⟨k, q, hk, rfl, rfl⟩ := hrel
    by_cases he : k = n
    · subst he
      have hq1 : ∃ q', w.drewN q' = w.drewN q := ⟨q, rfl⟩
      have hq := Lib.hid hq1
      clear hq1
      go_wp2
      go_ret
      exact ⟨rfl, hq.out⟩
    · have hk1 : k < n := by omega
      obtain ⟨b, o, r, rfl, _, hr, hat, _⟩ := h.get hk1
      obtain ⟨b', o', r', rfl, _, hr', hat', _⟩ := h'.get hk1
      obtain rfl : r = r' := by rw [hr] at hr'; simpa using hr'
      clear hr hr'
      have hne := fun w => neq_self r w
      unfold R.val at hne
      obtain ⟨c0, c1, c2, c3, c4, c5, c6, c7, c8, c9, c10, c11⟩ := hat
      obtain ⟨d0, d1, d2, d3, d4, d5, d6, d7, d8, d9, d10, d11⟩ := hat'
      go_wp2
      go_quiet (fail)
      go_wp2
      go_roundw
      case rel => exact ⟨k + 1, _, by omega, by go_num, rfl⟩
      case measure => simp [intOf]; omega

theorem keep_any (v x : Value) (w : World) (r : R) (hx : x = r.val) : Calls Try.prog 36 #[v, x] w fun e w' => e = .returned (.bool true) ∧ Below w.heap.size w w' := by
  subst hx
  unfold R.val
  go_enter Try.func36, Try.ntmps36
  go_wp2
  go_ret
  exact ⟨rfl, (Below.refl _ _).alloc (Nat.le_refl _) _⟩
end Go.Proofs.Ytnnidgjfjgkdpaa
