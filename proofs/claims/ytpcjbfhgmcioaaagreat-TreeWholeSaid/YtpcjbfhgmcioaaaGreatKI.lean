/- The keys of a map over uint32: the iterator; collected. -/
import Derived.Test.YtpcjbfhgmcioaaaGreatKH
import Derived.Test.YtpcjbfhgmcioaaaGreatRW
import Derived.Sort.MapsRangeIn
import Derived.RangeFuncNested
import Derived.RangeFuncBound
import Derived.RangeFuncLeaves
import Derived.RangeFuncBox
import Derived.RangeFuncFrom
import Derived.RangeFuncOne
import Derived.Maps.AppendAt
import Derived.Shelf.Abstract
import Derived.Shelf.RegionOpen
import Derived.OwnWalkIn
import Derived.TacticsInMore
import Derived.LoopNIn
import Derived.LoopIn
namespace Go.Proofs.YtpcjbfhgmcioaaaGreat
open Go.RowKit Go.Maps Go.Shelf

attribute [local go_sem] Oper.semAt_some

/-- The keys of a map, each once, in some order. -/
def KeysOf (m : Lit → Option Value) (ss : List Int) : Prop := ss.Nodup ∧ ∀ i, i ∈ ss ↔ (m (.int .u32 i)).isSome = true
/-- Those that have come. -/
def Coll (m : Lit → Option Value) (left : Lit → Bool) (ss : List Int) : Prop := ss.Nodup ∧ ∀ i, i ∈ ss ↔ ((m (.int .u32 i)).isSome = true ∧ left (.int .u32 i) = false)
theorem keyOf_u32 {key : Value} {kl : Lit} (h : keyOf Tryz.prog 23 key = some kl) : ∃ x : Int, key = .int .u32 x ∧ kl = .int .u32 x := by
  cases key <;> simp [keyOf, Tryz.underlying23, mapKey] at h
  rename_i q a
  obtain ⟨⟨rfl, _⟩, rfl⟩ := h
  exact ⟨a, rfl, rfl⟩
theorem Coll.step {m : Lit → Option Value} {left : Lit → Bool} {ss : List Int} {x : Int} (h : Coll m left ss) (hl : left (.int .u32 x) = true) (hx : (m (.int .u32 x)).isSome = true) :
    Coll m (fun z => left z && !z.sameKey (.int .u32 x)) (ss ++ [x]) := by
  refine ⟨?_, fun i => ?_⟩
  · rw [List.nodup_append]
    refine ⟨h.1, by simp, fun a ha b hb e => ?_⟩
    simp at hb
    subst hb
    subst e
    have := ((h.2 a).1 ha).2
    rw [hl] at this
    cases this
  · rw [List.mem_append, h.2]
    by_cases e : i = x
    · subst e
      simp [hx, Lit.sameKey]
    · simp [e, Lit.sameKey]
theorem Coll.done {m : Lit → Option Value} {left : Lit → Bool} {ss : List Int} (h : Coll m left ss) (hl : ∀ kl, left kl = false) : KeysOf m ss := ⟨h.1, fun i => by rw [h.2, hl]; simp⟩

set_option maxRecDepth 100000 in
set_option maxHeartbeats 2000000 in
theorem u_keys1 (l Bm b N : Nat) (m : Lit → Option Value) (J Jx : List Int → World → Prop)
    (hY : ∀ pre x W, J pre W → pre.length < N → YieldAt Fence.wide 5 Tryz.prog l #[.int .u32 x] W fun e W' =>
      (e = .returned (.bool true) ∧ J (pre ++ [x]) W' ∧ KeepsWalks W W') ∨ (e = .returned (.bool false) ∧ Jx (pre ++ [x]) W'))
    (W : World) (hJ : AbidesFrom W.heap.size J) (hm : W.cell? ⟨Bm, 0, none⟩ = some (.map (some b))) (hM : MapAt W Tryz.prog 23 b N m) (h0 : J [] W) :
    CallsIn Fence.wide 6 Tryz.prog 114 #[.func (.yield l) #[] #[], .pointer (some ⟨Bm, 0, none⟩)] W fun e W' => (∃ v, e = .returned v) ∧ ((∃ ss, (KeysOf m ss ∧ ss.length ≤ N) ∧ J ss W') ∨ (∃ pre, True ∧ Jx pre W')) := by
  obtain ⟨D, hown, hmD⟩ := hM
  have hsz := hown.size_le
  have hst := fun i => (ofD_has hown law32 (show WideAt.IsKeyLit (Lit.int .u32 i) from trivial)).trans (by rw [hmD (.int .u32 i) trivial])
  refine callsIn_of_wp Tryz.func114 rfl trivial ?_ rfl
  simp only [Tryz.ntmps114, List.size_toArray, List.length_cons, List.length_nil, Nat.reduceAdd, Nat.reduceSub, Array.replicate_succ, Array.replicate_zero, List.push_toArray, List.append_toArray, List.nil_append, List.cons_append]
  have HST := Lib.hid hst
  have HMD := Lib.hid hmD
  clear hst hmD
  gi_wp2_with (first
    | (gi_at_range; refine wpListIn_range_own _ rfl _ 66 rfl 23 69 law32 Tryz.underlying66 _ b N _ rfl hown ?_; intro w0 hrg0 hg0 hs0)
    | gi_in)
  go_frame
  gi_loopw [3] (fun _ wr => ∃ (left : Lit → Bool) (cnt : Nat) (ss : List Int), wr.ranges Tryz.prog 23 anyElem b W.heap.size N D left cnt ∧ ss.length + cnt ≤ N ∧ Hid (Coll m left ss) ∧ J ss wr)
    (fun _ wr => wr.rangeLeft b W.heap.size)
  case atStart =>
    exact ⟨_, _, [], hrg0, by simpa using hsz, ⟨List.nodup_nil, fun i => by rw [HST.out i]; cases (m (.int .u32 i)).isSome <;> simp⟩, hJ [] W w0 none h0 hg0 (fun r e => by cases e)⟩
  case round =>
    obtain ⟨left, cnt, ss, hrg, hcs, HC, hJs⟩ := hrel
    gi_wp2_with (first
      | (gi_at_next; refine wpListIn_next_ranges _ rfl _ rfl 23 law32 anyElem (fun x : Int => Value.int .u32 x) id (fun key kl hk => by obtain ⟨x, hx, _⟩ := keyOf_u32 hk; exact ⟨x, hx⟩) (fun v _ _ => ⟨v, rfl⟩) b W.heap.size N _ _ _ rfl hrg ?_ ?_)
      | gi_in)
    · intro hc0 hl0
      have HF := Lib.hid (HC.out.done hl0)
      clear hl0
      gi_wp2
      go_end0
      exact ⟨⟨_, rfl⟩, .inl ⟨ss, ⟨HF.out, by omega⟩, hJs⟩⟩
    · intro x c kl yd yp w2 cnt2 hkey hlk hv hat hrg2 hlt hg2 hs2 hen
      obtain ⟨x', ex, rfl⟩ := keyOf_u32 hkey
      obtain rfl : x = x' := by injection ex
      have hJ2 : J ss w2 := hJ ss wr w2 (some W.heap.size) hJs hg2 (fun r e => by cases e; exact ⟨Nat.le_refl _, hrg.iter_walk⟩)
      obtain ⟨fn, tmps, assign, body, hy, hR⟩ := hY ss x w2 hJ2 (by omega)
      have hsome : (m (.int .u32 x)).isSome = true := by
        rw [← HMD.out (.int .u32 x) trivial]
        unfold ofD
        rw [hat]
        cases hv
        rfl
      have HC2 := Lib.hid (HC.out.step hlk hsome)
      clear hs2 hsome hat
      gi_wp2
      refine hR.mono ?_
      rintro e W3 (⟨rfl, hJ3, hk3⟩ | ⟨rfl, hJx3⟩)
      · gi_wp2
        have hrg3 := hrg2.of_walks hk3
        go_roundw
        case rel => exact ⟨_, cnt2, ss ++ [x], hrg3, by simp; omega, HC2, hJ3⟩
        case measure => rw [hrg3.left_eq, hrg.left_eq]; exact hlt
      · gi_wp2
        refine bodyPost_ret (results_none rfl _ _ _) rfl ?_
        exact ⟨⟨_, rfl⟩, .inr ⟨_, trivial, hJx3⟩⟩

theorem keys_stops (Bm b N : Nat) (m : Lit → Option Value) (w : World) (hBm : Bm < w.heap.size) (hm : w.cell? ⟨Bm, 0, none⟩ = some (.map (some b))) (hM : MapAt w Tryz.prog 23 b N m) :
    SeqStopsK Fence.wide 6 Tryz.prog 114 #[.pointer (some ⟨Bm, 0, none⟩)] (fun x : Int => #[.int .u32 x]) KeepsWalks (fun ss => KeysOf m ss ∧ ss.length ≤ N) (fun _ => True) N w := by
  intro l J Jx W hW hJ _ hY h0
  exact u_keys1 l Bm b N m J Jx hY W hJ ((hW.cell (p := ⟨Bm, 0, none⟩) hBm).trans hm) (hM.below hW) h0
end Go.Proofs.YtpcjbfhgmcioaaaGreat
