/- The parts of picks, one by one. -/
import Derived.Test.YtmnombfgahmfkaaGreatDoorOC
import Derived.Test.YtmnombfgahmfkaaGreatDoorOT
import Derived.RangeFuncNested
import Derived.RangeFuncLeaves
import Derived.RangeFuncBox
import Derived.Shelf.Abstract
import Derived.Shelf.RegionOpen
import Derived.OwnWalkIn
import Derived.TacticsInMore
import Derived.LoopNIn
import Derived.LoopIn
import Derived.Maps.AppendAt
import Derived.Sort.BigQuietIn
import Derived.BigQuiet
import Derived.Deep.MidRow
namespace Go.Proofs.YtmnombfgahmfkaaGreatDoor
open Go.RowKit Go.Maps

attribute [local go_sem] Oper.semAt_some

theorem owideScope {n : Nat} {P : Program} {c : Code} {Q : Exit → Act → World → Prop} {a : Act} {w : World} (h : c.wpIn Fence.wide n P (Exit.noGoto Q) a w) : (Code.scope c).wpIn Fence.wide n P Q a w :=
  wpIn_wide.2 (wp_scope_straight (wpIn_wide.1 h))
theorem owideLabel {n : Nat} {P : Program} {l : Nat} {Q : Exit → Act → World → Prop} {a : Act} {w : World} (h : Q .normal a w) : (Code.label l).wpIn Fence.wide n P Q a w :=
  wpIn_wide.2 (wp_label h)
theorem t_parts (wd : Int) (A : Option Addr) (n c : Nat) (w : World) :
    CallsIn Fence.wide 9 Tryz.prog 12 #[.int .i64 wd, .slice A n c] w fun e w' => e = .returned (.func (.func 16) #[] #[.pointer (some ⟨w.heap.size + 1, 0, none⟩), .pointer (some ⟨w.heap.size, 0, none⟩)]) ∧ w' = (w.alloc (.cells #[.int .i64 wd] 3)).alloc (.cells #[.slice A n c] 22) := by
  refine callsIn_of_wp Tryz.func12 rfl trivial ?_ rfl
  simp only [Tryz.ntmps12, List.size_toArray, List.length_cons, List.length_nil, Nat.reduceAdd, Nat.reduceSub, Array.replicate_succ, Array.replicate_zero, List.push_toArray, List.append_toArray, List.nil_append, List.cons_append]
  gi_wp2
  go_ret
  exact ⟨rfl, rfl⟩
theorem oheap_set (w : World) (B : Nat) (v v0 : Value) (T : TypeId) (h : w.heap[B]? = some (.cells #[v0] T (0, 0))) : (w.setCell ⟨B, 0, none⟩ v).heap[B]? = some (.cells #[v] T (0, 0)) := by
  simp [World.setCell, Array.getElem?_modify, h]
/-- A part: a row of wd bytes of what came in. -/
abbrev PartV (w : World) (wd : Nat) : Type := { x : (Option Addr × Nat) × List Int // U8At w x.1.1 x.2 ∧ x.2.length = wd ∧ wd ≤ x.1.2 }
def argP {w : World} {wd : Nat} (x : PartV w wd) : Array Value := #[.slice x.1.1.1 wd x.1.1.2]
/-- What is left: l's bytes from a place on. -/
def LeftAt (w : World) (l : List Int) (k : Nat) (v : Value) : Prop := ∃ A c, v = .slice A (l.length - k) c ∧ U8At w A (l.drop k) ∧ l.length - k ≤ c
def boxS (w : World) (B : Nat) : Nat := match w.cell? ⟨B, 0, none⟩ with | some (.slice _ n _) => n | _ => 0
/-- What a round's body keeps. -/
def KpB (Bp Bw : Nat) (A C : World) : Prop := C.heap[Bp]? = A.heap[Bp]? ∧ C.heap[Bw]? = A.heap[Bw]?
theorem U8At.take {w : World} {A : Option Addr} {l : List Int} (h : U8At w A l) (k : Nat) : U8At w A (l.take k) := by
  refine ⟨fun v hv => h.1 v (List.mem_of_mem_take hv), fun hne => ?_⟩
  obtain ⟨b, o, h1, h2⟩ := h.2 (fun e => hne (by rw [e]; simp))
  refine ⟨b, o, h1, fun j v hj => h2 j v ?_⟩
  rw [List.getElem?_take] at hj
  split at hj
  · exact hj
  · cases hj
theorem oadd_flat {b o : Nat} (i : Nat) : (⟨b, o, none⟩ : Addr).add i = ⟨b, o + i, none⟩ := by unfold Addr.add; split <;> simp_all
theorem U8At.drop {w : World} {A : Option Addr} {l : List Int} (h : U8At w A l) (c k : Nat) (hc : k < l.length → c ≠ k) : U8At w (if c = k then A else A.map (fun x => x.add k)) (l.drop k) := by
  refine ⟨fun v hv => h.1 v (List.mem_of_mem_drop hv), fun hne => ?_⟩
  have hk : k < l.length := by
    by_cases hk : k < l.length
    · exact hk
    · exact absurd (List.drop_eq_nil_of_le (by omega)) hne
  obtain ⟨b, o, rfl, h2⟩ := h.2 (fun e => by rw [e] at hk; simp at hk)
  rw [if_neg (hc hk)]
  refine ⟨b, o + k, by rw [Option.map_some, oadd_flat], fun j v hj => ?_⟩
  rw [List.getElem?_drop] at hj
  have := h2 (k + j) v hj
  rw [Nat.add_assoc]
  exact this
set_option maxRecDepth 100000 in
set_option maxHeartbeats 1000000 in
theorem iterP (y Bp Bw wd : Nat) (w0 : World) (l : List Int) (J Jx : List (PartV w0 wd) → World → Prop) (hwd : 1 ≤ wd) (hwd2 : wd ≤ 1000) (hl : l.length ≤ 100000) (hBne : Bp ≠ Bw)
    (hJ : ∀ s A C, J s A → A.grownBy C (some Bp) → J s C)
    (hY : ∀ pre x W, J pre W → pre.length < 100001 → YieldAt Fence.wide 5 Tryz.prog y (argP x) W fun e W' =>
      (e = .returned (.bool true) ∧ J (pre ++ [x]) W' ∧ KpB Bp Bw W W') ∨ (e = .returned (.bool false) ∧ Jx (pre ++ [x]) W'))
    (W : World) (hbw : W.heap[Bw]? = some (.cells #[.int .i64 wd] 3 (0, 0))) (v : Value) (hbp : W.heap[Bp]? = some (.cells #[v] 22 (0, 0))) (hv : LeftAt w0 l 0 v) (h0 : J [] W) :
    CallsIn Fence.wide 6 Tryz.prog 16 #[.func (.yield y) #[] #[], .pointer (some ⟨Bp, 0, none⟩), .pointer (some ⟨Bw, 0, none⟩)] W fun e W' => (∃ v, e = .returned v) ∧
      ((∃ ys : List (PartV w0 wd), ys.map (fun x => x.1.2) = (List.range (l.length / wd)).map (partF wd l) ∧ J ys W') ∨ (∃ pre, Jx pre W')) := by
  refine callsIn_of_wp Tryz.func16 rfl trivial ?_ rfl
  simp only [Tryz.ntmps16, List.size_toArray, List.length_cons, List.length_nil, Nat.reduceAdd, Nat.reduceSub, Array.replicate_succ, Array.replicate_zero, List.push_toArray, List.append_toArray, List.nil_append, List.cons_append]
  gi_wp2
  gi_loopw [] (fun wr => ∃ (k : Nat) (ys : List (PartV w0 wd)) (v : Value), k * wd ≤ l.length ∧ ys.length = k ∧ ys.map (fun x => x.1.2) = (List.range k).map (partF wd l) ∧ J ys wr ∧ wr.heap[Bw]? = some (.cells #[.int .i64 wd] 3 (0, 0)) ∧ wr.heap[Bp]? = some (.cells #[v] 22 (0, 0)) ∧ LeftAt w0 l (k * wd) v) (fun wr => boxS wr Bp)
  case atStart => exact ⟨0, [], v, by omega, rfl, rfl, h0, hbw, hbp, by rw [Nat.zero_mul]; exact hv⟩
  case round =>
    obtain ⟨k, ys, v, hk, hyl, hys, hJk, hbw, hbp, A, c, rfl, hA, hc⟩ := hrel
    have cw : wr.cell? ⟨Bw, 0, none⟩ = some (.int .i64 wd) := by simp [World.cell?, hbw]
    have cp : wr.cell? ⟨Bp, 0, none⟩ = some (.slice A (l.length - k * wd) c) := by simp [World.cell?, hbp]
    have fp : wr.frozen? ⟨Bp, 0, none⟩ = false := by simp [World.frozen?, hbp]
    obtain ⟨m, hm⟩ : ∃ m, m = l.length - k * wd := ⟨_, rfl⟩
    rw [← hm] at cp hc hbp
    have HM := Lib.hid hm
    have hkk : k ≤ k * wd := Nat.le_mul_of_pos_right k hwd
    have hm2 : m ≤ 100000 := by omega
    have hmm : m + k * wd = l.length := by omega
    have HMM := Lib.hid hmm
    by_cases he : wd ≤ m
    · have hmi : (wd : Int) ≤ m := by omega
      have hci : (wd : Int) ≤ c := by omega
      obtain ⟨x, hx1, hx2⟩ : ∃ x : PartV w0 wd, x.1.1 = (A, c) ∧ x.1.2 = partF wd l k := ⟨⟨((A, c), (l.drop (k * wd)).take wd), hA.take wd, by rw [List.length_take, List.length_drop]; omega, by show wd ≤ c; omega⟩, rfl, rfl⟩
      obtain ⟨fn, tmps, assign, body, hy, hR⟩ := hY ys x wr hJk (by omega)
      have hax : argP x = #[.slice A wd c] := by unfold argP; rw [hx1]
      rw [hax] at hy
      clear hm hmm
      gi_wp2
      refine hR.mono ?_
      rintro e W3 (⟨rfl, hJ3, hk1, hk2⟩ | ⟨rfl, hJx3⟩)
      · have hbw3 := hk2.trans hbw
        have hbp3 := hk1.trans hbp
        have cw3 : W3.cell? ⟨Bw, 0, none⟩ = some (.int .i64 wd) := by simp [World.cell?, hbw3]
        have cp3 : W3.cell? ⟨Bp, 0, none⟩ = some (.slice A m c) := by simp [World.cell?, hbp3]
        have fp3 : W3.frozen? ⟨Bp, 0, none⟩ = false := by simp [World.frozen?, hbp3]
        clear hk1 hk2 hR hy
        gi_wp2
        have hkw : (k + 1) * wd = k * wd + wd := by rw [Nat.add_mul, Nat.one_mul]
        have hmm := HMM.out
        have hlen : l.length - (k + 1) * wd = m - wd := by omega
        have hleft : LeftAt w0 l ((k + 1) * wd) (.slice (if c = wd then A else A.map (fun x => x.add wd)) (m - wd) (c - wd)) := by
          refine ⟨_, _, by rw [hlen], ?_, by omega⟩
          rw [hkw, ← List.drop_drop]
          exact hA.drop c wd (fun h => by rw [List.length_drop] at h; omega)
        refine ⟨⟨k + 1, ys ++ [x], _, by omega, by simp [hyl], ?_, hJ _ _ _ hJ3 (grownBy_setCell' W3 Bp _), (Below.heap_setCell _ _ _ Bw (fun e => hBne e.symm)).trans hbw3, oheap_set W3 Bp _ _ _ hbp3, hleft⟩, ?_⟩
        · rw [List.map_append, hys, List.range_succ, List.map_append, List.map_singleton, List.map_singleton, hx2]
        · have h1 := oheap_set W3 Bp (.slice (if c = wd then A else A.map (fun x => x.add wd)) (m - wd) (c - wd)) _ _ hbp3
          unfold boxS
          rw [cp, show (W3.setCell ⟨Bp, 0, none⟩ (.slice (if c = wd then A else A.map (fun x => x.add wd)) (m - wd) (c - wd))).cell? ⟨Bp, 0, none⟩ = some (.slice (if c = wd then A else A.map (fun x => x.add wd)) (m - wd) (c - wd)) by simp [World.cell?, h1]]
          show m - wd < m
          omega
      · gi_wp2
        refine bodyPost_ret (results_none rfl _ _ _) rfl ?_
        exact ⟨⟨_, rfl⟩, .inr ⟨_, hJx3⟩⟩
    · have hmi : ¬ (wd : Int) ≤ m := by omega
      have hq : l.length / wd = k := by
        refine Nat.div_eq_of_lt_le ?_ ?_
        · omega
        · rw [Nat.add_mul, Nat.one_mul]; omega
      clear hm hmm
      gi_wp2
      go_end0
      exact ⟨⟨_, rfl⟩, .inl ⟨ys, hys, hJk⟩⟩
end Go.Proofs.YtmnombfgahmfkaaGreatDoor
