/- Trees as the document has them: what is held no more, what is told, a new one. -/
import Derived.Test.YtnnidgjfjgkdpaaM4
import Derived.RangeFuncRecord
namespace Go.Proofs.Ytnnidgjfjgkdpaa
open Go.RowKit

/-- Drop's answer, and the tree behind it. -/
def dropT (t : Tr) (ino : Int) : Tr := setNd t ino { ndAt t ino with held := (ndAt t ino).held - 1 }
def dropR (t : Tr) (ino : Int) : Int × Tr :=
  if thereB t ino = false then (3, t) else if ((ndAt t ino).held == 0) = true then (3, t) else (0, freeT (dropT t ino) ino)
set_option maxRecDepth 100000 in
set_option maxHeartbeats 4000000 in
theorem t_drop (P G : Nat) (t : Tr) (ino : Int) (w : World) (h : TreeAt w P G t) (h0 : 0 ≤ ino) (hh : 0 ≤ (ndAt t ino).held ∧ (ndAt t ino).held ≤ 1000000) (r : Int) (t' : Tr) (hr : dropR t ino = (r, t')) :
    Calls Try.prog 33 #[.pointer (some ⟨P, 0, none⟩), .int .u32 ino] w fun e w' => e = .returned (.int .i64 r) ∧ TreeAt w' P G t' ∧ w.grownBy w' (some G) := by
  unfold dropR at hr
  cases ht : thereB t ino with
  | false =>
    rw [if_pos ht] at hr
    have HT := Lib.hid ht
    clear ht hh
    injection hr with e1 e2
    subst e1
    subst e2
    go_enter Try.func33, Try.ntmps33
    go_wp2_with (first | (go_at_call 40; (with_reducible refine (t_there P G t ino _ HT.out _ h h0).mono ?_); rintro e w' ⟨rfl, rfl⟩))
    go_ret
    exact ⟨ret_i64 rfl, h, grown_of_below (Below.refl _ _)⟩
  | true =>
    rw [if_neg (by rw [ht]; simp)] at hr
    obtain ⟨h1, h2, _⟩ := thereB_bounds ht
    have hs := h.small
    obtain ⟨c, hc1, hc2, hc⟩ := h.cell0
    obtain ⟨g0, ⟨v, g1, hv1⟩, g2, g3⟩ := h.get (h.idx h1 h2)
    obtain ⟨A1, c1, rfl, hcl, hcm, hread⟩ := hv1.get
    have HV := Lib.hid hv1
    unfold maxLen at hc2
    have qc := fun o => alloc_cell h.ltP hc o
    have q0 := fun o => alloc_cell h.ltG g0 o
    have q1 := fun o => alloc_cell h.ltG g1 o
    have q2 := fun o => alloc_cell h.ltG g2 o
    have q3 := fun o => alloc_cell h.ltG g3 o
    have f0 := fun o => alloc_frozen h.ltG (h.frozenG ((ino.toNat - 1) * 4)) o
    have f1 := fun o => alloc_frozen h.ltG (h.frozenG ((ino.toNat - 1) * 4 + 1)) o
    have f2 := fun o => alloc_frozen h.ltG (h.frozenG ((ino.toNat - 1) * 4 + 2)) o
    have f3 := fun o => alloc_frozen h.ltG (h.frozenG ((ino.toNat - 1) * 4 + 3)) o
    have hh' : 0 ≤ (nd t (ino.toNat - 1)).held ∧ (nd t (ino.toNat - 1)).held ≤ 1000000 := hh
    have hnd : ndAt t ino = nd t (ino.toNat - 1) := rfl
    rw [hnd] at hr
    clear hread hv1 hh hnd
    have HT := Lib.hid ht
    clear ht
    cases hz : ((nd t (ino.toNat - 1)).held == 0) with
    | true =>
      rw [if_pos hz] at hr
      clear HV
      injection hr with e1 e2
      subst e1
      subst e2
      go_enter Try.func33, Try.ntmps33
      go_wp2_with (first | (go_at_call 40; (with_reducible refine (t_there P G t ino _ HT.out _ h h0).mono ?_); rintro e w' ⟨rfl, rfl⟩))
      go_ret
      exact ⟨ret_i64 rfl, h, grown_of_below (Below.refl _ _)⟩
    | false =>
      rw [if_neg (by rw [hz]; simp)] at hr
      injection hr with e1 e2
      subst e1
      subst e2
      go_enter Try.func33, Try.ntmps33
      go_wp2_with (first | (go_at_call 40; (with_reducible refine (t_there P G t ino _ HT.out _ h h0).mono ?_); rintro e w' ⟨rfl, rfl⟩))
      go_region
      have HP := Lib.hid (put_done h h1 h2 (.cells #[.int .u8 (nd t (ino.toNat - 1)).kind, .slice A1 (nd t (ino.toNat - 1)).l.length c1, .string (nd t (ino.toNat - 1)).data, .int .i64 ((nd t (ino.toNat - 1)).held - 1)] 67) { ndAt t ino with held := (ndAt t ino).held - 1 } _ HV.out)
      go_wp2_with (first | (go_at_call 51; refine (t_free P G (dropT t ino) ino _ HP.out.1 h1 (by unfold dropT; rw [setNd_length]; exact h2)).mono ?_; rintro e w4 ⟨rfl, ht4, hg4⟩; have HT4 := Lib.hid ht4; have HG4 := Lib.hid (grown_trans HP.out.2 hg4); clear ht4 hg4))
      go_ret
      exact ⟨ret_i64 rfl, HT4.out, HG4.out⟩

/-- New's tree. -/
def newT (n : Nat) : Tr := setNd (List.replicate n noNd) 1 { noNd with kind := 2 }
def zNode : Array Value := #[.int .u8 0, .slice none 0 0, .string ByteArray.empty, .int .i64 0]
theorem infoN : ∃ i, Try.prog.info? 67 = some i ∧ i.zero = some (.agg zNode) ∧ i.size = 4 ∧ i.bytes ≤ 4096 := by
  have h : (Try.prog.info? 67).map (fun i => (i.zero, i.size, i.bytes ≤ 4096)) = some (some (.agg zNode), 4, True) := by
    have : (Try.prog.info? 67).map (fun i => (i.zero, i.size, decide (i.bytes ≤ 4096))) = some (some (.agg zNode), 4, true) := by kernel_rfl
    cases hi : Try.prog.info? 67 with
    | none => rw [hi] at this; cases this
    | some i =>
      rw [hi] at this
      simp only [Option.map_some, Option.some.injEq, Prod.mk.injEq, decide_eq_true_eq] at this ⊢
      exact ⟨this.1, this.2.1, eq_true this.2.2⟩
  cases hi : Try.prog.info? 67 with
  | none => rw [hi] at h; cases h
  | some i =>
    rw [hi] at h
    simp only [Option.map_some, Option.some.injEq, Prod.mk.injEq] at h
    exact ⟨i, rfl, h.1, h.2.1, of_eq_true h.2.2⟩
theorem zNode_get (n k j : Nat) (hk : k < n) (hj : j < 4) : (madeCells zNode (n * 4))[k * 4 + j]? = some (zNode[j]'hj) := by
  unfold madeCells
  rw [Array.getElem?_map, Array.getElem?_range, if_pos (by omega)]
  have : (k * 4 + j) % zNode.size = j := by show (k * 4 + j) % 4 = j; omega
  simp only [Option.map_some, this, Option.some.injEq]
  exact getElem!_pos zNode j hj
theorem below_putW (w : World) (G k : Nat) (x : Nd) (v : Value) : Below G w (putW w G k x v) :=
  ((((Below.refl G w).setCell (p := ⟨G, _, none⟩) (Nat.le_refl _) _).setCell (p := ⟨G, _, none⟩) (Nat.le_refl _) _).setCell (p := ⟨G, _, none⟩) (Nat.le_refl _) _).setCell (p := ⟨G, _, none⟩) (Nat.le_refl _) _
theorem new_tree (w : World) (n : Nat) (h1 : 1 ≤ n) (h2 : n ≤ 4096) :
    TreeAt ((w.alloc (.cells (madeCells zNode (n * 4)) 67)).alloc (.cells #[.slice (some ⟨w.heap.size, 0, none⟩) n n] 64)) (w.heap.size + 1) w.heap.size (List.replicate n noNd) := by
  refine ⟨⟨n, by simp, by unfold maxLen; omega, ?_⟩, ⟨_, (Below.heap_alloc _ _ _ (by simp)).trans (World.alloc_heap_new w _), by rw [size_madeCells]; simp, fun k x hk => ?_⟩, by simpa using h2⟩
  · have := World.alloc_heap_new (w.alloc (.cells (madeCells zNode (n * 4)) 67)) (.cells #[.slice (some ⟨w.heap.size, 0, none⟩) n n] 64)
    rw [World.size_alloc] at this
    simpa using this
  · rw [List.getElem?_replicate] at hk
    split at hk
    · rename_i hkn
      cases hk
      exact ⟨zNode_get n k 0 hkn (by omega), ⟨_, zNode_get n k 1 hkn (by omega), World.ownsRow_nil _ _ _ _⟩, zNode_get n k 2 hkn (by omega), zNode_get n k 3 hkn (by omega)⟩
    · cases hk
set_option maxRecDepth 100000 in
set_option maxHeartbeats 4000000 in
theorem t_new (n : Nat) (h1 : 1 ≤ n) (h2 : n ≤ 4096) (w : World) : Calls Try.prog 15 #[.int .i64 (n : Nat)] w fun e w' => ∃ P G, e = .returned (.pointer (some ⟨P, 0, none⟩)) ∧ TreeAt w' P G (newT n) ∧ Below w.heap.size w w' ∧ w.heap.size ≤ P ∧ w.heap.size ≤ G := by
  have hmk : ∀ W : World, (Instr.makeSlice 62 (.int .i64 (n : Nat)) (.int .i64 (n : Nat))).run Try.prog W = .ok (.slice (some ⟨W.heap.size, 0, none⟩) n n) (W.alloc (.cells (madeCells zNode (n * 4)) 67)) := fun W => by
    obtain ⟨i0, hi, hz0, hz1, hz2⟩ := infoN
    have hb : (i0.bytes : Int) * (n : Int) ≤ 281474976710656 := by
      have : i0.bytes * n ≤ 4096 * 4096 := Nat.mul_le_mul hz2 h2
      have h3 : ((i0.bytes * n : Nat) : Int) ≤ ((4096 * 4096 : Nat) : Int) := Int.ofNat_le.2 this
      rw [Int.natCast_mul] at h3
      omega
    have := run_make (P := Try.prog) W 62 67 i0 _ Try.underlying62 hi hz0 .i64 .i64 (n : Nat) (n : Nat) (by omega) (by omega) hb (by omega)
    rw [hz1] at this
    simpa [Value.cells] using this
  have HT := Lib.hid (new_tree w n h1 h2)
  have hl : 0 < (List.replicate n noNd).length := by simp; omega
  have k0 : (madeCells zNode (n * 4))[0]? = some (.int .u8 0) := zNode_get n 0 0 (by omega) (by omega)
  have k1 : (madeCells zNode (n * 4))[1]? = some (.slice none 0 0) := zNode_get n 0 1 (by omega) (by omega)
  have k2 : (madeCells zNode (n * 4))[2]? = some (.string ByteArray.empty) := zNode_get n 0 2 (by omega) (by omega)
  have k3 : (madeCells zNode (n * 4))[3]? = some (.int .i64 0) := zNode_get n 0 3 (by omega) (by omega)
  have hn0 : (0 : Int) < (n : Int) := by omega
  go_enter Try.func15, Try.ntmps15
  go_wp2
  go_ret
  have e : putW ((w.alloc (.cells (madeCells zNode (n * 4)) 67)).alloc (.cells #[.slice (some ⟨w.heap.size, 0, none⟩) n n] 64)) w.heap.size 0 { noNd with kind := 2 } (.slice none 0 0) =
      (w.alloc (.cells (((((madeCells zNode (n * 4)).setIfInBounds 0 (.int .u8 2)).setIfInBounds 1 (.slice none 0 0)).setIfInBounds 2 (.string ⟨#[]⟩)).setIfInBounds 3 (.int .i64 0)) 67)).alloc (.cells #[.slice (some ⟨w.heap.size, 0, none⟩) n n] 64) := by
    unfold putW
    simp [go_sem, noNd]
    rfl
  have h1 := HT.out.put hl { noNd with kind := 2 } (.slice none 0 0) (World.ownsRow_nil _ _ _ _)
  have h2 := (((Below.refl _ w).alloc (Nat.le_refl _) _).alloc (by simp) _).trans (below_putW ((w.alloc (.cells (madeCells zNode (n * 4)) 67)).alloc (.cells #[.slice (some ⟨w.heap.size, 0, none⟩) n n] 64)) w.heap.size 0 { noNd with kind := 2 } (.slice none 0 0))
  rw [e] at h1 h2
  exact ⟨_, w.heap.size, rfl, h1, h2, by omega, by omega⟩
end Go.Proofs.Ytnnidgjfjgkdpaa
