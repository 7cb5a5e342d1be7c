/- Trees as the document has them: an inode is set. -/
import Derived.Test.YtnnidgjfjgkdpaaW
namespace Go.Proofs.Ytnnidgjfjgkdpaa
open Go.RowKit

def setNd (t : Tr) (ino : Int) (x : Nd) : Tr := t.set (ino.toNat - 1) x

theorem TreeAt.ltP {w : World} {P G : Nat} {t : Tr} (h : TreeAt w P G t) : P < w.heap.size := by
  obtain ⟨c, _, _, h3⟩ := h.head; exact (Array.getElem?_eq_some_iff.1 h3).1
theorem TreeAt.ltG {w : World} {P G : Nat} {t : Tr} (h : TreeAt w P G t) : G < w.heap.size := by
  obtain ⟨c, h3, _⟩ := h.nodes; exact (Array.getElem?_eq_some_iff.1 h3).1
theorem TreeAt.frozenG {w : World} {P G : Nat} {t : Tr} (h : TreeAt w P G t) (j : Nat) : w.frozen? ⟨G, j, none⟩ = false := by
  obtain ⟨c, h3, _⟩ := h.nodes; simp [World.frozen?, h3]
theorem alloc_cell {w : World} {p : Addr} {v : Value} (hp : p.block < w.heap.size) (hc : w.cell? p = some v) (o : Obj) : (w.alloc o).cell? p = some v := (World.cell?_alloc_lt w o p hp).trans hc
theorem alloc_frozen {w : World} {p : Addr} {b : Bool} (hp : p.block < w.heap.size) (hc : w.frozen? p = b) (o : Obj) : (w.alloc o).frozen? p = b :=
  (World.frozen?_of_block (Below.heap_alloc w o p.block hp)).trans hc

/-- A row of entries stays where only the inodes' block turns. -/
theorem EntsAt.kept {w w' : World} {v : Value} {l : List Ent} {G : Nat} {cs : Array Value} (h : EntsAt w v l) (hG : w.heap[G]? = some (.cells cs 67 (0, 0))) (hg : w.grownBy w' (some G)) : EntsAt w' v l := by
  refine World.ownsRow.kept h hg ?_
  rcases h.2 with ⟨rfl, _⟩ | ⟨g, cap, cur, rfl, _, hh, _⟩
  · exact .inl rfl
  · refine .inr fun e => ?_
    have : g = G := by simpa [Value.ownBlock] using e
    subst this
    rw [hG] at hh
    injection hh with hh
    injection hh with _ ht
    exact absurd ht (by decide)
theorem EntsAt.below {w w' : World} {v : Value} {l : List Ent} (h : EntsAt w v l) (hb : Below w.heap.size w w') : EntsAt w' v l :=
  World.ownsRow.kept h (row := none) ⟨hb.os, hb.tape, hb.output, hb.size, fun i hi _ => hb.block i hi⟩ (by
    rcases h.2 with ⟨rfl, _⟩ | ⟨g, cap, cur, rfl, _⟩
    · exact .inl rfl
    · exact .inr (by simp [Value.ownBlock]))
theorem TreeAt.ne {w : World} {P G : Nat} {t : Tr} (h : TreeAt w P G t) : P ≠ G := by
  rintro rfl
  obtain ⟨c, _, _, h3⟩ := h.head
  obtain ⟨cs, h4, _⟩ := h.nodes
  rw [h3] at h4
  injection h4 with h4
  injection h4 with _ ht
  exact absurd ht (by decide)
theorem TreeAt.below {w w' : World} {P G : Nat} {t : Tr} (h : TreeAt w P G t) (hb : Below w.heap.size w w') : TreeAt w' P G t := by
  obtain ⟨c, a1, a2, a3⟩ := h.head
  obtain ⟨cs, b1, b2, b3⟩ := h.nodes
  exact ⟨⟨c, a1, a2, (hb.block P h.ltP).trans a3⟩, ⟨cs, (hb.block G h.ltG).trans b1, b2, fun k x hk => by
    obtain ⟨c0, ⟨v, c1, hv⟩, c2, c3⟩ := b3 k x hk
    exact ⟨c0, ⟨v, c1, hv.below hb⟩, c2, c3⟩⟩, h.small⟩
theorem TreeAt.drew {w : World} {P G : Nat} {t : Tr} (h : TreeAt w P G t) : TreeAt w.drew P G t := h.below ⟨rfl, rfl, rfl, Nat.le_refl _, fun _ _ => rfl⟩
theorem TreeAt.drewN {w : World} {P G : Nat} {t : Tr} (h : TreeAt w P G t) (k : Nat) : TreeAt (w.drewN k) P G t := h.below ⟨rfl, rfl, rfl, Nat.le_refl _, fun _ _ => rfl⟩
theorem TreeAt.alloc {w : World} {P G : Nat} {t : Tr} (h : TreeAt w P G t) (o : Obj) : TreeAt (w.alloc o) P G t := h.below ((Below.refl _ _).alloc (Nat.le_refl _) _)
theorem grown_set (w : World) (G j : Nat) (v : Value) : w.grownBy (w.setCell ⟨G, j, none⟩ v) (some G) :=
  ⟨rfl, rfl, rfl, by simp [World.setCell], fun i _ hne => Below.heap_setCell w ⟨G, j, none⟩ v i (fun e => hne (by rw [e]))⟩
theorem heap_set (w : World) (G j : Nat) (v : Value) (cs : Array Value) (t : TypeId) (h : w.heap[G]? = some (.cells cs t (0, 0))) : (w.setCell ⟨G, j, none⟩ v).heap[G]? = some (.cells (cs.setIfInBounds j v) t (0, 0)) := by
  simp [World.setCell, Array.getElem?_modify, h]
theorem grown_trans {a b c : World} {r : Option Nat} (h : a.grownBy b r) (k : b.grownBy c r) : a.grownBy c r :=
  ⟨k.os.trans h.os, k.tape.trans h.tape, k.output.trans h.output, Nat.le_trans h.size k.size, fun i hi hne => (k.block i (Nat.lt_of_lt_of_le hi h.size) hne).trans (h.block i hi hne)⟩
theorem grown_of_below {a b : World} {r : Option Nat} (h : Below a.heap.size a b) : a.grownBy b r := ⟨h.os, h.tape, h.output, h.size, fun i hi _ => h.block i hi⟩
theorem grown_drew' {a b : World} {r : Option Nat} (h : a.grownBy b r) : a.grownBy b.drew r := ⟨h.os, h.tape, h.output, h.size, h.block⟩

/-- An inode is stored whole. -/
def putW (w : World) (G k : Nat) (x : Nd) (v : Value) : World :=
  (((w.setCell ⟨G, k * 4, none⟩ (.int .u8 x.kind)).setCell ⟨G, k * 4 + 1, none⟩ v).setCell ⟨G, k * 4 + 2, none⟩ (.string x.data)).setCell ⟨G, k * 4 + 3, none⟩ (.int .i64 x.held)
theorem putW_grown (w : World) (G k : Nat) (x : Nd) (v : Value) : w.grownBy (putW w G k x v) (some G) :=
  grown_trans (grown_trans (grown_trans (grown_set _ _ _ _) (grown_set _ _ _ _)) (grown_set _ _ _ _)) (grown_set _ _ _ _)
theorem TreeAt.put {w : World} {P G : Nat} {t : Tr} (h : TreeAt w P G t) {k : Nat} (hk : k < t.length) (x : Nd) (v : Value) (hv : EntsAt w v x.l) : TreeAt (putW w G k x v) P G (t.set k x) := by
  obtain ⟨c, a1, a2, a3⟩ := h.head
  obtain ⟨cs, b1, b2, b3⟩ := h.nodes
  have hg := putW_grown w G k x v
  refine ⟨⟨c, by simpa using a1, a2, ?_⟩, ⟨(((cs.setIfInBounds (k * 4) (.int .u8 x.kind)).setIfInBounds (k * 4 + 1) v).setIfInBounds (k * 4 + 2) (.string x.data)).setIfInBounds (k * 4 + 3) (.int .i64 x.held), ?_, by simpa using b2, fun j y hj => ?_⟩, by simpa using h.small⟩
  · rw [List.length_set]; exact (hg.block P h.ltP (fun e => h.ne (by injection e))).trans a3
  · exact heap_set _ _ _ _ _ _ (heap_set _ _ _ _ _ _ (heap_set _ _ _ _ _ _ (heap_set _ _ _ _ _ _ b1)))
  · have hsz : k * 4 + 3 < cs.size := by omega
    have hjl : j < t.length := by have := (List.getElem?_eq_some_iff.1 hj).1; simpa using this
    by_cases hjk : j = k
    · subst hjk
      rw [List.getElem?_set_self hk] at hj
      cases hj
      refine ⟨?_, ⟨v, ?_, hv.kept b1 hg⟩, ?_, ?_⟩
      · simp [Array.getElem?_setIfInBounds]; omega
      · simp [Array.getElem?_setIfInBounds]; omega
      · simp [Array.getElem?_setIfInBounds]; omega
      · simp [Array.getElem?_setIfInBounds]; omega
    · rw [List.getElem?_set_ne (fun e => hjk e.symm)] at hj
      obtain ⟨c0, ⟨u, c1, hu⟩, c2, c3⟩ := b3 j y hj
      have far : ∀ i, i < 4 → ((((cs.setIfInBounds (k * 4) (.int .u8 x.kind)).setIfInBounds (k * 4 + 1) v).setIfInBounds (k * 4 + 2) (.string x.data)).setIfInBounds (k * 4 + 3) (.int .i64 x.held))[j * 4 + i]? = cs[j * 4 + i]? := fun i hi => by
        rw [Array.getElem?_setIfInBounds_ne (by omega), Array.getElem?_setIfInBounds_ne (by omega), Array.getElem?_setIfInBounds_ne (by omega), Array.getElem?_setIfInBounds_ne (by omega)]
      exact ⟨(far 0 (by omega)).trans c0, ⟨u, (far 1 (by omega)).trans c1, hu.kept b1 hg⟩, (far 2 (by omega)).trans c2, (far 3 (by omega)).trans c3⟩

set_option maxRecDepth 100000 in
set_option maxHeartbeats 2000000 in
theorem t_set (P G : Nat) (t : Tr) (ino : Int) (A : Option Addr) (n c' : Nat) (l : List Ent) (w : World) (h : TreeAt w P G t) (hv : EntsAt w (.slice A n c') l) (h1 : 1 ≤ ino) (h2 : ino ≤ t.length) :
    Calls Try.prog 52 #[.pointer (some ⟨P, 0, none⟩), .int .u32 ino, .slice A n c'] w fun e w' => e = .returned (.tuple #[]) ∧ TreeAt w' P G (setNd t ino { ndAt t ino with l := l }) ∧ w.grownBy w' (some G) := by
  have hs := h.small
  obtain ⟨c, hc1, hc2, hc⟩ := h.cell0
  obtain ⟨g0, ⟨v, g1, hv1⟩, g2, g3⟩ := h.get (h.idx h1 h2)
  obtain ⟨A1, c1, rfl, hcl, hcm, hread⟩ := hv1.get
  unfold maxLen at hc2
  have qc := fun o => alloc_cell h.ltP hc o
  have q0 := fun o => alloc_cell h.ltG g0 o
  have q1 := fun o => alloc_cell h.ltG g1 o
  have q2 := fun o => alloc_cell h.ltG g2 o
  have q3 := fun o => alloc_cell h.ltG g3 o
  have f0 := fun o => alloc_frozen h.ltG (h.frozenG ((ino.toNat - 1) * 4)) o
  have f1 := fun o => alloc_frozen h.ltG (h.frozenG ((ino.toNat - 1) * 4 + 1)) o
  have f2 := fun o => alloc_frozen h.ltG (h.frozenG ((ino.toNat - 1) * 4 + 2)) o
  have f3 := fun o => alloc_frozen h.ltG (h.frozenG ((ino.toNat - 1) * 4 + 3)) o
  clear hread hv1
  go_enter Try.func52, Try.ntmps52
  go_wp2
  go_region
  go_end0
  refine ⟨rfl, ?_, ?_⟩
  · exact ((h.alloc _).put (h.idx h1 h2) { ndAt t ino with l := l } _ (hv.below ((Below.refl _ _).alloc (Nat.le_refl _) _))).drew
  · exact grown_drew' (grown_trans (grown_of_below ((Below.refl _ _).alloc (Nat.le_refl _) _)) (putW_grown _ G _ { ndAt t ino with l := l } _))

/-- What the walks of one inode's store need. -/
theorem put_done {w : World} {P G : Nat} {t : Tr} {ino : Int} (h : TreeAt w P G t) (h1 : 1 ≤ ino) (h2 : ino ≤ t.length) (o : Obj) (x : Nd) (v : Value) (hv : EntsAt w v x.l) :
    TreeAt (putW (w.alloc o) G (ino.toNat - 1) x v).drew P G (setNd t ino x) ∧ w.grownBy (putW (w.alloc o) G (ino.toNat - 1) x v).drew (some G) :=
  ⟨((h.alloc _).put (h.idx h1 h2) x _ (hv.below ((Below.refl _ _).alloc (Nat.le_refl _) _))).drew,
   grown_drew' (grown_trans (grown_of_below ((Below.refl _ _).alloc (Nat.le_refl _) _)) (putW_grown _ G _ x _))⟩

set_option maxRecDepth 100000 in
set_option maxHeartbeats 2000000 in
theorem t_put (P G : Nat) (t : Tr) (ino : Int) (s : ByteArray) (w : World) (h : TreeAt w P G t) (h1 : 1 ≤ ino) (h2 : ino ≤ t.length) :
    Calls Try.prog 49 #[.pointer (some ⟨P, 0, none⟩), .int .u32 ino, .string s] w fun e w' => e = .returned (.tuple #[]) ∧ TreeAt w' P G (setNd t ino { ndAt t ino with data := s }) ∧ w.grownBy w' (some G) := by
  have hs := h.small
  obtain ⟨c, hc1, hc2, hc⟩ := h.cell0
  obtain ⟨g0, ⟨v, g1, hv1⟩, g2, g3⟩ := h.get (h.idx h1 h2)
  obtain ⟨A1, c1, rfl, hcl, hcm, hread⟩ := hv1.get
  have HV := Lib.hid hv1
  unfold maxLen at hc2
  have qc := fun o => alloc_cell h.ltP hc o
  have q0 := fun o => alloc_cell h.ltG g0 o
  have q1 := fun o => alloc_cell h.ltG g1 o
  have q2 := fun o => alloc_cell h.ltG g2 o
  have q3 := fun o => alloc_cell h.ltG g3 o
  have f0 := fun o => alloc_frozen h.ltG (h.frozenG ((ino.toNat - 1) * 4)) o
  have f1 := fun o => alloc_frozen h.ltG (h.frozenG ((ino.toNat - 1) * 4 + 1)) o
  have f2 := fun o => alloc_frozen h.ltG (h.frozenG ((ino.toNat - 1) * 4 + 2)) o
  have f3 := fun o => alloc_frozen h.ltG (h.frozenG ((ino.toNat - 1) * 4 + 3)) o
  clear hread hv1
  go_enter Try.func49, Try.ntmps49
  go_wp2
  go_region
  go_end0
  exact ⟨rfl, put_done h h1 h2 _ { ndAt t ino with data := s } _ HV.out⟩

set_option maxRecDepth 100000 in
set_option maxHeartbeats 2000000 in
theorem t_hold_ok (P G : Nat) (t : Tr) (ino : Int) (w : World) (h : TreeAt w P G t) (h0 : 0 ≤ ino) (hf : fileE t ino = 0) (hh : 0 ≤ (ndAt t ino).held ∧ (ndAt t ino).held ≤ 1000000) :
    Calls Try.prog 26 #[.pointer (some ⟨P, 0, none⟩), .int .u32 ino] w fun e w' => e = .returned (.int .i64 0) ∧ TreeAt w' P G (setNd t ino { ndAt t ino with held := (ndAt t ino).held + 1 }) ∧ w.grownBy w' (some G) := by
  obtain ⟨h1, h2, _⟩ := thereB_bounds (fileE_zero hf).1
  have HF := Lib.hid hf
  clear hf
  have hs := h.small
  obtain ⟨c, hc1, hc2, hc⟩ := h.cell0
  obtain ⟨g0, ⟨v, g1, hv1⟩, g2, g3⟩ := h.get (h.idx h1 h2)
  obtain ⟨A1, c1, rfl, hcl, hcm, hread⟩ := hv1.get
  have HV := Lib.hid hv1
  unfold maxLen at hc2
  have qc := fun o => alloc_cell h.ltP hc o
  have q0 := fun o => alloc_cell h.ltG g0 o
  have q1 := fun o => alloc_cell h.ltG g1 o
  have q2 := fun o => alloc_cell h.ltG g2 o
  have q3 := fun o => alloc_cell h.ltG g3 o
  have f0 := fun o => alloc_frozen h.ltG (h.frozenG ((ino.toNat - 1) * 4)) o
  have f1 := fun o => alloc_frozen h.ltG (h.frozenG ((ino.toNat - 1) * 4 + 1)) o
  have f2 := fun o => alloc_frozen h.ltG (h.frozenG ((ino.toNat - 1) * 4 + 2)) o
  have f3 := fun o => alloc_frozen h.ltG (h.frozenG ((ino.toNat - 1) * 4 + 3)) o
  have hh' : 0 ≤ (nd t (ino.toNat - 1)).held ∧ (nd t (ino.toNat - 1)).held ≤ 1000000 := hh
  clear hread hv1 hh
  go_enter Try.func26, Try.ntmps26
  go_wp2_with (first | (go_at_call 42; refine (t_file P G t ino _ HF.out _ h h0).mono ?_; rintro e w' ⟨rfl, rfl⟩))
  go_region
  go_wp2
  go_ret
  exact ⟨rfl, put_done h h1 h2 _ { ndAt t ino with held := (ndAt t ino).held + 1 } _ HV.out⟩
theorem t_hold_no (P G : Nat) (t : Tr) (ino r : Int) (w : World) (h : TreeAt w P G t) (h0 : 0 ≤ ino) (hf : fileE t ino = r) (hr : (r != 0) = true) :
    Calls Try.prog 26 #[.pointer (some ⟨P, 0, none⟩), .int .u32 ino] w fun e w' => e = .returned (.int .i64 r) ∧ w = w' := by
  have HF := Lib.hid hf
  clear hf
  go_enter Try.func26, Try.ntmps26
  go_wp2_with (first | (go_at_call 42; refine (t_file P G t ino _ HF.out _ h h0).mono ?_; rintro e w' ⟨rfl, rfl⟩))
  go_ret
  exact ⟨rfl, rfl⟩

/-- An inode is gone, if it must be. -/
def freeT (t : Tr) (ino : Int) : Tr := if ino ≠ 1 ∧ namedB t ino = false ∧ (ndAt t ino).held = 0 then setNd t ino noNd else t
set_option maxRecDepth 100000 in
set_option maxHeartbeats 4000000 in
theorem t_free (P G : Nat) (t : Tr) (ino : Int) (w : World) (h : TreeAt w P G t) (h1 : 1 ≤ ino) (h2 : ino ≤ t.length) :
    Calls Try.prog 51 #[.pointer (some ⟨P, 0, none⟩), .int .u32 ino] w fun e w' => e = .returned (.tuple #[]) ∧ TreeAt w' P G (freeT t ino) ∧ w.grownBy w' (some G) := by
  have hs := h.small
  obtain ⟨c, hc1, hc2, hc⟩ := h.cell0
  obtain ⟨g0, ⟨v, g1, hv1⟩, g2, g3⟩ := h.get (h.idx h1 h2)
  obtain ⟨A1, c1, rfl, hcl, hcm, hread⟩ := hv1.get
  have hd : ndAt t ino = nd t (ino.toNat - 1) := rfl
  unfold maxLen at hc2
  cases hi : (ino != 1) with
  | false =>
    have HF : Hid (freeT t ino = t) := by show _ = _; unfold freeT; rw [if_neg (fun hh => hh.1 (by simpa using hi))]
    clear hread hv1 hd
    go_enter Try.func51, Try.ntmps51
    go_wp2_with fail
    go_end0
    exact ⟨rfl, by rw [HF.out]; exact h, grown_of_below (Below.refl _ _)⟩
  | true =>
    cases hn : namedB t ino with
    | true =>
      have HF : Hid (freeT t ino = t) := by show _ = _; unfold freeT; rw [if_neg (fun hh => by rw [hn] at hh; cases hh.2.1)]
      have HN := Lib.hid hn
      clear hread hv1 hn hd
      go_enter Try.func51, Try.ntmps51
      go_wp2_with (first | (go_at_call 55; refine (t_named P G t ino _ HN.out _ h).mono ?_; rintro e w' ⟨rfl, rfl⟩))
      go_end0
      exact ⟨rfl, by rw [HF.out]; exact h, grown_of_below (Below.refl _ _)⟩
    | false =>
      cases hh : ((nd t (ino.toNat - 1)).held == 0) with
      | false =>
        have HF : Hid (freeT t ino = t) := by show _ = _; unfold freeT; rw [if_neg (fun q => by rw [hd] at q; simp [q.2.2] at hh)]
        have HN := Lib.hid hn
        clear hread hv1 hn hd
        go_enter Try.func51, Try.ntmps51
        go_wp2_with (first | (go_at_call 55; refine (t_named P G t ino _ HN.out _ h).mono ?_; rintro e w' ⟨rfl, rfl⟩))
        go_end0
        exact ⟨rfl, by rw [HF.out]; exact h, grown_of_below (Below.refl _ _)⟩
      | true =>
        have HF : Hid (freeT t ino = setNd t ino noNd) := by show _ = _; unfold freeT; rw [if_pos ⟨by simpa using hi, hn, by rw [hd]; simpa using hh⟩]
        have HN := Lib.hid hn
        have f0 := h.frozenG ((ino.toNat - 1) * 4)
        have f1 := h.frozenG ((ino.toNat - 1) * 4 + 1)
        have f2 := h.frozenG ((ino.toNat - 1) * 4 + 2)
        have f3 := h.frozenG ((ino.toNat - 1) * 4 + 3)
        clear hread hv1 hn hd
        go_enter Try.func51, Try.ntmps51
        go_wp2_with (first | (go_at_call 55; refine (t_named P G t ino _ HN.out _ h).mono ?_; rintro e w' ⟨rfl, rfl⟩))
        go_end0
        refine ⟨rfl, ?_, ?_⟩
        · rw [HF.out]
          exact h.put (h.idx h1 h2) noNd (.slice none 0 0) (World.ownsRow_nil _ _ _ _)
        · exact putW_grown w G _ noNd (.slice none 0 0)
end Go.Proofs.Ytnnidgjfjgkdpaa
