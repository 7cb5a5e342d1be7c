/- Logs in memory. -/
import Derived.Test.YtehckjkihaalfaaGreatCK
import Derived.Test.YtehckjkihaalfaaGreatBU
namespace Go.Proofs.YtehckjkihaalfaaGreat
open Go.RowKit Go.Maps

/-- A log. -/
structure PLog where
  cores : Nat
  most : Nat
  rows : Nat → List R
  last : Nat → Int
def setF {α : Type} (f : Nat → α) (k : Nat) (v : α) : Nat → α := fun j => if j = k then v else f j
/-- In block P; vs: its rows as values. -/
structure LogAt (w : World) (P : Nat) (vs : Nat → Value) (x : PLog) : Prop where
  blk : ∃ cs, w.heap[P]? = some (.cells cs 84 (0, 0)) ∧ cs.size = 18 ∧ cs[0]? = some (.int .i64 (x.cores : Int)) ∧ cs[1]? = some (.int .i64 (x.most : Int)) ∧ ∀ k, k < 8 → cs[2 + k]? = some (vs k) ∧ cs[10 + k]? = some (.int .u64 (x.last k))
  own : ∀ k, k < 8 → w.ownsRow (P + 1) 34 12 (vs k) (x.rows k).length (flatR (x.rows k))
  sep : ∀ j k q, j < 8 → k < 8 → (vs j).ownBlock = some q → (vs k).ownBlock = some q → j = k
  ok : ∀ k, k < 8 → ∀ r ∈ x.rows k, RecOk r
  cores8 : 1 ≤ x.cores ∧ x.cores ≤ 8
  most256 : 1 ≤ x.most ∧ x.most ≤ 256
  len : ∀ k, k < 8 → (x.rows k).length ≤ 256
/-- Its blocks. -/
def Fl (P : Nat) (vs : Nat → Value) (b : Nat) : Prop := b = P ∨ ∃ k, k < 8 ∧ (vs k).ownBlock = some b
section
variable {w w' W2 : World} {P k : Nat} {vs : Nat → Value} {x : PLog}
theorem LogAt.lt (h : LogAt w P vs x) : P < w.heap.size := by obtain ⟨cs, h1, _⟩ := h.blk; exact lt_heap h1
theorem LogAt.c0 (h : LogAt w P vs x) : w.cell? ⟨P, 0, none⟩ = some (.int .i64 (x.cores : Int)) := by obtain ⟨cs, h1, _, h2, _⟩ := h.blk; simp only [World.cell?, h1]; exact h2
theorem LogAt.c1 (h : LogAt w P vs x) : w.cell? ⟨P, 1, none⟩ = some (.int .i64 (x.most : Int)) := by obtain ⟨cs, h1, _, _, h2, _⟩ := h.blk; simp only [World.cell?, h1]; exact h2
theorem LogAt.row (h : LogAt w P vs x) (hk : k < 8) : w.cell? ⟨P, 2 + k, none⟩ = some (vs k) := by obtain ⟨cs, h1, _, _, _, h2⟩ := h.blk; simp only [World.cell?, h1]; exact (h2 k hk).1
theorem LogAt.lst (h : LogAt w P vs x) (hk : k < 8) : w.cell? ⟨P, 10 + k, none⟩ = some (.int .u64 (x.last k)) := by obtain ⟨cs, h1, _, _, _, h2⟩ := h.blk; simp only [World.cell?, h1]; exact (h2 k hk).2
theorem LogAt.frozen (h : LogAt w P vs x) (j : Nat) : w.frozen? ⟨P, j, none⟩ = false := by obtain ⟨cs, h1, _⟩ := h.blk; simp [World.frozen?, h1]
theorem LogAt.slice (h : LogAt w P vs x) (hk : k < 8) : ∃ A c, vs k = .slice A (x.rows k).length c := row_slice (h.own k hk)
theorem LogAt.blkLt (h : LogAt w P vs x) (hk : k < 8) {q : Nat} (hq : (vs k).ownBlock = some q) : P < q ∧ q < w.heap.size := by have := (h.own k hk).lt q hq; exact ⟨by omega, this.2⟩
theorem own_block {base size n : Nat} {e : TypeId} {v : Value} {xs : List Value} (h : w.ownsRow base e size v n xs) (hb : ∀ q, v.ownBlock = some q → w'.heap[q]? = w.heap[q]?) : w'.ownsRow base e size v n xs := own_same h hb
theorem LogAt.same (h : LogAt w P vs x) (hs : ∀ b, Fl P vs b → w'.heap[b]? = w.heap[b]?) : LogAt w' P vs x := by
  obtain ⟨cs, h1, h2⟩ := h.blk
  exact ⟨⟨cs, (hs P (.inl rfl)).trans h1, h2⟩, fun k hk => own_block (h.own k hk) fun q hq => hs q (.inr ⟨k, hk, hq⟩), h.sep, h.ok, h.cores8, h.most256, h.len⟩
theorem LogAt.fl (h : LogAt w P vs x) {b : Nat} (hb : Fl P vs b) : P ≤ b ∧ b < w.heap.size := by
  rcases hb with rfl | ⟨k, hk, hq⟩
  · exact ⟨Nat.le_refl _, h.lt⟩
  · have := h.blkLt hk hq
    exact ⟨by omega, this.2⟩
theorem LogAt.below (h : LogAt w P vs x) (hb : Below w.heap.size w w') : LogAt w' P vs x := h.same fun b hf => hb.block b (h.fl hf).2
theorem setF_same {α : Type} (f : Nat → α) (k : Nat) (v : α) : setF f k v k = v := if_pos rfl
theorem setF_other {α : Type} (f : Nat → α) {k j : Nat} (v : α) (h : j ≠ k) : setF f k v j = f j := if_neg h
theorem heap_set_ne (W : World) (B j b : Nat) (v : Value) (h : b ≠ B) : (W.setCell ⟨B, j, none⟩ v).heap[b]? = W.heap[b]? := heap_setCell_other W ⟨B, j, none⟩ b v h
/-- A core's row is another one. -/
theorem LogAt.setRow (h : LogAt w P vs x) (hk : k < 8) (hg : w.grownBy W2 (vs k).ownBlock) (v' : Value) (l' : List R) (hown : W2.ownsRow (P + 1) 34 12 v' l'.length (flatR l')) (hnew : ∀ q, v'.ownBlock = some q → (vs k).ownBlock = some q ∨ w.heap.size ≤ q) (hok : ∀ r ∈ l', RecOk r) (hlen : l'.length ≤ 256) :
    LogAt (W2.setCell ⟨P, 2 + k, none⟩ v') P (setF vs k v') { x with rows := setF x.rows k l' } ∧ Turn w (W2.setCell ⟨P, 2 + k, none⟩ v') (Fl P vs) (Fl P (setF vs k v')) := by
  obtain ⟨cs, h1, h2, h3, h4, h5⟩ := h.blk
  have hP := h.lt
  have hPne : (vs k).ownBlock ≠ some P := fun e => by have := (h.blkLt hk e).1; omega
  have hW2 : W2.heap[P]? = some (.cells cs 84 (0, 0)) := (hg.block P hP (fun e => hPne e.symm)).trans h1
  have hold : ∀ j, j < 8 → j ≠ k → ∀ q, (vs j).ownBlock = some q → (W2.setCell ⟨P, 2 + k, none⟩ v').heap[q]? = w.heap[q]? := fun j hj hjk q hq => by
    have := h.blkLt hj hq
    rw [heap_set_ne _ _ _ _ _ (by omega)]
    exact hg.block q this.2 (fun e => hjk (h.sep j k q hj hk hq e.symm))
  refine ⟨⟨⟨cs.setIfInBounds (2 + k) v', ?_, by simpa using h2, ?_, ?_, fun j hj => ⟨?_, ?_⟩⟩, fun j hj => ?_, fun i j q hi hj e1 e2 => ?_, fun j hj => ?_, h.cores8, h.most256, fun j hj => ?_⟩, ?_⟩
  · exact pheap_set W2 P (2 + k) v' cs _ hW2
  · rw [Array.getElem?_setIfInBounds_ne (by omega)]; exact h3
  · rw [Array.getElem?_setIfInBounds_ne (by omega)]; exact h4
  · by_cases e : j = k
    · subst e
      rw [setF_same, Array.getElem?_setIfInBounds_self_of_lt (by omega)]
    · rw [setF_other _ _ e, Array.getElem?_setIfInBounds_ne (by omega)]
      exact (h5 j hj).1
  · rw [Array.getElem?_setIfInBounds_ne (by omega)]
    exact (h5 j hj).2
  · by_cases e : j = k
    · subst e
      show World.ownsRow _ _ _ _ (setF vs j v' j) (setF x.rows j l' j).length (flatR (setF x.rows j l' j))
      rw [setF_same, setF_same]
      exact own_block hown fun q hq => heap_set_ne _ _ _ _ _ (by have := (hown.lt q hq).1; omega)
    · show World.ownsRow _ _ _ _ (setF vs k v' j) (setF x.rows k l' j).length (flatR (setF x.rows k l' j))
      rw [setF_other _ _ e, setF_other _ _ e]
      exact own_block (h.own j hj) (hold j hj e)
  · by_cases ei : i = k <;> by_cases ej : j = k
    · rw [ei, ej]
    · subst ei
      rw [setF_same] at e1
      rw [setF_other _ _ ej] at e2
      rcases hnew q e1 with e3 | e3
      · exact h.sep i j q hi hj e3 e2
      · have := (h.blkLt hj e2).2
        omega
    · subst ej
      rw [setF_same] at e2
      rw [setF_other _ _ ei] at e1
      rcases hnew q e2 with e3 | e3
      · exact h.sep i j q hi hj e1 e3
      · have := (h.blkLt hi e1).2
        omega
    · rw [setF_other _ _ ei] at e1
      rw [setF_other _ _ ej] at e2
      exact h.sep i j q hi hj e1 e2
  · by_cases e : j = k
    · subst e
      show ∀ r ∈ setF x.rows j l' j, _
      rw [setF_same]
      exact hok
    · show ∀ r ∈ setF x.rows k l' j, _
      rw [setF_other _ _ e]
      exact h.ok j hj
  · by_cases e : j = k
    · subst e
      show (setF x.rows j l' j).length ≤ _
      rw [setF_same]
      exact hlen
    · show (setF x.rows k l' j).length ≤ _
      rw [setF_other _ _ e]
      exact h.len j hj
  · refine ⟨hg.os, hg.tape, hg.output, by simpa using hg.size, fun b hb hF => ?_, fun b hb => ?_⟩
    · rw [heap_set_ne _ _ _ _ _ (fun e => hF (.inl e))]
      exact hg.block b hb (fun e => hF (.inr ⟨k, hk, e.symm⟩))
    · rcases hb with rfl | ⟨j, hj, hq⟩
      · exact .inl (.inl rfl)
      · by_cases e : j = k
        · subst e
          rw [setF_same] at hq
          rcases hnew b hq with e3 | e3
          · exact .inl (.inr ⟨j, hj, e3⟩)
          · exact .inr e3
        · rw [setF_other _ _ e] at hq
          exact .inl (.inr ⟨j, hj, hq⟩)
/-- A core's last stamp is another one. -/
theorem LogAt.setLast (h : LogAt w P vs x) (hk : k < 8) (s : Int) :
    LogAt (w.setCell ⟨P, 10 + k, none⟩ (.int .u64 s)) P vs { x with last := setF x.last k s } ∧ Turn w (w.setCell ⟨P, 10 + k, none⟩ (.int .u64 s)) (Fl P vs) (Fl P vs) := by
  obtain ⟨cs, h1, h2, h3, h4, h5⟩ := h.blk
  refine ⟨⟨⟨cs.setIfInBounds (10 + k) (.int .u64 s), pheap_set w P (10 + k) _ cs _ h1, by simpa using h2, ?_, ?_, fun j hj => ⟨?_, ?_⟩⟩, fun j hj => ?_, h.sep, h.ok, h.cores8, h.most256, h.len⟩, Turn.of_grown (pgrown_set w P (10 + k) _) (.inl rfl)⟩
  · rw [Array.getElem?_setIfInBounds_ne (by omega)]; exact h3
  · rw [Array.getElem?_setIfInBounds_ne (by omega)]; exact h4
  · rw [Array.getElem?_setIfInBounds_ne (by omega)]; exact (h5 j hj).1
  · by_cases e : j = k
    · subst e
      show _ = some (Value.int .u64 (setF x.last j s j))
      rw [setF_same, Array.getElem?_setIfInBounds_self_of_lt (by omega)]
    · show _ = some (Value.int .u64 (setF x.last k s j))
      rw [setF_other _ _ e, Array.getElem?_setIfInBounds_ne (by omega)]
      exact (h5 j hj).2
  · exact own_block (h.own j hj) fun q hq => heap_set_ne _ _ _ _ _ (by have := (h.blkLt hj hq).1; omega)
end
set_option maxRecDepth 100000 in
set_option maxHeartbeats 4000000 in
theorem t_newLog (cores most : Nat) (h : 1 ≤ cores ∧ cores ≤ 8 ∧ 1 ≤ most ∧ most ≤ 256) (w : World) : Calls Tryz.prog 12 #[.int .i64 (cores : Int), .int .i64 (most : Int)] w fun e w' =>
    e = .returned (.tuple #[.pointer (some ⟨w.heap.size, 0, none⟩), .int .i64 0]) ∧ LogAt w' w.heap.size (fun _ => .slice none 0 0) ⟨cores, most, fun _ => [], fun _ => 0⟩ ∧ Below w.heap.size w w' := by
  obtain ⟨h1, h2, h3, h4⟩ := h
  go_enter Tryz.func12, Tryz.ntmps12
  go_wp2
  go_ret2
  refine ⟨rfl, ⟨⟨_, heap_alloc_new _ _, rfl, rfl, rfl, fun k hk => ?_⟩, fun k hk => World.ownsRow_nil _ _ _ _, (fun j k q _ _ e => by cases e), (fun k hk r hr => by cases hr), ⟨h1, h2⟩, ⟨h3, h4⟩, fun k hk => Nat.zero_le _⟩, below_a1' w _⟩
  have : k = 0 ∨ k = 1 ∨ k = 2 ∨ k = 3 ∨ k = 4 ∨ k = 5 ∨ k = 6 ∨ k = 7 := by omega
  rcases this with e | e | e | e | e | e | e | e <;> subst e <;> exact ⟨rfl, rfl⟩
set_option maxRecDepth 100000 in
set_option maxHeartbeats 4000000 in
theorem t_has (P : Nat) (k : Int) (cores : Int) (b : Bool) (hb : decide (0 ≤ k ∧ k < cores) = b) (w : World) (h : w.cell? ⟨P, 0, none⟩ = some (.int .i64 cores)) : Calls Tryz.prog 53 #[.pointer (some ⟨P, 0, none⟩), .int .i64 k] w fun e w' => e = .returned (.bool b) ∧ w = w' := by
  have HB := Lib.hid hb
  clear hb
  by_cases h0 : 0 ≤ k <;> by_cases h1 : k < cores
  all_goals
    go_enter Tryz.func53, Tryz.ntmps53
    go_wp2
    go_ret
    exact ⟨by rw [← HB.out]; simp [h0, h1], rfl⟩
end Go.Proofs.YtehckjkihaalfaaGreat
