/- Parts of a record, walked. -/
import Derived.Test.YtehckjkihaalfaaGreatBN
namespace Go.Proofs.YtehckjkihaalfaaGreat
open Go.RowKit Go.Maps

def partsL (r : R) : List Pt :=
  if checkB r = true then
    (if kEntry r.act = true then
      [⟨1, r.dir, r.name, true⟩] ++ (if (r.act == 4) = true then [⟨1, r.dir2, r.name2, true⟩] else []) ++ [⟨2, r.ino, ⟨#[]⟩, true⟩] ++ (if (r.old != 0) = true then [⟨2, r.old, ⟨#[]⟩, true⟩] else []) ++ (if (r.act == 4 && r.kind == 2) = true then [⟨3, 0, ⟨#[]⟩, true⟩] else []) ++ [⟨2, r.dir, ⟨#[]⟩, false⟩] ++ (if (r.act == 4) = true then [⟨2, r.dir2, ⟨#[]⟩, false⟩] else [])
    else [⟨2, r.ino, ⟨#[]⟩, true⟩])
  else []
structure StQ (w : World) (r : R) (Bo Bw : Nat) (p : Pt) (l : List Pt) (W : World) : Prop where
  rc : W.heap[w.heap.size]? = some (.cells (cellsR r) 34 (0, 0))
  own : W.heap[Bw]? = some (.cells #[.int .u8 p.kind, .int .u32 p.ino, .string p.name, .bool p.write] 142 (0, 0))
  out : ∃ v, W.heap[Bo]? = some (.cells #[v] 106 (0, 0)) ∧ W.ownsRow (Bw + 1) 142 4 v l.length (flatP l)
  below : Below w.heap.size w W
  lo : w.heap.size < Bo
  lw : Bo < Bw
  len : l.length ≤ 900
section
variable {w W W' : World} {r : R} {Bo Bw : Nat} {p : Pt} {l : List Pt}
theorem StQ.cr (h : StQ w r Bo Bw p l W) (i : Nat) (v : Value) (hv : (cellsR r)[i]? = some v) : W.cell? ⟨w.heap.size, i, none⟩ = some v := by simp only [World.cell?, h.rc]; exact hv
theorem StQ.cw (h : StQ w r Bo Bw p l W) (i : Nat) (v : Value) (hv : (#[.int .u8 p.kind, .int .u32 p.ino, .string p.name, .bool p.write] : Array Value)[i]? = some v) : W.cell? ⟨Bw, i, none⟩ = some v := by simp only [World.cell?, h.own]; exact hv
theorem StQ.out2 (h : StQ w r Bo Bw p l W) (n : Nat) (hn : l.length = n) : ∃ A c, W.heap[Bo]? = some (.cells #[.slice A n c] 106 (0, 0)) ∧ W.ownsRow (Bw + 1) 142 4 (.slice A n c) n (flatP l) := by
  subst hn
  obtain ⟨v, h1, h2⟩ := h.out
  obtain ⟨A, c, rfl⟩ := row_slice h2
  exact ⟨A, c, h1, h2⟩
theorem StQ.mono (h : StQ w r Bo Bw p l W) (hb : Below W.heap.size W W') : StQ w r Bo Bw p l W' := by
  obtain ⟨v, h1, h2⟩ := h.out
  have hg : W.grownBy W' none := ⟨hb.os, hb.tape, hb.output, hb.size, fun k hk _ => hb.block k hk⟩
  exact ⟨(hb.block _ (lt_heap h.rc)).trans h.rc, (hb.block _ (lt_heap h.own)).trans h.own, ⟨v, (hb.block _ (lt_heap h1)).trans h1, h2.kept hg (by cases hv : v.ownBlock with | none => exact .inl rfl | some x => exact .inr (by simp))⟩, h.below.trans (hb.mono h.below.size), h.lo, h.lw, h.len⟩
theorem StQ.put (h : StQ w r Bo Bw p l W) (x : Pt) (hl : l.length < 900) (h1 : ∃ v', W'.heap[Bo]? = some (.cells #[v'] 106 (0, 0)) ∧ W'.ownsRow (Bw + 1) 142 4 v' (l.length + 1) (flatP (l ++ [x]))) (h2 : RelO Bo (Bw + 1) W W') : StQ w r Bo Bw p (l ++ [x]) W' := by
  obtain ⟨v', h3, h4⟩ := h1
  have e1 := h.lo
  have e2 := h.lw
  refine ⟨(h2.old _ (by omega) (by omega)).trans h.rc, (h2.old _ (by omega) (by omega)).trans h.own, ⟨v', h3, by rw [List.length_append]; exact h4⟩, ?_, h.lo, h.lw, by rw [List.length_append]; simp; omega⟩
  exact ⟨h2.os.trans h.below.os, h2.tape.trans h.below.tape, h2.output.trans h.below.output, Nat.le_trans h.below.size h2.size, fun b hb => (h2.old b (by omega) (by omega)).trans (h.below.block b hb)⟩

theorem World.alloc_size' (W : World) (o : Obj) : (W.alloc o).heap.size = W.heap.size + 1 := by simp
theorem le_alloc {W : World} {B : Nat} {o : Obj} (h : B < W.heap.size) : B + 1 ≤ (W.alloc o).heap.size := by rw [World.alloc_size']; omega
theorem qp_write (h : StQ w r Bo Bw p l W) (hl : l.length < 900) (k i : Int) (n : ByteArray) (b : Bool) :
    Calls Tryz.prog 103 #[.slice (some ⟨W.heap.size, 0, none⟩) 1 1, .pointer (some ⟨Bo, 0, none⟩)] (W.alloc (.cells #[.int .u8 k, .int .u32 i, .string n, .bool b] 142)) fun e W' => e = .returned (.tuple #[]) ∧ StQ w r Bo Bw p (l ++ [⟨k, i, n, true⟩]) W' := by
  have h' := h.mono (below_a1' W (.cells #[.int .u8 k, .int .u32 i, .string n, .bool b] 142))
  obtain ⟨v, h1, h2⟩ := h'.out
  have hsz : (W.alloc (.cells #[.int .u8 k, .int .u32 i, .string n, .bool b] 142)).heap.size = W.heap.size + 1 := by simp
  have hw := lt_heap h.own
  refine (t_write ⟨k, i, n, b⟩ W.heap.size Bo (Bw + 1) v l _ (heap_alloc_new _ _) h1 (by have := h.lw; omega) (by rw [World.alloc_size']; omega) h2 (by omega)).mono ?_
  rintro e W' ⟨rfl, v', g1, g2, g3⟩
  exact ⟨rfl, h'.put _ hl ⟨v', g1, g2⟩ g3⟩
/-- out = append(out, x), behind the append. -/
theorem qp_append {w1 : World} {v : Value} {A1 : Option Addr} {c1 : Nat} (h : StQ w r Bo Bw p l W) (hl : l.length < 900) (x : Pt) {A : Obj} (n k : Nat) (hn : l.length = n) (hk : n + 1 = k) (hv : W.heap[Bo]? = some (.cells #[v] 106 (0, 0))) (hr : W.ownsRow (Bw + 1) 142 4 v n (flatP l))
    (h1 : w1.ownsRow (Bw + 1) 142 4 (.slice A1 k c1) k (flatP (l ++ [x]))) (h2 : (W.alloc A).grownBy w1 v.ownBlock) :
    w1.cell? ⟨Bo, 0, none⟩ = some v ∧ w1.frozen? ⟨Bo, 0, none⟩ = false ∧ w1.cell? ⟨w.heap.size, 1, none⟩ = some (.int .u8 r.act) ∧ w1.cell? ⟨w.heap.size, 6, none⟩ = some (.int .u32 r.dir2) ∧ ((w1.setCell ⟨Bo, 0, none⟩ (.slice A1 k c1)).heap[Bo]? = some (.cells #[.slice A1 k c1] 106 (0, 0)) ∧ (w1.setCell ⟨Bo, 0, none⟩ (.slice A1 k c1)).ownsRow (Bw + 1) 142 4 (.slice A1 k c1) k (flatP (l ++ [x]))) ∧ StQ w r Bo Bw p (l ++ [x]) (w1.setCell ⟨Bo, 0, none⟩ (.slice A1 k c1)) := by
  subst hk
  subst hn
  have e2 := h.lw
  have lB : Bo < W.heap.size := lt_heap hv
  have lW := lt_heap h.own
  have hown : ∀ b, b < Bw + 1 → some b ≠ v.ownBlock := fun b hb e => by have := (hr.lt b e.symm).1; omega
  have old : ∀ b, b < Bw + 1 → w1.heap[b]? = W.heap[b]? := fun b hb => by
    rw [h2.block b (by simp; omega) (hown b hb)]
    exact heap_alloc_old _ _ (by omega)
  have hh : w1.heap[Bo]? = some (.cells #[v] 106 (0, 0)) := (old Bo (by omega)).trans hv
  have hsz : W.heap.size ≤ w1.heap.size := by have := h2.size; simp at this; omega
  have hrc : w1.heap[w.heap.size]? = some (.cells (cellsR r) 34 (0, 0)) := (old _ (by have := h.lo; omega)).trans h.rc
  have hg := pgrown_set w1 Bo 0 (.slice A1 (l.length + 1) c1)
  have k1 : (w1.setCell ⟨Bo, 0, none⟩ (.slice A1 (l.length + 1) c1)).heap[Bo]? = some (.cells #[.slice A1 (l.length + 1) c1] 106 (0, 0)) := by rw [pheap_set _ Bo 0 _ _ _ hh]; rfl
  have k2 := h1.kept hg (by
    cases hvo : (Value.slice A1 (l.length + 1) c1).ownBlock with
    | none => exact .inl rfl
    | some x => exact .inr (fun e => by injection e with e; have := (h1.lt x hvo).1; omega))
  refine ⟨by simp only [World.cell?, hh]; rfl, by simp [World.frozen?, hh], by simp only [World.cell?, hrc]; rfl, by simp only [World.cell?, hrc]; rfl, ⟨k1, k2⟩, ?_⟩
  exact h.put x hl ⟨_, k1, k2⟩ ⟨hg.os.trans h2.os, hg.tape.trans h2.tape, hg.output.trans h2.output, Nat.le_trans hsz hg.size, fun b h3 h4 => (hg.block b (by omega) (fun e => h4 (by injection e))).trans (old b h3)⟩
theorem StQ.done (h : StQ w r Bo Bw p l W) {A : Option Addr} {c : Nat} (n : Nat) (hn : l.length = n) (hb : W.heap[Bo]? = some (.cells #[.slice A n c] 106 (0, 0))) (hr : W.ownsRow (Bw + 1) 142 4 (.slice A n c) n (flatP l)) :
    (W.setCell ⟨Bo, 0, none⟩ (.slice A n c)).cell? ⟨Bo, 0, none⟩ = some (.slice A n c) ∧ (W.setCell ⟨Bo, 0, none⟩ (.slice A n c)).ownsRow w.heap.size 142 4 (.slice A n c) n (flatP l) ∧ Below w.heap.size w (W.setCell ⟨Bo, 0, none⟩ (.slice A n c)) := by
  subst hn
  have hg := pgrown_set W Bo 0 (.slice A l.length c)
  have e1 := h.lo
  have e2 := h.lw
  refine ⟨?_, ?_, below_grown h.below hg (by omega)⟩
  · have := pheap_set W Bo 0 (.slice A l.length c) _ _ hb
    simp only [World.cell?, this]
    rfl
  · have h3 := hr.kept hg (by
      cases hvo : (Value.slice A l.length c).ownBlock with
      | none => exact .inl rfl
      | some x => exact .inr (fun e => by injection e with e; have := (hr.lt x hvo).1; omega))
    rcases h3 with ⟨h4, h5⟩
    refine ⟨h4, ?_⟩
    rcases h5 with h5 | ⟨g, cap, cur, a1, a2, a3⟩
    · exact .inl h5
    · exact .inr ⟨g, cap, cur, a1, by omega, a3⟩
end
theorem results_box {fn : Func} {p : Tmp} (h : fn.results = #[.cell p 106]) (tmps : Array Value) (w : World) (g : Nat) (v : Value)
    (hp : tmps.getD p undef = .pointer (some ⟨g, 0, none⟩)) (hc : w.cell? ⟨g, 0, none⟩ = some v) : (results fn tmps).run Tryz.prog w = .ok v w := by
  have hp' : tmps[p]?.getD undef = .pointer (some ⟨g, 0, none⟩) := by simpa using hp
  simp [results, h, hp', asAddr, loadVar, Tryz.isAgg106, run_load, hc]
end Go.Proofs.YtehckjkihaalfaaGreat
