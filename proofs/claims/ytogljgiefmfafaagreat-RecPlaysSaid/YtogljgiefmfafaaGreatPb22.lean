/- A record in a block; what stays. -/
import Derived.Test.YtogljgiefmfafaaGreatPb02
import Derived.Test.YtogljgiefmfafaaGreatPb21
namespace Go.Proofs.YtogljgiefmfafaaGreat
section
open Go.RowKit Go.Maps
abbrev cellsR (r : R) : Array Value := #[.int .u64 r.stamp, .int .u8 r.act, .int .u32 r.dir, .string r.name, .int .u32 r.ino, .int .u8 r.kind, .int .u32 r.dir2, .string r.name2, .int .u32 r.old, .int .u32 r.size, .int .i64 r.page, .string r.data]
theorem lt_heap {W : World} {B : Nat} {o : Obj} (h : W.heap[B]? = some o) : B < W.heap.size := (Array.getElem?_eq_some_iff.1 h).1
theorem below_a1' (w : World) (a : Obj) : Below w.heap.size w (w.alloc a) := (Below.refl _ _).alloc (Nat.le_refl _) _
theorem rec_cell0 {w : World} {B : Nat} {r : R} (h : w.heap[B]? = some (.cells (cellsR r) 50 (0, 0))) (i : Nat) (v : Value) (hv : (cellsR r)[i]? = some v) : w.cell? ⟨B, i, none⟩ = some v := by
 simp only [World.cell?, h]; exact hv
def RelB (W W' : World) : Prop := Below W.heap.size W W'
theorem RelB.refl (W : World) : RelB W W := Below.refl _ _
theorem RelB.of {W W' : World} (h : Below W.heap.size W W') : RelB W W' := h
theorem RelB.trans {W W' W'' : World} (h : RelB W W') (g : RelB W' W'') : RelB W W'' := ptrans h g
theorem RelB.rec {W W' : World} {B : Nat} {o : Obj} (h : RelB W W') (ho : W.heap[B]? = some o) : W'.heap[B]? = some o := (Below.block h B (lt_heap ho)).trans ho
theorem below_drew (w : World) : Below w.heap.size w w.drew := ⟨rfl, rfl, rfl, Nat.le_refl _, fun _ _ => rfl⟩
theorem bare_of_check {r : R} (hr : r.Ok) (h : checkB r = true) : r.Bare := by
 have hsz : ∀ s : ByteArray, s.data.toList.length = s.size := fun s => (Lib.size_eq s).symm
 have hnil : ∀ s : ByteArray, s.size = 0 → s.data.toList = [] := fun s h => List.eq_nil_of_length_eq_zero (by rw [hsz]; exact h)
 unfold checkB fitB at h
 simp only [Bool.and_eq_true, Bool.or_eq_true, Bool.not_eq_true', decide_eq_true_eq, beq_iff_eq] at h
 obtain ⟨⟨⟨⟨⟨⟨⟨a1, a2⟩, a3⟩, h1⟩, h2⟩, h3⟩, h4⟩, h5⟩ := h
 have hp : ∀ s : ByteArray, pnameB s = true → s.size ≤ 27 := fun s hs => by
  unfold pnameB at hs
  simp only [Bool.and_eq_true, decide_eq_true_eq] at hs
  exact hs.1.1.1.2
 refine ⟨hr, ?_, ?_, ?_, ?_, ?_, ?_, ?_, ?_, ?_, ?_, ?_, ?_, ?_⟩
 · intro c; rcases h1 with ⟨e, _⟩ | ⟨_, e⟩
   · rw [c] at e; cases e
   · exact e.1
 · intro c; rcases h1 with ⟨e, _⟩ | ⟨_, e⟩
   · rw [c] at e; cases e
   · exact hnil _ e.2
 · rcases h1 with ⟨_, e⟩ | ⟨_, e⟩
   · rw [hsz]; have := hp _ e.2; omega
   · rw [hsz]; omega
 · intro c; rcases h2 with ⟨e, _⟩ | ⟨_, e⟩
   · rw [c] at e; cases e
   · exact e
 · intro c; rcases h3 with ⟨e, _⟩ | ⟨_, e⟩
   · rw [c] at e; cases e
   · exact e.1.1
 · intro c; rcases h3 with ⟨e, _⟩ | ⟨_, e⟩
   · rw [c] at e; cases e
   · exact hnil _ e.1.2
 · rcases h3 with ⟨_, e⟩ | ⟨_, e⟩
   · rw [hsz]; have := hp _ e.1.2; omega
   · rw [hsz]; omega
 · intro c; rcases h3 with ⟨e, _⟩ | ⟨_, e⟩
   · rw [c] at e; cases e
   · exact e.2
 · intro c; rcases h4 with ⟨e, _⟩ | ⟨_, e⟩
   · rw [c] at e; cases e
   · exact e
 · intro c; rcases h5 with ⟨e, _⟩ | ⟨_, e⟩
   · rw [c] at e; cases e
   · exact e.1
 · rcases h5 with ⟨_, e⟩ | ⟨_, e⟩
   · omega
   · omega
 · intro c; rcases h5 with ⟨e, _⟩ | ⟨_, e⟩
   · rw [c] at e; cases e
   · exact hnil _ e.2
 · intro c; rcases h5 with ⟨_, e⟩ | ⟨e, _⟩
   · rw [hsz]; exact e.2
   · rw [c] at e; cases e
end
end Go.Proofs.YtogljgiefmfafaaGreat
