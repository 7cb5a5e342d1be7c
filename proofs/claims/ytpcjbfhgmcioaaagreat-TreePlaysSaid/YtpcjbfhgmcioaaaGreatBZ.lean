/- Drawn regions: what only grows. (XB0, XBC have the same for the seats with records.) -/
import Derived.Test.YtpcjbfhgmcioaaaGreatBS
namespace Go.Proofs.YtpcjbfhgmcioaaaGreat
open Go.RowKit Go.Maps

def RelB (W W' : World) : Prop := Below W.heap.size W W'
theorem RelB.refl (W : World) : RelB W W := Below.refl _ _
theorem RelB.of {W W' : World} (h : Below W.heap.size W W') : RelB W W' := h
theorem RelB.trans {W W' W'' : World} (h : RelB W W') (g : RelB W' W'') : RelB W W'' := ptrans h g
theorem below_drew (w : World) : Below w.heap.size w w.drew := ⟨rfl, rfl, rfl, Nat.le_refl _, fun _ _ => rfl⟩
theorem stays_phiR {l : List Ph} {Rel : World → World → Prop} (h : ∀ p ∈ l, ∀ v W W', p v W → Rel W W' → p v W') (i : Nat) (v : Value) (W W' : World) (hp : phi l i v W) (hb : Rel W W') : phi l i v W' := by
  unfold phi at *
  rw [List.getD_eq_getElem?_getD] at *
  cases hi : l[i]? with
  | none => trivial
  | some p => rw [hi] at hp; exact h p (List.mem_of_getElem? hi) v W W' hp hb
end Go.Proofs.YtpcjbfhgmcioaaaGreat
