/- The library's functions at this program: Itoa, FormatInt, Join. -/
import Derived.Test.YtenddeglhjmhcaaDoorUB
import Derived.Test.YtenddeglhjmhcaaDoorLA
import Derived.Shelf.Strconv.Itoa4
import Derived.Shelf.Strings.OnBuilder
import Derived.Lib.AppendIntMem
namespace Go.Proofs.YtenddeglhjmhcaaDoor
open Go.RowKit

/-- The table of powers of ten stands. -/
def Tab (w : World) : Prop := Lib.TabIs Tryd.prog w "internal/strconv.uint64pow10" .u64 Lib.pow10Tab
theorem Tab.below {w W : World} (h : Tab w) (hb : Below w.heap.size w W) : Tab W := Lib.tabBelow_of_tabIs h W hb
theorem grow_bel (w : World) (k : Nat) (os : Array Obj) : Below w.heap.size w (Sort.grow (w.drewN k) os) := Lib.below_grow _ w (Nat.le_refl _) k os
theorem tail_len (sep : List UInt8) (hs : sep.length ≤ 8) (M : Nat) : ∀ (r : List (List UInt8)), (∀ x ∈ r, x.length ≤ M) → (Lib.joinTail sep r).length ≤ r.length * (M + 8)
  | [], _ => by simp [Lib.joinTail]
  | x :: r, h => by
    have h1 := tail_len sep hs M r fun y hy => h y (by simp [hy])
    have h2 := h x (by simp)
    have e : Lib.joinTail sep (x :: r) = (sep ++ x) ++ Lib.joinTail sep r := by simp [Lib.joinTail]
    rw [e, List.length_append, List.length_append, List.length_cons, Nat.succ_mul]
    omega
theorem join_len (sep : List UInt8) (hs : sep.length ≤ 8) (M : Nat) (l : List (List UInt8)) (h : ∀ x ∈ l, x.length ≤ M) : (Lib.join l sep).length ≤ l.length * (M + 8) := by
  cases l with
  | nil => simp [Lib.join_nil]
  | cons x r =>
    have h1 := tail_len sep hs M r fun y hy => h y (by simp [hy])
    have h2 := h x (by simp)
    rw [Lib.join_cons, List.length_append, List.length_cons, Nat.succ_mul]
    omega
theorem t_itoa (n : Int) (h : I64 n) (w : World) (hT : Tab w) : Calls Tryd.prog 17 #[.int .i64 n] w fun e w' => e = .returned (.string ⟨(Lib.itoa n).toArray⟩) ∧ Below w.heap.size w w' :=
  (Any.strconv_Itoa itoa n h.1 h.2 w hT).mono fun _ _ ⟨he, k, os, hw⟩ => ⟨he, hw ▸ grow_bel w k os⟩
theorem t_fmtInt (n : Int) (h : I64 n) (w : World) (hT : Tab w) : Calls Tryd.prog 27 #[.int .i64 n, .int .i64 10] w fun e w' => e = .returned (.string ⟨(Lib.itoa n).toArray⟩) ∧ Below w.heap.size w w' :=
  (Any.strconv_FormatInt_10 fmtI n h.1 h.2 w hT).mono fun _ _ ⟨he, k, os, hw⟩ => ⟨he, hw ▸ grow_bel w k os⟩
theorem bx : Builder.Extra Tryd.prog join_ren where
  sizeBuilder := by kernel_rfl
  liesBuilder := by kernel_rfl
  t5 := Tryd.underlying5
  a5 := Tryd.isAgg5
  z5 := Tryd.sizeOf5
  v5 := Tryd.zeroValue5
  infoByte := by kernel_rfl
  cellsByte := by kernel_rfl
  sizeByte := by kernel_rfl
  neB5 := by decide
/-- A text as a value. -/
def strV (l : List UInt8) : Value := .string ⟨l.toArray⟩
theorem t_join (A : Option Addr) (n c : Nat) (xs : List (List UInt8)) (sep : List UInt8) (w : World) (hr : VRead w A (xs.map strV)) (hn : xs.length = n) (hc : n ≤ c) (hN : n ≤ 1000) (hs : sep.length ≤ 8) (hx : ∀ x ∈ xs, x.length ≤ 100000) :
    Calls Tryd.prog 18 #[.slice A n c, .string ⟨sep.toArray⟩] w fun e w' => e = .returned (strV (Lib.join xs sep)) ∧ Below w.heap.size w w' := by
  subst hn
  by_cases h0 : xs = []
  · subst h0
    refine (Any.strings_Join_none join bx A c ⟨sep.toArray⟩ w).mono fun _ _ ⟨he, hw⟩ => ⟨?_, hw ▸ Below.refl _ _⟩
    rw [he]
    rfl
  · obtain ⟨b, o, rfl, hb, hcl⟩ := hr (by simpa using h0)
    have hlen : (Lib.join xs sep).length ≤ 140737488355328 := by
      have h1 := join_len sep hs 100000 xs hx
      have := Nat.mul_le_mul hN (Nat.le_refl (100000 + 8))
      omega
    have hm : (xs.map fun l : List UInt8 => (⟨l.toArray⟩ : ByteArray)).map (·.data.toList) = xs := by
      rw [List.map_map]
      exact (List.map_congr_left fun l _ => by simp).trans (List.map_id _)
    have h := Any.strings_Join join bx b o c (xs.map fun l => ⟨l.toArray⟩) ⟨sep.toArray⟩ w (fun j x hx => hcl j _ (by rw [List.getElem?_map] at hx ⊢; cases hq : xs[j]? with | none => rw [hq] at hx; cases hx | some y => rw [hq] at hx; cases hx; rfl)) hb (by simp; omega) (by simpa using hc) (by rw [hm]; exact hlen)
    rw [hm, List.length_map] at h
    exact h
end Go.Proofs.YtenddeglhjmhcaaDoor
