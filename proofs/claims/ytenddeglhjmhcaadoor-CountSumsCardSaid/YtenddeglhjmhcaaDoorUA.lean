/- CountSums, plain: tallies as rows of 22 numbers, added and taken away; their lines. -/
import Derived.Test.YtenddeglhjmhcaaDoorProg
import Derived.WalkKit
import Derived.Lib.Join
import Derived.Lib.ItoaNum
namespace Go.Proofs.YtenddeglhjmhcaaDoor
open Go.RowKit

def I64 (c : Int) : Prop := -9223372036854775808 ≤ c ∧ c ≤ 9223372036854775807
theorem wrap_i64 (n : Int) : I64 (wrap64 n) := by unfold wrap64 I64; omega
theorem wrap_id {n : Int} (h : I64 n) : wrap64 n = n := by unfold I64 at h; unfold wrap64; omega
/-- A tally: its numbers, in order. -/
def Tal (t : List Int) : Prop := t.length = 22 ∧ ∀ x ∈ t, I64 x
def addT (a b : List Int) : List Int := List.zipWith (fun x y => wrap64 (x + y)) a b
def subT (a b : List Int) : List Int := List.zipWith (fun x y => wrap64 (x - y)) a b
def zT : List Int := List.replicate 22 0
def sumT (l : List (List Int)) : List Int := l.foldl addT zT
theorem zip_all {f : Int → Int → Int} (hf : ∀ x y, I64 (f x y)) : ∀ (a b : List Int), ∀ x ∈ List.zipWith f a b, I64 x
  | [], _, x, h => by simp at h
  | _ :: _, [], x, h => by simp at h
  | a :: l, b :: m, x, h => by
    simp only [List.zipWith_cons_cons, List.mem_cons] at h
    rcases h with rfl | h
    · exact hf _ _
    · exact zip_all hf l m x h
theorem addT_tal {a b : List Int} (ha : a.length = 22) (hb : b.length = 22) : Tal (addT a b) := ⟨by simp [addT, ha, hb], zip_all (fun _ _ => wrap_i64 _) a b⟩
theorem subT_tal {a b : List Int} (ha : a.length = 22) (hb : b.length = 22) : Tal (subT a b) := ⟨by simp [subT, ha, hb], zip_all (fun _ _ => wrap_i64 _) a b⟩
theorem zT_tal : Tal zT := ⟨rfl, fun x h => by rw [List.eq_of_mem_replicate h]; exact ⟨by decide, by decide⟩⟩
theorem addT_zero : ∀ (n : Nat) (a : List Int), a.length = n → (∀ x ∈ a, I64 x) → List.zipWith (fun x y => wrap64 (x + y)) a (List.replicate n 0) = a
  | 0, [], _, _ => rfl
  | n + 1, x :: a, h, hi => by
    rw [List.replicate_succ, List.zipWith_cons_cons, addT_zero n a (by simpa using h) (fun y hy => hi y (by simp [hy])), Int.add_zero, wrap_id (hi x (by simp))]
theorem add_zT {a : List Int} (h : Tal a) : addT a zT = a := addT_zero 22 a h.1 h.2
theorem sum_snoc (l : List (List Int)) (y : List Int) : sumT (l ++ [y]) = addT (sumT l) y := by simp [sumT, List.foldl_append]
theorem sumT_tal : ∀ (l : List (List Int)), (∀ t ∈ l, Tal t) → Tal (sumT l) := by
  intro l
  suffices h : ∀ (l : List (List Int)) (s : List Int), Tal s → (∀ t ∈ l, Tal t) → Tal (l.foldl addT s) from h l zT zT_tal
  intro l
  induction l with
  | nil => exact fun s hs _ => hs
  | cons y l ih => exact fun s hs hl => ih _ (addT_tal hs.1 (hl y (by simp)).1) fun t ht => hl t (by simp [ht])
theorem add_sub_wrap (s x : Int) (hs : I64 s) : wrap64 (wrap64 (0 + wrap64 (s - x)) + x) = s := by unfold I64 at hs; unfold wrap64; omega
theorem zip_back : ∀ (n : Nat) (s x : List Int), s.length = n → x.length = n → (∀ y ∈ s, I64 y) →
    List.zipWith (fun x y => wrap64 (x + y)) (List.zipWith (fun x y => wrap64 (x + y)) (List.replicate n 0) (List.zipWith (fun x y => wrap64 (x - y)) s x)) x = s
  | 0, [], [], _, _, _ => rfl
  | n + 1, a :: s, b :: x, h1, h2, hi => by
    rw [List.replicate_succ, List.zipWith_cons_cons, List.zipWith_cons_cons, List.zipWith_cons_cons, zip_back n s x (by simpa using h1) (by simpa using h2) (fun y hy => hi y (by simp [hy])), add_sub_wrap a b (hi a (by simp))]
theorem sum_less {s x : List Int} (hs : Tal s) (hx : Tal x) : sumT [subT s x, x] = s := zip_back 22 s x hs.1 hx.1 hs.2
/-- A row's text. -/
def rowS (l : List Int) : List UInt8 := Lib.join (l.map Lib.itoa) [44]
theorem joinTail_snoc (sep : List UInt8) (r : List (List UInt8)) (y : List UInt8) : Lib.joinTail sep (r ++ [y]) = Lib.joinTail sep r ++ (sep ++ y) := by simp [Lib.joinTail]
theorem join_snoc (sep : List UInt8) (l : List (List UInt8)) (y : List UInt8) (h : l ≠ []) : Lib.join (l ++ [y]) sep = Lib.join l sep ++ (sep ++ y) := by
  cases l with
  | nil => exact absurd rfl h
  | cons x r => rw [List.cons_append, Lib.join_cons, Lib.join_cons, joinTail_snoc, List.append_assoc]
theorem rowS_step {l : List Int} {i : Nat} {x : Int} (h : l[i]? = some x) : rowS (l.take (i + 1)) = (if 0 < i then rowS (l.take i) ++ [44] else rowS (l.take i)) ++ Lib.itoa x := by
  unfold rowS
  have hl : i < l.length := (List.getElem?_eq_some_iff.1 h).1
  rw [List.take_add_one, h, Option.toList_some, List.map_append, List.map_cons, List.map_nil]
  by_cases hi : 0 < i
  · rw [if_pos hi, join_snoc]
    · simp
    · intro e
      have := congrArg List.length e
      simp only [List.length_map, List.length_take, List.length_nil] at this
      omega
  · obtain rfl : i = 0 := by omega
    simp [Lib.join_nil, Lib.join_one]
/-- A tally's text. -/
def lineT (t : List Int) : List UInt8 := Lib.join [107 :: rowS (t.take 4), 99 :: rowS ((t.drop 4).take 16), 103 :: rowS ((t.drop 20).take 1), 98 :: rowS ((t.drop 21).take 1)] [32]
theorem lineT_eq (t : List Int) : lineT t = ((((((([107] ++ rowS (t.take 4)) ++ [32, 99]) ++ rowS ((t.drop 4).take 16)) ++ [32, 103]) ++ rowS ((t.drop 20).take 1)) ++ [32, 98]) ++ rowS ((t.drop 21).take 1)) := by
  unfold lineT
  rw [Lib.join_cons]
  simp [Lib.joinTail]
end Go.Proofs.YtenddeglhjmhcaaDoor
