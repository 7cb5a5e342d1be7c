/- The plain law: how many descriptors, of all and of one inode; what a map of counts comes to. No walk. -/
import Derived.Test.YtggpjddomicekaaE
import Derived.Maps.Views
import Derived.Maps.RangeWalk
import Derived.Maps.OwnOps
namespace Go.Proofs.Ytggpjddomicekaa
open Go.RowKit

/-- Of how many of the first n places the thing is so. -/
def cq (q : Int → Bool) (T : Nat → Int) : Nat → Nat
  | 0 => 0
  | n + 1 => cq q T n + if q (T n) then 1 else 0

theorem cq_le (q : Int → Bool) (T : Nat → Int) (n : Nat) : cq q T n ≤ n := by
  induction n with
  | zero => simp [cq]
  | succ n ih => unfold cq; split <;> omega
theorem cq_upd_out (q : Int → Bool) (T : Nat → Int) (p : Nat) (v : Int) (n : Nat) (h : n ≤ p) : cq q (upd T p v) n = cq q T n := by
  induction n with
  | zero => rfl
  | succ n ih => simp only [cq, ih (by omega)]; rw [show upd T p v n = T n from by unfold upd; rw [if_neg (by omega)]]
theorem cq_upd (q : Int → Bool) (T : Nat → Int) (p : Nat) (v : Int) (n : Nat) (h : p < n) :
    cq q (upd T p v) n + (if q (T p) then 1 else 0) = cq q T n + (if q v then 1 else 0) := by
  induction n with
  | zero => omega
  | succ n ih =>
    by_cases e : p = n
    · subst e
      simp only [cq, cq_upd_out q T p v p (Nat.le_refl _)]
      rw [show upd T p v p = v from by unfold upd; rw [if_pos rfl]]
      omega
    · simp only [cq]
      rw [show upd T p v n = T n from by unfold upd; rw [if_neg (by omega)]]
      have := ih (by omega)
      omega
theorem cq_add (q a b : Int → Bool) (T : Nat → Int) (n : Nat) (h : ∀ i, i < n → ((if q (T i) then 1 else 0 : Nat) = (if a (T i) then 1 else 0) + (if b (T i) then 1 else 0))) : cq q T n = cq a T n + cq b T n := by
  induction n with
  | zero => rfl
  | succ n ih => simp only [cq]; rw [ih (fun i hi => h i (by omega)), h n (by omega)]; omega
theorem cq_none (q : Int → Bool) (T : Nat → Int) (n : Nat) (h : ∀ i, i < n → q (T i) = false) : cq q T n = 0 := by
  induction n with
  | zero => rfl
  | succ n ih => simp only [cq]; rw [ih (fun i hi => h i (by omega)), h n (by omega)]; rfl
theorem cq_congr (q a : Int → Bool) (T : Nat → Int) (n : Nat) (h : ∀ i, i < n → q (T i) = a (T i)) : cq q T n = cq a T n := by
  induction n with
  | zero => rfl
  | succ n ih => simp only [cq]; rw [ih (fun i hi => h i (by omega)), h n (by omega)]
theorem cq_pos (q : Int → Bool) (T : Nat → Int) (n i : Nat) (hi : i < n) (h : q (T i) = true) : 0 < cq q T n := by
  induction n with
  | zero => omega
  | succ n ih =>
    simp only [cq]
    by_cases e : i = n
    · subst e; rw [h]; simp
    · have := ih (by omega); omega

/-- An inode's, of no free one. -/
def isOf (k : Int) : Int → Bool := fun v => decide (k ≠ 0 ∧ v = k)
def isOpen : Int → Bool := fun v => decide (v ≠ 0)

theorem cq_succ (q : Int → Bool) (T : Nat → Int) (a k : Nat) : cq q T (a + (k + 1)) = cq q T (a + k) + if q (T (a + k)) then 1 else 0 := rfl
theorem hits_cq (T : Nat → Int) (ino : Int) (c k : Nat) : hits ino (opens T c k) + cq (isOf ino) T (c * 16) = cq (isOf ino) T (c * 16 + k) := by
  induction k with
  | zero => simp [opens, hits]
  | succ k ih =>
    by_cases h : T (c * 16 + k) = 0
    · rw [opens_zero h, ih, cq_succ]
      rw [if_neg]; · rfl
      simp only [isOf, h, decide_eq_true_eq]; rintro ⟨h1, h2⟩; exact h1 h2.symm
    · rw [opens_some h, hits_snoc, cq_succ]
      simp only [isOf, decide_eq_true_eq]
      omega
theorem length_cq (T : Nat → Int) (c k : Nat) : (opens T c k).length + cq isOpen T (c * 16) = cq isOpen T (c * 16 + k) := by
  induction k with
  | zero => simp [opens]
  | succ k ih =>
    by_cases h : T (c * 16 + k) = 0
    · rw [opens_zero h, ih, cq_succ]
      rw [if_neg]; · rfl
      simp [isOpen, h]
    · rw [opens_some h, List.length_append, cq_succ]
      rw [if_pos (by simp [isOpen, h])]
      simp only [List.length_cons, List.length_nil]
      omega
theorem rowOf_nat (T : Nat → Int) (n : Int) (c : Nat) (h : (c : Int) < n) : rowOf T n c = opens T c 16 := by
  unfold rowOf; rw [if_pos ⟨by omega, h⟩]; rfl
theorem hitsTo_cq (T : Nat → Int) (n ino : Int) (k : Nat) (h : (k : Int) ≤ n) : hitsTo T n ino k = cq (isOf ino) T (k * 16) := by
  induction k with
  | zero => simp [hitsTo, cq]
  | succ k ih =>
    unfold hitsTo
    rw [ih (by omega), rowOf_nat T n k (by omega), Nat.add_comm, hits_cq T ino k 16, Nat.add_mul]
theorem lengths_cq (T : Nat → Int) (n : Int) (k : Nat) (h : (k : Int) < n) : cq isOpen T (k * 16) + (rowOf T n k).length = cq isOpen T ((k + 1) * 16) := by
  rw [rowOf_nat T n k h, Nat.add_comm, length_cq, Nat.add_mul]

/-- The places' values are inodes. -/
def Inos (T : Nat → Int) : Prop := ∀ i, 0 ≤ T i ∧ T i ≤ 4294967295
theorem Inos.upd {T : Nat → Int} (h : Inos T) (p : Nat) {v : Int} (h0 : 0 ≤ v) (h1 : v ≤ 4294967295) : Inos (upd T p v) := fun i => by
  unfold Ytggpjddomicekaa.upd; split
  · exact ⟨h0, h1⟩
  · exact h i

/-- The map's datum tells how many are of any inode. -/
def Counts (D : DataW Unit) (T : Nat → Int) : Prop := ∀ k : Int, (Lit.int .u32 k).wf = true → D.atKey (.int .u32 k) (.lit (.int .i64 0)) = .lit (.int .i64 (cq (isOf k) T 48))

theorem Counts.start : Counts (.map []) (fun _ => 0) := fun k _ => by
  rw [cq_none _ _ _ (fun i _ => by simp only [isOf, decide_eq_false_iff_not]; omega)]
  rfl
theorem Counts.put {D : DataW Unit} {T : Nat → Int} (h : Counts D T) (hD : Maps.IsMap D) (p : Nat) (v k : Int) (c : Int) (hc : c = (cq (isOf k) (Ytggpjddomicekaa.upd T p v) 48 : Nat))
    (hoth : ∀ j, j ≠ k → cq (isOf j) (Ytggpjddomicekaa.upd T p v) 48 = cq (isOf j) T 48) : Counts (D.put (.int .u32 k) (.lit (.int .i64 c))) (Ytggpjddomicekaa.upd T p v) := fun j hj => by
  by_cases e : j = k
  · subst e
    rw [Maps.atKey_put_same hD (by trivial), hc]
  · rw [Maps.atKey_put_other (by intro hh; cases hh; exact e rfl), h j hj, hoth j e]

/-- How many are of inodes that are not to come any more. -/
def sumGone (T : Nat → Int) (left : Lit → Bool) : Nat := cq (fun v => decide (v ≠ 0) && !left (.int .u32 v)) T 48
theorem sumGone_start {D : DataW Unit} {T : Nat → Int} (h : Counts D T) (hT : Inos T) : sumGone T (Maps.has D) = 0 := by
  refine cq_none _ _ _ fun i hi => ?_
  by_cases hz : T i = 0
  · simp [hz]
  · have hwf : (Lit.int .u32 (T i)).wf = true := by have := hT i; simp [Lit.wf, IntKind.min, IntKind.max, IntKind.signed, IntKind.bits]; omega
    cases hh : Maps.has D (.int .u32 (T i))
    · have h1 := h (T i) hwf
      rw [Maps.atKey_of_not_has hh] at h1
      have h2 := cq_pos (isOf (T i)) T 48 i hi (by simp [isOf, hz])
      simp at h1
      omega
    · simp
theorem sumGone_step (T : Nat → Int) (left : Lit → Bool) (x : Int) (hl : left (.int .u32 x) = true) : sumGone T (fun z => left z && !z.sameKey (.int .u32 x)) = sumGone T left + cq (isOf x) T 48 := by
  refine cq_add _ _ _ _ _ fun i _ => ?_
  by_cases hz : T i = 0
  · simp [hz, isOf]; omega
  · by_cases hx : T i = x
    · subst hx; simp [isOf, hz, hl, Lit.sameKey]
    · simp [isOf, hx, hz, Lit.sameKey]
theorem sumGone_end (T : Nat → Int) (left : Lit → Bool) (hl : ∀ kl, left kl = false) : sumGone T left = cq isOpen T 48 := by
  refine cq_congr _ _ _ _ fun i _ => by simp [hl, isOpen]
theorem sumGone_le (T : Nat → Int) (left : Lit → Bool) : sumGone T left ≤ 48 := cq_le _ _ _

theorem opens_full_length (T : Nat → Int) (c k : Nat) (h : ∀ i, i < k → T (c * 16 + i) ≠ 0) : (opens T c k).length = k := by
  induction k with
  | zero => rfl
  | succ k ih => rw [opens_some (h k (by omega)), List.length_append, ih (fun i hi => h i (by omega))]; rfl
theorem opens_get (T : Nat → Int) (c fd : Nat) (hf : fd < 16) (h : ∀ i, i ≤ fd → T (c * 16 + i) ≠ 0) : (opens T c 16)[fd]? = some (fd, T (c * 16 + fd)) := by
  obtain ⟨t, ht⟩ := opens_prefix T c (fd + 1) 16 (by omega)
  rw [← ht, opens_some (h fd (Nat.le_refl _)), List.append_assoc, List.getElem?_append_right (by rw [opens_full_length T c fd (fun i hi => h i (by omega))]; omega),
    opens_full_length T c fd (fun i hi => h i (by omega))]
  simp
theorem cellsOf_get (l : List (Nat × Int)) : ∀ (i : Nat) (x : Nat × Int), l[i]? = some x → (cellsOf l)[i * 2]? = some (.int .i64 x.1) := by
  induction l with
  | nil => intro i x h; simp at h
  | cons y l ih =>
    intro i x h
    have e : cellsOf (y :: l) = .int .i64 y.1 :: .int .u32 y.2 :: cellsOf l := by simp [cellsOf]
    rw [e]
    cases i with
    | zero => simp at h; subst h; rfl
    | succ i => rw [show (i + 1) * 2 = i * 2 + 2 from by omega]; simpa using ih i x (by simpa using h)
/-- A row has a place that is free, and a least one; or none. -/
theorem first_free (T : Nat → Int) (c : Nat) : ∀ m, (∃ fd, fd < m ∧ T (c * 16 + fd) = 0 ∧ ∀ i, i < fd → T (c * 16 + i) ≠ 0) ∨ ∀ i, i < m → T (c * 16 + i) ≠ 0 := by
  intro m
  induction m with
  | zero => exact .inr (by omega)
  | succ m ih =>
    rcases ih with ⟨fd, h1, h2⟩ | h
    · exact .inl ⟨fd, by omega, h2⟩
    · by_cases hz : T (c * 16 + m) = 0
      · exact .inl ⟨m, by omega, hz, h⟩
      · refine .inr fun i hi => ?_
        by_cases e : i = m
        · subst e; exact hz
        · exact h i (by omega)
end Go.Proofs.Ytggpjddomicekaa
