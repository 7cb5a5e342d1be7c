/- A heap of fronts, in plain words. -/
import Derived.Test.YtehckjkihaalfaaGreatEB
namespace Go.Proofs.YtehckjkihaalfaaGreat
open Go.RowKit Go.Maps

/-- What is left of a core's row: where it begins, how many there are, and the first one's stamp. -/
structure Fr where
  c : Nat
  q : Nat
  o : Nat
  n : Nat
  cap : Nat
  s : Int
instance : Inhabited Fr := ⟨⟨0, 0, 0, 0, 0, 0⟩⟩
def frLt (a b : Fr) : Prop := a.s < b.s ∨ (a.s = b.s ∧ a.c < b.c)
instance (a b : Fr) : Decidable (frLt a b) := inferInstanceAs (Decidable (_ ∨ _))
theorem frLt_asym {a b : Fr} (h : frLt a b) : ¬ frLt b a := by unfold frLt at *; omega
theorem frLt_trans {a b c : Fr} (h : frLt a b) (k : frLt b c) : frLt a c := by unfold frLt at *; omega
theorem frGe_trans {a b c : Fr} (h : ¬ frLt a b) (k : ¬ frLt b c) : ¬ frLt a c := by unfold frLt at *; omega
theorem frLt_of {a b c : Fr} (h : frLt a b) (k : ¬ frLt c b) : frLt a c := by unfold frLt at *; omega
/-- Two places changed. -/
def swapF (f : Nat → Fr) (i j : Nat) : Nat → Fr := fun m => if m = j then f i else if m = i then f j else f m
def par (k : Nat) : Nat := (k - 1) / 2
def HeapF (f : Nat → Fr) (n : Nat) : Prop := ∀ k, 1 ≤ k → k < n → ¬ frLt (f k) (f (par k))
def UpInv (f : Nat → Fr) (n i : Nat) : Prop := (∀ k, 1 ≤ k → k < n → k ≠ i → ¬ frLt (f k) (f (par k))) ∧ ∀ k, 1 ≤ k → k < n → par k = i → 1 ≤ i → ¬ frLt (f k) (f (par i))
def DownInv (f : Nat → Fr) (n i : Nat) : Prop := (∀ k, 1 ≤ k → k < n → par k ≠ i → ¬ frLt (f k) (f (par k))) ∧ ∀ k, 1 ≤ k → k < n → par k = i → 1 ≤ i → ¬ frLt (f k) (f (par i))
theorem UpInv.stop {f : Nat → Fr} {n i : Nat} (h : UpInv f n i) (hi : i = 0 ∨ ¬ frLt (f i) (f (par i))) : HeapF f n := fun k h1 h2 => by
  by_cases e : k = i
  · subst e
    rcases hi with hi | hi
    · omega
    · exact hi
  · exact h.1 k h1 h2 e
theorem par_lt {k : Nat} (h : 1 ≤ k) : par k < k := by unfold par; omega
theorem UpInv.step {f : Nat → Fr} {n i : Nat} (h : UpInv f n i) (h1 : 1 ≤ i) (h2 : i < n) (hl : frLt (f i) (f (par i))) : UpInv (swapF f (par i) i) n (par i) := by
  have hp := par_lt h1
  have gp : swapF f (par i) i (par i) = f i := by unfold swapF; rw [if_neg (by omega), if_pos rfl]
  have gi : swapF f (par i) i i = f (par i) := by unfold swapF; rw [if_pos rfl]
  have go : ∀ m, m ≠ i → m ≠ par i → swapF f (par i) i m = f m := fun m a b => by unfold swapF; rw [if_neg a, if_neg b]
  refine ⟨fun k k1 k2 k3 => ?_, fun k k1 k2 k3 k4 => ?_⟩
  · by_cases e : k = i
    · subst e
      rw [gi, gp]
      exact frLt_asym hl
    · rw [go k e k3]
      by_cases e2 : par k = i
      · rw [e2, gi]
        exact h.2 k k1 k2 e2 h1
      · by_cases e3 : par k = par i
        · rw [e3, gp]
          have h4 := h.1 k k1 k2 e
          rw [e3] at h4
          exact fun hh => h4 (frLt_trans hh hl)
        · rw [go _ e2 e3]
          exact h.1 k k1 k2 e
  · have hpp := par_lt k4
    rw [go (par (par i)) (by omega) (by omega)]
    have hb := h.1 (par i) k4 (by omega) (by omega)
    by_cases e : k = i
    · subst e
      rw [gi]
      exact hb
    · rw [go k e (by have := par_lt k1; omega)]
      have h4 := h.1 k k1 k2 e
      rw [k3] at h4
      exact frGe_trans h4 hb
theorem DownInv.step {f : Nat → Fr} {n i j : Nat} (h : DownInv f n i) (h1 : 1 ≤ j) (h2 : j < n) (hj : par j = i) (hm : ∀ k, 1 ≤ k → k < n → par k = i → ¬ frLt (f k) (f j)) (hl : frLt (f j) (f i)) : DownInv (swapF f i j) n j := by
  have hp := par_lt h1
  have gp : swapF f i j i = f j := by unfold swapF; rw [if_neg (by omega), if_pos rfl]
  have gi : swapF f i j j = f i := by unfold swapF; rw [if_pos rfl]
  have go : ∀ m, m ≠ j → m ≠ i → swapF f i j m = f m := fun m a b => by unfold swapF; rw [if_neg a, if_neg b]
  refine ⟨fun k k1 k2 k3 => ?_, fun k k1 k2 k3 k4 => ?_⟩
  · by_cases e : par k = i
    · rw [e, gp]
      by_cases e2 : k = j
      · subst e2
        rw [gi]
        exact frLt_asym hl
      · rw [go k e2 (by have := par_lt k1; omega)]
        exact hm k k1 k2 e
    · have h3 := h.1 k k1 k2 e
      rw [go (par k) k3 e]
      by_cases e2 : k = j
      · rw [e2] at e
        exact absurd hj e
      · by_cases e3 : k = i
        · subst e3
          rw [gp]
          exact h.2 j h1 h2 hj k1
        · rw [go k e2 e3]
          exact h3
  · rw [hj, gp]
    have hk := par_lt k1
    rw [go k (by omega) (by omega)]
    have h3 := h.1 k k1 k2 (by omega)
    rwa [k3] at h3
theorem DownInv.stop {f : Nat → Fr} {n i : Nat} (h : DownInv f n i) (hm : ∀ k, 1 ≤ k → k < n → par k = i → ¬ frLt (f k) (f i)) : HeapF f n := fun k k1 k2 => by
  by_cases e : par k = i
  · rw [e]
    exact hm k k1 k2 e
  · exact h.1 k k1 k2 e
theorem HeapF.least {f : Nat → Fr} {n : Nat} (h : HeapF f n) (k : Nat) (hk : k < n) : ¬ frLt (f k) (f 0) := by
  induction k using Nat.strongRecOn with
  | _ k ih =>
    by_cases e : k = 0
    · subst e
      exact fun hh => frLt_asym hh hh
    · have hp := par_lt (k := k) (by omega)
      exact frGe_trans (h k (by omega) hk) (ih (par k) hp (by omega))
/-- The list's places. -/
def fAt (l : List Fr) (k : Nat) : Fr := l[k]?.getD default
def HeapL (l : List Fr) : Prop := HeapF (fAt l) l.length
theorem fAt_eq {l : List Fr} {k : Nat} {e : Fr} (h : l[k]? = some e) : fAt l k = e := by unfold fAt; rw [h]; rfl
theorem fAt_set {l : List Fr} {i j : Nat} (hi : i < l.length) (hj : j < l.length) : fAt ((l.set i (fAt l j)).set j (fAt l i)) = swapF (fAt l) i j := by
  funext m
  unfold swapF
  by_cases e : m = j
  · subst e
    rw [if_pos rfl]
    apply fAt_eq
    rw [List.getElem?_set_self (by simpa using hj)]
  · rw [if_neg e]
    by_cases e2 : m = i
    · subst e2
      rw [if_pos rfl]
      apply fAt_eq
      rw [List.getElem?_set_ne (fun h => e h.symm), List.getElem?_set_self hi]
    · rw [if_neg e2]
      unfold fAt
      rw [List.getElem?_set_ne (fun h => e h.symm), List.getElem?_set_ne (fun h => e2 h.symm)]
theorem fAt_get {l : List Fr} {k : Nat} (h : k < l.length) : l[k]? = some (fAt l k) := by unfold fAt; rw [List.getElem?_eq_getElem h]; rfl
theorem fAt_mem {l : List Fr} {k : Nat} (h : k < l.length) : fAt l k ∈ l := List.mem_of_getElem? (fAt_get h)
theorem HeapF.congr {f g : Nat → Fr} {n : Nat} (h : HeapF f n) (hg : ∀ k, k < n → g k = f k) : HeapF g n := fun k h1 h2 => by
  rw [hg k h2, hg (par k) (by have := par_lt h1; omega)]
  exact h k h1 h2
theorem UpInv.push {l : List Fr} (h : HeapL l) (e : Fr) : UpInv (fAt (l ++ [e])) (l.length + 1) l.length := by
  have hg : ∀ k, k < l.length → fAt (l ++ [e]) k = fAt l k := fun k hk => by unfold fAt; rw [List.getElem?_append_left hk]
  refine ⟨fun k h1 h2 h3 => ?_, fun k h1 h2 h3 _ => ?_⟩
  · have := par_lt h1
    rw [hg k (by omega), hg (par k) (by omega)]
    exact h k h1 (by omega)
  · have := par_lt h1
    omega
/-- With another root. -/
theorem DownInv.root {f : Nat → Fr} {n : Nat} (h : ∀ k, 1 ≤ k → k < n → par k ≠ 0 → ¬ frLt (f k) (f (par k))) : DownInv f n 0 := ⟨h, fun _ _ _ _ h0 => by omega⟩
theorem HeapL.least {e : Fr} {l : List Fr} (h : HeapL (e :: l)) : ∀ x ∈ e :: l, ¬ frLt x e := fun x hx => by
  obtain ⟨k, hk, rfl⟩ := List.getElem_of_mem hx
  have h1 := HeapF.least h k hk
  rwa [fAt_eq (List.getElem?_eq_getElem hk), fAt_eq (l := e :: l) (k := 0) rfl] at h1
/-- Two lists that differ in nothing but their order, below m. -/
theorem HeapL.nil : HeapL [] := fun k _ h2 => by simp at h2
theorem fAt_cons0 (e : Fr) (l : List Fr) : fAt (e :: l) 0 = e := rfl
theorem fAt_cons (e : Fr) (l : List Fr) (k : Nat) : fAt (e :: l) (k + 1) = fAt l k := rfl
/-- The root is another one. -/
theorem DownInv.cons {e e' : Fr} {l : List Fr} (h : HeapL (e :: l)) : DownInv (fAt (e' :: l)) (l.length + 1) 0 := DownInv.root fun k h1 h2 h3 => by
  have h4 := h k h1 h2
  obtain ⟨k, rfl⟩ : ∃ q, k = q + 1 := ⟨k - 1, by omega⟩
  obtain ⟨p, hp⟩ : ∃ q, par (k + 1) = q + 1 := ⟨par (k + 1) - 1, by omega⟩
  rw [hp] at h4 ⊢
  exact h4
/-- The last one at the root's place. -/
theorem DownInv.last {e e' : Fr} {l : List Fr} (h : HeapL (e :: l)) : DownInv (fAt (((e' :: l).set 0 (fAt (e' :: l) l.length)).set l.length e')) l.length 0 := DownInv.root fun k h1 h2 h3 => by
  have hp := par_lt h1
  have h4 := h k h1 (by simp; omega)
  have hg : ∀ m, 1 ≤ m → m < l.length → fAt (((e' :: l).set 0 (fAt (e' :: l) l.length)).set l.length e') m = fAt (e :: l) m := fun m a b => by
    obtain ⟨m, rfl⟩ : ∃ q, m = q + 1 := ⟨m - 1, by omega⟩
    unfold fAt
    rw [List.getElem?_set_ne (by omega), List.getElem?_set_ne (by omega)]
    rfl
  rw [hg k h1 h2, hg (par k) (by omega) (by omega)]
  exact h4
end Go.Proofs.YtehckjkihaalfaaGreat

/- The heap of fronts, walked. -/
namespace Go.Proofs.YtehckjkihaalfaaGreat
open Go.RowKit Go.Maps

/-- A front's cells. -/
def Fr.cells (e : Fr) : List Value := [.int .i64 (e.c : Int), .slice (some ⟨e.q, e.o, none⟩) e.n e.cap]
def frV (l : List Fr) : List Value := l.flatMap Fr.cells
/-- Its first record stands in one of the blocks K. -/
def FrOk (w : World) (K : Nat → Prop) (e : Fr) : Prop := (1 ≤ e.n → w.cell? ⟨e.q, e.o, none⟩ = some (.int .u64 e.s)) ∧ K e.q
def OwnF (w : World) (K : Nat → Prop) (v : Value) (n : Nat) (l : List Fr) : Prop := w.ownsRow 0 91 2 v n (frV l) ∧ ∀ q, v.ownBlock = some q → ¬ K q
theorem OwnF.below {w w' : World} {K : Nat → Prop} {v : Value} {n : Nat} {l : List Fr} (h : OwnF w K v n l) (hb : Below w.heap.size w w') : OwnF w' K v n l := ⟨row_below h.1 hb, h.2⟩
theorem FrOk.below {w w' : World} {K : Nat → Prop} {e : Fr} (h : FrOk w K e) (hb : Below w.heap.size w w') (hG : ∀ b, K b → b < w.heap.size) : FrOk w' K e := ⟨fun hn => (World.cell?_of_block (a := ⟨e.q, e.o, none⟩) (hb.block _ (hG _ h.2))).trans (h.1 hn), h.2⟩
theorem frV_len (l : List Fr) : (frV l).length = l.length * 2 := by
  induction l with
  | nil => rfl
  | cons e l ih => unfold frV at *; simp [Fr.cells, ih]; omega
theorem frV_append (l m : List Fr) : frV (l ++ m) = frV l ++ frV m := by unfold frV; rw [List.flatMap_append]
theorem frV_get0 (l : List Fr) (k : Nat) (h : k < l.length) : (frV l)[k * 2]? = some (.int .i64 ((fAt l k).c : Int)) := by
  induction l generalizing k with
  | nil => simp at h
  | cons e l ih =>
    cases k with
    | zero => rfl
    | succ k => 
      have := ih k (by simpa using h)
      rw [show (k + 1) * 2 = k * 2 + 1 + 1 by omega]
      unfold frV at *
      simpa [Fr.cells, fAt_cons] using this
theorem frV_get1 (l : List Fr) (k : Nat) (h : k < l.length) : (frV l)[k * 2 + 1]? = some (.slice (some ⟨(fAt l k).q, (fAt l k).o, none⟩) (fAt l k).n (fAt l k).cap) := by
  induction l generalizing k with
  | nil => simp at h
  | cons e l ih =>
    cases k with
    | zero => rfl
    | succ k => 
      have := ih k (by simpa using h)
      rw [show (k + 1) * 2 + 1 = k * 2 + 1 + 1 + 1 by omega]
      unfold frV at *
      simpa [Fr.cells, fAt_cons] using this
/-- The cells of a front. -/
theorem fr_cell {w : World} {K : Nat → Prop} {n c k : Nat} {A : Option Addr} {l : List Fr} (h : OwnF w K (.slice A n c) n l) (hk : k < n) :
    ∃ g, A = some ⟨g, 0, none⟩ ∧ ¬ K g ∧ l.length = n ∧ w.cell? ⟨g, k * 2, none⟩ = some (.int .i64 ((fAt l k).c : Int)) ∧ w.cell? ⟨g, k * 2 + 1, none⟩ = some (.slice (some ⟨(fAt l k).q, (fAt l k).o, none⟩) (fAt l k).n (fAt l k).cap) ∧ ∀ j, w.frozen? ⟨g, j, none⟩ = false := by
  obtain ⟨g, hg⟩ : ∃ g, A = some ⟨g, 0, none⟩ := by
    rcases h.1.2 with ⟨h', h0⟩ | ⟨g', cap', cur, h', _⟩
    · omega
    · simp only [Value.slice.injEq] at h'
      exact ⟨g', h'.1⟩
  subst hg
  have hl : l.length = n := by have := h.1.1; rw [frV_len] at this; omega
  refine ⟨g, rfl, h.2 g rfl, hl, ?_, ?_, fun j => h.1.frozenAt _⟩
  · rw [h.1.cellAt (k * 2) (by omega), frV_get0 l k (by omega)]
  · rw [h.1.cellAt (k * 2 + 1) (by omega), frV_get1 l k (by omega)]
theorem frV_set (l : List Fr) (i : Nat) (e : Fr) : frV (l.set i e) = ((frV l).set (i * 2) (.int .i64 (e.c : Int))).set (i * 2 + 1) (.slice (some ⟨e.q, e.o, none⟩) e.n e.cap) := by
  induction l generalizing i with
  | nil => rfl
  | cons a l ih =>
    cases i with
    | zero => rfl
    | succ i =>
      have := ih i
      rw [show (i + 1) * 2 = i * 2 + 1 + 1 by omega]
      unfold frV at *
      simpa [Fr.cells] using this
/-- cmp.Compare. -/
def cmpZ (x y : Int) : Int := if x < y then -1 else if y < x then 1 else 0
def orZ (x y : Int) : Int := if x = 0 then y else x
theorem cmp_lt (a b : Fr) : decide (orZ (cmpZ a.s b.s) (cmpZ (a.c : Int) (b.c : Int)) < 0) = decide (frLt a b) := by
  apply decide_eq_decide.2
  unfold orZ cmpZ frLt
  split <;> split <;> (try split) <;> (try split) <;> omega
theorem cell_old {w W : World} {b j : Nat} (hB : RelB w W) (hb : b < w.heap.size) : W.cell? ⟨b, j, none⟩ = w.cell? ⟨b, j, none⟩ := World.cell?_of_block (a := ⟨b, j, none⟩) (Below.block hB b hb)
theorem cell_lt {w : World} {b j : Nat} {v : Value} (h : w.cell? ⟨b, j, none⟩ = some v) : b < w.heap.size := by
  rcases Nat.lt_or_ge b w.heap.size with hh | hh
  · exact hh
  · rw [show w.cell? ⟨b, j, none⟩ = none by simp only [World.cell?, Array.getElem?_eq_none hh]] at h
    cases h
theorem u_isNaN (x : Int) (w : World) : Calls Tryz.prog 234 #[.int .u64 x] w fun e w' => e = .returned (.bool false) ∧ w = w' := by
  go_enter Tryz.func234, Tryz.ntmps234
  go_wp2
  go_ret
  exact ⟨rfl, rfl⟩
theorem u_compare (x y : Int) (w : World) : Calls Tryz.prog 232 #[.int .u64 x, .int .u64 y] w fun e w' => e = .returned (.int .i64 (cmpZ x y)) ∧ w = w' := by
  rcases Int.lt_trichotomy x y with h | h | h
  · go_enter Tryz.func232, Tryz.ntmps232
    go_wp2_with (go_at_call 234; refine (u_isNaN _ _).mono ?_; rintro e w' ⟨rfl, rfl⟩)
    go_ret
    refine ⟨?_, rfl⟩
    unfold cmpZ
    rw [if_pos h]
    rfl
  · subst h
    go_enter Tryz.func232, Tryz.ntmps232
    go_wp2_with (go_at_call 234; refine (u_isNaN _ _).mono ?_; rintro e w' ⟨rfl, rfl⟩)
    go_ret
    refine ⟨?_, rfl⟩
    unfold cmpZ
    rw [if_neg (by omega), if_neg (by omega)]
    rfl
  · have h2 : ¬ x < y := by omega
    go_enter Tryz.func232, Tryz.ntmps232
    go_wp2_with (go_at_call 234; refine (u_isNaN _ _).mono ?_; rintro e w' ⟨rfl, rfl⟩)
    go_ret
    refine ⟨?_, rfl⟩
    unfold cmpZ
    rw [if_neg (by omega), if_pos h]
    rfl
theorem i_compare (x y : Int) (w : World) : Calls Tryz.prog 233 #[.int .i64 x, .int .i64 y] w fun e w' => e = .returned (.int .i64 (cmpZ x y)) ∧ w = w' := by
  rcases Int.lt_trichotomy x y with h | h | h
  · go_enter Tryz.func233, Tryz.ntmps233
    go_wp2_with (go_at_call 195; refine (i_isNaN _ _).mono ?_; rintro e w' ⟨rfl, rfl⟩)
    go_ret
    refine ⟨?_, rfl⟩
    unfold cmpZ
    rw [if_pos h]
    rfl
  · subst h
    go_enter Tryz.func233, Tryz.ntmps233
    go_wp2_with (go_at_call 195; refine (i_isNaN _ _).mono ?_; rintro e w' ⟨rfl, rfl⟩)
    go_ret
    refine ⟨?_, rfl⟩
    unfold cmpZ
    rw [if_neg (by omega), if_neg (by omega)]
    rfl
  · have h2 : ¬ x < y := by omega
    go_enter Tryz.func233, Tryz.ntmps233
    go_wp2_with (go_at_call 195; refine (i_isNaN _ _).mono ?_; rintro e w' ⟨rfl, rfl⟩)
    go_ret
    refine ⟨?_, rfl⟩
    unfold cmpZ
    rw [if_neg (by omega), if_pos h]
    rfl
set_option maxRecDepth 100000 in
set_option maxHeartbeats 4000000 in
theorem t_orI (x y : Int) (B : Nat) (w : World) (h : w.heap[B]? = some (.cells #[.int .i64 x, .int .i64 y] 3 (0, 0))) :
    Calls Tryz.prog 231 #[.slice (some ⟨B, 0, none⟩) 2 2] w fun e w' => e = .returned (.int .i64 (orZ x y)) ∧ Below w.heap.size w w' := by
  have c0 : w.cell? ⟨B, 0, none⟩ = some (.int .i64 x) := by simp only [World.cell?, h]; rfl
  have c1 : w.cell? ⟨B, 1, none⟩ = some (.int .i64 y) := by simp only [World.cell?, h]; rfl
  clear h
  by_cases h0 : x = 0
  · subst h0
    have HE : Hid (orZ 0 y = y) := if_pos rfl
    rw [HE.out]
    go_enter Tryz.func231, Tryz.ntmps231
    go_wp2
    go_loopw [8] (fun x wr => ∃ i : Nat, x = .int .i64 (i : Int) ∧ i ≤ 2 ∧ (i = 2 → y = 0) ∧ wr = w) (fun x _ => 2 - (intOf x).toNat)
    case atStart => exact ⟨0, rfl, by omega, by omega, rfl⟩
    case round =>
      obtain ⟨i, rfl, hi, hy, rfl⟩ := hrel
      rcases (by omega : i = 0 ∨ i = 1 ∨ i = 2) with rfl | rfl | rfl
      · go_wp2
        go_roundw
        case rel => exact ⟨1, rfl, by simp⟩
        case measure => simp only [intOf]; omega
      · by_cases h1 : y = 0
        · subst h1
          go_wp2
          go_roundw
          case rel => exact ⟨2, rfl, by simp⟩
          case measure => simp only [intOf]; omega
        · have h2 : (y != 0) = true := by simpa using h1
          clear hy
          go_wp2
          go_ret
          exact ⟨rfl, Below.refl _ _⟩
      · obtain rfl := hy rfl
        go_wp2
        go_ret
        exact ⟨rfl, Below.refl _ _⟩
  · have HE : Hid (orZ x y = x) := if_neg h0
    rw [HE.out]
    have h2 : (x != 0) = true := by simpa using h0
    go_enter Tryz.func231, Tryz.ntmps231
    go_wp2
    go_loopw [8] (fun x wr => x = .int .i64 0 ∧ wr = w) (fun x _ => 2 - (intOf x).toNat)
    case atStart => exact ⟨rfl, rfl⟩
    case round =>
      obtain ⟨rfl, rfl⟩ := hrel
      go_wp2
      go_ret
      exact ⟨rfl, Below.refl _ _⟩
set_option maxRecDepth 100000 in
set_option maxHeartbeats 4000000 in
theorem t_fLess (K : Nat → Prop) (n c : Nat) (A : Option Addr) (l : List Fr) (i k : Nat) (w : World) (h : OwnF w K (.slice A n c) n l) (hf : ∀ e ∈ l, FrOk w K e) (hi : i < n) (hk : k < n) (hn1 : 1 ≤ (fAt l i).n) (hn2 : 1 ≤ (fAt l k).n) (hn : n ≤ 60000) :
    Calls Tryz.prog 229 #[.slice A n c, .int .i64 (i : Int), .int .i64 (k : Int)] w fun e w' => e = .returned (.bool (decide (frLt (fAt l i) (fAt l k)))) ∧ Below w.heap.size w w' := by
  obtain ⟨g, rfl, hg, hl, cx, cx1, fx⟩ := fr_cell h hi
  obtain ⟨_, hgg, _, _, cy, cy1, fy⟩ := fr_cell h hk
  cases hgg
  obtain ⟨k1, k2⟩ := hf _ (fAt_mem (l := l) (k := i) (by omega))
  obtain ⟨k4, k5⟩ := hf _ (fAt_mem (l := l) (k := k) (by omega))
  replace k1 := k1 hn1
  replace k4 := k4 hn2
  have hgl := cell_lt cx
  have hgi := cell_lt k1
  have hgk := cell_lt k4
  have k3' : 0 < (fAt l i).n := by omega
  have k6' : 0 < (fAt l k).n := by omega
  clear h fx fy hf
  have hi2 : (i : Int) < (n : Int) := by omega
  have hk2 : (k : Int) < (n : Int) := by omega
  go_enter Tryz.func229, Tryz.ntmps229
  go_wp2
  refine wp_region_rel RelB (phi [isV (.slice (some ⟨g, 0, none⟩) n c), isV (.int .i64 (i : Int)), isV (.pointer (some ⟨g, i * 2, none⟩)), isV (.pointer (some ⟨g, i * 2 + 1, none⟩)), isV (.slice (some ⟨(fAt l i).q, (fAt l i).o, none⟩) (fAt l i).n (fAt l i).cap), isV (.pointer (some ⟨(fAt l i).q, (fAt l i).o, none⟩)), isV (.pointer (some ⟨(fAt l i).q, (fAt l i).o, none⟩)), isV (.int .u64 (fAt l i).s), isV (.slice (some ⟨g, 0, none⟩) n c), isV (.int .i64 (k : Int)), isV (.pointer (some ⟨g, k * 2, none⟩)), isV (.pointer (some ⟨g, k * 2 + 1, none⟩)), isV (.slice (some ⟨(fAt l k).q, (fAt l k).o, none⟩) (fAt l k).n (fAt l k).cap), isV (.pointer (some ⟨(fAt l k).q, (fAt l k).o, none⟩)), isV (.pointer (some ⟨(fAt l k).q, (fAt l k).o, none⟩)), isV (.int .u64 (fAt l k).s), isV (.int .i64 (cmpZ (fAt l i).s (fAt l k).s)), isV (.slice (some ⟨g, 0, none⟩) n c), isV (.int .i64 (i : Int)), isV (.pointer (some ⟨g, i * 2, none⟩)), isV (.pointer (some ⟨g, i * 2, none⟩)), isV (.int .i64 ((fAt l i).c : Int)), isV (.slice (some ⟨g, 0, none⟩) n c), isV (.int .i64 (k : Int)), isV (.pointer (some ⟨g, k * 2, none⟩)), isV (.pointer (some ⟨g, k * 2, none⟩)), isV (.int .i64 ((fAt l k).c : Int)), isV (.int .i64 (cmpZ ((fAt l i).c : Int) ((fAt l k).c : Int))), (fun v W => ∃ B, v = .slice (some ⟨B, 0, none⟩) 2 2 ∧ W.heap[B]? = some (.cells #[.int .i64 (cmpZ (fAt l i).s (fAt l k).s), .int .i64 (cmpZ ((fAt l i).c : Int) ((fAt l k).c : Int))] 3 (0, 0))), isV (.int .i64 (orZ (cmpZ (fAt l i).s (fAt l k).s) (cmpZ ((fAt l i).c : Int) ((fAt l k).c : Int)))), isV (.bool (decide ((orZ (cmpZ (fAt l i).s (fAt l k).s) (cmpZ ((fAt l i).c : Int) ((fAt l k).c : Int))) < 0))), isV (.bool (decide ((orZ (cmpZ (fAt l i).s (fAt l k).s) (cmpZ ((fAt l i).c : Int) ((fAt l k).c : Int))) < 0)))]) (by kernel_rfl) (by kernel_rfl) (by kernel_rfl) (RelB.of (below_drew _)) (fun _ _ _ a b => a.trans b) ?_ ?_ ?_
  · refine stays_phiR ?_
    simp only [List.forall_mem_cons]
    exact ⟨fun _ _ _ h _ => h, fun _ _ _ h _ => h, fun _ _ _ h _ => h, fun _ _ _ h _ => h, fun _ _ _ h _ => h, fun _ _ _ h _ => h, fun _ _ _ h _ => h, fun _ _ _ h _ => h, fun _ _ _ h _ => h, fun _ _ _ h _ => h, fun _ _ _ h _ => h, fun _ _ _ h _ => h, fun _ _ _ h _ => h, fun _ _ _ h _ => h, fun _ _ _ h _ => h, fun _ _ _ h _ => h, fun _ _ _ h _ => h, fun _ _ _ h _ => h, fun _ _ _ h _ => h, fun _ _ _ h _ => h, fun _ _ _ h _ => h, fun _ _ _ h _ => h, fun _ _ _ h _ => h, fun _ _ _ h _ => h, fun _ _ _ h _ => h, fun _ _ _ h _ => h, fun _ _ _ h _ => h, fun _ _ _ h _ => h, fun _ _ _ h hb => by obtain ⟨B, h1, h2⟩ := h; exact ⟨B, h1, RelB.rec hb h2⟩, fun _ _ _ h _ => h, fun _ _ _ h _ => h, fun _ _ _ h _ => h, fun _ h => absurd h (by simp)⟩
  · refine ⟨?_, ?_, ?_, ?_, ?_, ?_, ?_, ?_, ?_, ?_, ?_, ?_, ?_, ?_, ?_, ?_, ?_, ?_, ?_, ?_, ?_, ?_, ?_, ?_, ?_, ?_, ?_, ?_, ?_, ?_, ?_, ?_, trivial⟩
    · refine opR_mk rfl fun aa W2 hB hp hq K hK => ?_
      have e0 : aa.tmps[0]?.getD undef = .slice (some ⟨g, 0, none⟩) n c := hp 0 (by kernel_rfl)
      clear hp hq
      go_simp
      exact hK _ _ (RelB.refl _) rfl
    · refine opR_mk rfl fun aa W2 hB hp hq K hK => ?_
      have e1 : aa.tmps[1]?.getD undef = .int .i64 (i : Int) := hp 1 (by kernel_rfl)
      clear hp hq
      go_simp
      exact hK _ _ (RelB.refl _) rfl
    · refine opR_mk rfl fun aa W2 hB hp hq K hK => ?_
      have e7 : aa.tmps[7]?.getD undef = .slice (some ⟨g, 0, none⟩) n c := hq 0 _ (by kernel_rfl) rfl
      have e8 : aa.tmps[8]?.getD undef = .int .i64 (i : Int) := hq 1 _ (by kernel_rfl) rfl
      clear hp hq
      go_simp
      exact hK _ _ (RelB.refl _) rfl
    · refine opR_mk rfl fun aa W2 hB hp hq K hK => ?_
      have e9 : aa.tmps[9]?.getD undef = .pointer (some ⟨g, i * 2, none⟩) := hq 2 _ (by kernel_rfl) rfl
      clear hp hq
      go_simp
      exact hK _ _ (RelB.refl _) rfl
    · refine opR_mk rfl fun aa W2 hB hp hq K hK => ?_
      have e10 : aa.tmps[10]?.getD undef = .pointer (some ⟨g, i * 2 + 1, none⟩) := hq 3 _ (by kernel_rfl) rfl
      have cc := (cell_old hB hgl).trans cx1
      clear hp hq
      go_simp
      exact hK _ _ (RelB.refl _) rfl
    · refine opR_mk rfl fun aa W2 hB hp hq K hK => ?_
      have e11 : aa.tmps[11]?.getD undef = .slice (some ⟨(fAt l i).q, (fAt l i).o, none⟩) (fAt l i).n (fAt l i).cap := hq 4 _ (by kernel_rfl) rfl
      clear hp hq
      go_simp
      exact hK _ _ (RelB.refl _) rfl
    · refine opR_mk rfl fun aa W2 hB hp hq K hK => ?_
      have e12 : aa.tmps[12]?.getD undef = .pointer (some ⟨(fAt l i).q, (fAt l i).o, none⟩) := hq 5 _ (by kernel_rfl) rfl
      clear hp hq
      go_simp
      exact hK _ _ (RelB.refl _) rfl
    · refine opR_mk rfl fun aa W2 hB hp hq K hK => ?_
      have e13 : aa.tmps[13]?.getD undef = .pointer (some ⟨(fAt l i).q, (fAt l i).o, none⟩) := hq 6 _ (by kernel_rfl) rfl
      have cc := (cell_old hB hgi).trans k1
      clear hp hq
      go_simp
      exact hK _ _ (RelB.refl _) rfl
    · refine opR_mk rfl fun aa W2 hB hp hq K hK => ?_
      have e0 : aa.tmps[0]?.getD undef = .slice (some ⟨g, 0, none⟩) n c := hp 0 (by kernel_rfl)
      clear hp hq
      go_simp
      exact hK _ _ (RelB.refl _) rfl
    · refine opR_mk rfl fun aa W2 hB hp hq K hK => ?_
      have e2 : aa.tmps[2]?.getD undef = .int .i64 (k : Int) := hp 2 (by kernel_rfl)
      clear hp hq
      go_simp
      exact hK _ _ (RelB.refl _) rfl
    · refine opR_mk rfl fun aa W2 hB hp hq K hK => ?_
      have e15 : aa.tmps[15]?.getD undef = .slice (some ⟨g, 0, none⟩) n c := hq 8 _ (by kernel_rfl) rfl
      have e16 : aa.tmps[16]?.getD undef = .int .i64 (k : Int) := hq 9 _ (by kernel_rfl) rfl
      clear hp hq
      go_simp
      exact hK _ _ (RelB.refl _) rfl
    · refine opR_mk rfl fun aa W2 hB hp hq K hK => ?_
      have e17 : aa.tmps[17]?.getD undef = .pointer (some ⟨g, k * 2, none⟩) := hq 10 _ (by kernel_rfl) rfl
      clear hp hq
      go_simp
      exact hK _ _ (RelB.refl _) rfl
    · refine opR_mk rfl fun aa W2 hB hp hq K hK => ?_
      have e18 : aa.tmps[18]?.getD undef = .pointer (some ⟨g, k * 2 + 1, none⟩) := hq 11 _ (by kernel_rfl) rfl
      have cc := (cell_old hB hgl).trans cy1
      clear hp hq
      go_simp
      exact hK _ _ (RelB.refl _) rfl
    · refine opR_mk rfl fun aa W2 hB hp hq K hK => ?_
      have e19 : aa.tmps[19]?.getD undef = .slice (some ⟨(fAt l k).q, (fAt l k).o, none⟩) (fAt l k).n (fAt l k).cap := hq 12 _ (by kernel_rfl) rfl
      clear hp hq
      go_simp
      exact hK _ _ (RelB.refl _) rfl
    · refine opR_mk rfl fun aa W2 hB hp hq K hK => ?_
      have e20 : aa.tmps[20]?.getD undef = .pointer (some ⟨(fAt l k).q, (fAt l k).o, none⟩) := hq 13 _ (by kernel_rfl) rfl
      clear hp hq
      go_simp
      exact hK _ _ (RelB.refl _) rfl
    · refine opR_mk rfl fun aa W2 hB hp hq K hK => ?_
      have e21 : aa.tmps[21]?.getD undef = .pointer (some ⟨(fAt l k).q, (fAt l k).o, none⟩) := hq 14 _ (by kernel_rfl) rfl
      have cc := (cell_old hB hgk).trans k4
      clear hp hq
      go_simp
      exact hK _ _ (RelB.refl _) rfl
    · refine opR_mk rfl fun aa W2 hB hp hq K hK => ?_
      have e14 : aa.tmps[14]?.getD undef = .int .u64 (fAt l i).s := hq 7 _ (by kernel_rfl) rfl
      have e22 : aa.tmps[22]?.getD undef = .int .u64 (fAt l k).s := hq 15 _ (by kernel_rfl) rfl
      clear hp hq
      go_simp
      refine (u_compare _ _ W2).mono ?_
      rintro e w2 ⟨rfl, rfl⟩
      exact hK _ _ (RelB.refl _) rfl
    · refine opR_mk rfl fun aa W2 hB hp hq K hK => ?_
      have e0 : aa.tmps[0]?.getD undef = .slice (some ⟨g, 0, none⟩) n c := hp 0 (by kernel_rfl)
      clear hp hq
      go_simp
      exact hK _ _ (RelB.refl _) rfl
    · refine opR_mk rfl fun aa W2 hB hp hq K hK => ?_
      have e1 : aa.tmps[1]?.getD undef = .int .i64 (i : Int) := hp 1 (by kernel_rfl)
      clear hp hq
      go_simp
      exact hK _ _ (RelB.refl _) rfl
    · refine opR_mk rfl fun aa W2 hB hp hq K hK => ?_
      have e24 : aa.tmps[24]?.getD undef = .slice (some ⟨g, 0, none⟩) n c := hq 17 _ (by kernel_rfl) rfl
      have e25 : aa.tmps[25]?.getD undef = .int .i64 (i : Int) := hq 18 _ (by kernel_rfl) rfl
      clear hp hq
      go_simp
      exact hK _ _ (RelB.refl _) rfl
    · refine opR_mk rfl fun aa W2 hB hp hq K hK => ?_
      have e26 : aa.tmps[26]?.getD undef = .pointer (some ⟨g, i * 2, none⟩) := hq 19 _ (by kernel_rfl) rfl
      clear hp hq
      go_simp
      exact hK _ _ (RelB.refl _) rfl
    · refine opR_mk rfl fun aa W2 hB hp hq K hK => ?_
      have e27 : aa.tmps[27]?.getD undef = .pointer (some ⟨g, i * 2, none⟩) := hq 20 _ (by kernel_rfl) rfl
      have cc := (cell_old hB hgl).trans cx
      clear hp hq
      go_simp
      exact hK _ _ (RelB.refl _) rfl
    · refine opR_mk rfl fun aa W2 hB hp hq K hK => ?_
      have e0 : aa.tmps[0]?.getD undef = .slice (some ⟨g, 0, none⟩) n c := hp 0 (by kernel_rfl)
      clear hp hq
      go_simp
      exact hK _ _ (RelB.refl _) rfl
    · refine opR_mk rfl fun aa W2 hB hp hq K hK => ?_
      have e2 : aa.tmps[2]?.getD undef = .int .i64 (k : Int) := hp 2 (by kernel_rfl)
      clear hp hq
      go_simp
      exact hK _ _ (RelB.refl _) rfl
    · refine opR_mk rfl fun aa W2 hB hp hq K hK => ?_
      have e29 : aa.tmps[29]?.getD undef = .slice (some ⟨g, 0, none⟩) n c := hq 22 _ (by kernel_rfl) rfl
      have e30 : aa.tmps[30]?.getD undef = .int .i64 (k : Int) := hq 23 _ (by kernel_rfl) rfl
      clear hp hq
      go_simp
      exact hK _ _ (RelB.refl _) rfl
    · refine opR_mk rfl fun aa W2 hB hp hq K hK => ?_
      have e31 : aa.tmps[31]?.getD undef = .pointer (some ⟨g, k * 2, none⟩) := hq 24 _ (by kernel_rfl) rfl
      clear hp hq
      go_simp
      exact hK _ _ (RelB.refl _) rfl
    · refine opR_mk rfl fun aa W2 hB hp hq K hK => ?_
      have e32 : aa.tmps[32]?.getD undef = .pointer (some ⟨g, k * 2, none⟩) := hq 25 _ (by kernel_rfl) rfl
      have cc := (cell_old hB hgl).trans cy
      clear hp hq
      go_simp
      exact hK _ _ (RelB.refl _) rfl
    · refine opR_mk rfl fun aa W2 hB hp hq K hK => ?_
      have e28 : aa.tmps[28]?.getD undef = .int .i64 ((fAt l i).c : Int) := hq 21 _ (by kernel_rfl) rfl
      have e33 : aa.tmps[33]?.getD undef = .int .i64 ((fAt l k).c : Int) := hq 26 _ (by kernel_rfl) rfl
      clear hp hq
      go_simp
      refine (i_compare _ _ W2).mono ?_
      rintro e w2 ⟨rfl, rfl⟩
      exact hK _ _ (RelB.refl _) rfl
    · refine opR_mk rfl fun aa W2 hB hp hq K hK => ?_
      have e23 : aa.tmps[23]?.getD undef = .int .i64 (cmpZ (fAt l i).s (fAt l k).s) := hq 16 _ (by kernel_rfl) rfl
      have e34 : aa.tmps[34]?.getD undef = .int .i64 (cmpZ ((fAt l i).c : Int) ((fAt l k).c : Int)) := hq 27 _ (by kernel_rfl) rfl
      clear hp hq
      go_simp
      exact hK _ _ (RelB.of (below_a1' W2 _)) ⟨W2.heap.size, rfl, heap_alloc_new _ _⟩
    · refine opR_mk rfl fun aa W2 hB hp hq K hK => ?_
      obtain ⟨B, e35, hB2⟩ := hq 28 _ (by kernel_rfl) rfl
      have e35 : aa.tmps[35]?.getD undef = .slice (some ⟨B, 0, none⟩) 2 2 := e35
      clear hp hq
      go_simp
      refine (t_orI _ _ B W2 hB2).mono ?_
      rintro e w2 ⟨rfl, hb2⟩
      exact hK _ _ (RelB.of hb2) rfl
    · refine opR_mk rfl fun aa W2 hB hp hq K hK => ?_
      have e36 : aa.tmps[36]?.getD undef = .int .i64 (orZ (cmpZ (fAt l i).s (fAt l k).s) (cmpZ ((fAt l i).c : Int) ((fAt l k).c : Int))) := hq 29 _ (by kernel_rfl) rfl
      clear hp hq
      go_simp
      exact hK _ _ (RelB.refl _) rfl
    · refine opR_mk rfl fun aa W2 hB hp hq K hK => ?_
      have e37 : aa.tmps[37]?.getD undef = .bool (decide ((orZ (cmpZ (fAt l i).s (fAt l k).s) (cmpZ ((fAt l i).c : Int) ((fAt l k).c : Int))) < 0)) := hq 30 _ (by kernel_rfl) rfl
      clear hp hq
      go_simp
      exact hK _ _ (RelB.refl _) rfl
  · intro vs W3 hB3 hv3 _
    have v31 : vs 31 = .bool (decide ((orZ (cmpZ (fAt l i).s (fAt l k).s) (cmpZ ((fAt l i).c : Int) ((fAt l k).c : Int))) < 0)) := hv3 31 _ rfl rfl
    have HB3 := Lib.hid hB3
    clear hB3 hv3
    simp only [List.take_succ_cons, List.take_zero, putAll, Act.put, List.setIfInBounds_toArray, List.set_cons_succ, List.set_cons_zero, Nat.zero_add, Nat.reduceAdd, v31]
    go_wp2
    go_ret
    exact ⟨by rw [cmp_lt]; rfl, HB3.out⟩
set_option maxRecDepth 100000 in
set_option maxHeartbeats 4000000 in
theorem t_fSwap (K : Nat → Prop) (n c : Nat) (A : Option Addr) (l : List Fr) (i k : Nat) (w : World) (h : OwnF w K (.slice A n c) n l) (hi : i < n) (hk : k < n) (hik : i < k) (hn : n ≤ 60000) :
    Calls Tryz.prog 230 #[.slice A n c, .int .i64 (i : Int), .int .i64 (k : Int)] w fun e w' => e = .returned (.tuple #[]) ∧ OwnF w' K (.slice A n c) n ((l.set i (fAt l k)).set k (fAt l i)) ∧ Stays K w w' := by
  obtain ⟨g, rfl, hg, hl, cx, cx1, fx⟩ := fr_cell h hi
  obtain ⟨_, hgg, _, _, cy, cy1, fy⟩ := fr_cell h hk
  cases hgg
  have fx0 : w.frozen? ⟨g, i * 2, none⟩ = false := fx _
  have fx1 : w.frozen? ⟨g, i * 2 + 1, none⟩ = false := fx _
  have fy0 : w.frozen? ⟨g, k * 2, none⟩ = false := fx _
  have fy1 : w.frozen? ⟨g, k * 2 + 1, none⟩ = false := fx _
  have s1 := (h.1.stored (i * 2) (.int .i64 ((fAt l k).c : Int))).1
  have s2 := (s1.stored (i * 2 + 1) (.slice (some ⟨(fAt l k).q, (fAt l k).o, none⟩) (fAt l k).n (fAt l k).cap)).1
  rw [← frV_set] at s2
  have s3 := (s2.stored (k * 2) (.int .i64 ((fAt l i).c : Int))).1
  have s4 := (s3.stored (k * 2 + 1) (.slice (some ⟨(fAt l i).q, (fAt l i).o, none⟩) (fAt l i).n (fAt l i).cap)).1
  rw [← frV_set] at s4
  have HP : Hid (OwnF _ K _ n ((l.set i (fAt l k)).set k (fAt l i))) := ⟨s4, h.2⟩
  have hne : ∀ b, K b → b ≠ g := fun b hb e => hg (e ▸ hb)
  have HO : Hid (∀ q, Stays K w (World.drewN (((((w.setCell ⟨g, i * 2, none⟩ (.int .i64 ((fAt l k).c : Int))).setCell ⟨g, i * 2 + 1, none⟩ (.slice (some ⟨(fAt l k).q, (fAt l k).o, none⟩) (fAt l k).n (fAt l k).cap)).setCell ⟨g, k * 2, none⟩ (.int .i64 ((fAt l i).c : Int))).setCell ⟨g, k * 2 + 1, none⟩ (.slice (some ⟨(fAt l i).q, (fAt l i).o, none⟩) (fAt l i).n (fAt l i).cap))) q)) := fun q =>
    ⟨rfl, rfl, rfl, by simp, fun b hb => by
      show (World.setCell _ _ _).heap[b]? = _
      rw [heap_setCell_other _ ⟨g, _, none⟩ b _ (hne b hb), heap_setCell_other _ ⟨g, _, none⟩ b _ (hne b hb), heap_setCell_other _ ⟨g, _, none⟩ b _ (hne b hb), heap_setCell_other _ ⟨g, _, none⟩ b _ (hne b hb)]⟩
  have hi2 : (i : Int) < (n : Int) := by omega
  have hk2 : (k : Int) < (n : Int) := by omega
  have n1 : ¬ i * 2 = k * 2 := by omega
  have n2 : ¬ i * 2 + 1 = k * 2 := by omega
  have n3 : ¬ i * 2 = k * 2 + 1 := by omega
  have n4 : ¬ i * 2 + 1 = k * 2 + 1 := by omega
  have n5 : ¬ i = k := by omega
  clear h fx fy s1 s2 s3 s4
  go_enter Tryz.func230, Tryz.ntmps230
  go_wp2
  go_region
  all_goals go_wp2
  go_end0
  exact ⟨rfl, HP.out, HO.out 1⟩
end Go.Proofs.YtehckjkihaalfaaGreat
