/- A heap of fronts, in plain words. -/
import Derived.Test.YtehckjkihaalfaaGreatEB
namespace Go.Proofs.YtehckjkihaalfaaGreat
open Go.RowKit Go.Maps

/-- What is left of a core's row: where it begins, how many there are, and the first one's stamp. -/
structure Fr where
  c : Nat
  q : Nat
  o : Nat
  n : Nat
  cap : Nat
  s : Int
instance : Inhabited Fr := ⟨⟨0, 0, 0, 0, 0, 0⟩⟩
def frLt (a b : Fr) : Prop := a.s < b.s ∨ (a.s = b.s ∧ a.c < b.c)
instance (a b : Fr) : Decidable (frLt a b) := inferInstanceAs (Decidable (_ ∨ _))
theorem frLt_asym {a b : Fr} (h : frLt a b) : ¬ frLt b a := by unfold frLt at *; omega
theorem frLt_trans {a b c : Fr} (h : frLt a b) (k : frLt b c) : frLt a c := by unfold frLt at *; omega
theorem frGe_trans {a b c : Fr} (h : ¬ frLt a b) (k : ¬ frLt b c) : ¬ frLt a c := by unfold frLt at *; omega
theorem frLt_of {a b c : Fr} (h : frLt a b) (k : ¬ frLt c b) : frLt a c := by unfold frLt at *; omega
/-- Two places changed. -/
def swapF (f : Nat → Fr) (i j : Nat) : Nat → Fr := fun m => if m = j then f i else if m = i then f j else f m
def par (k : Nat) : Nat := (k - 1) / 2
def HeapF (f : Nat → Fr) (n : Nat) : Prop := ∀ k, 1 ≤ k → k < n → ¬ frLt (f k) (f (par k))
def UpInv (f : Nat → Fr) (n i : Nat) : Prop := (∀ k, 1 ≤ k → k < n → k ≠ i → ¬ frLt (f k) (f (par k))) ∧ ∀ k, 1 ≤ k → k < n → par k = i → 1 ≤ i → ¬ frLt (f k) (f (par i))
def DownInv (f : Nat → Fr) (n i : Nat) : Prop := (∀ k, 1 ≤ k → k < n → par k ≠ i → ¬ frLt (f k) (f (par k))) ∧ ∀ k, 1 ≤ k → k < n → par k = i → 1 ≤ i → ¬ frLt (f k) (f (par i))
theorem UpInv.stop {f : Nat → Fr} {n i : Nat} (h : UpInv f n i) (hi : i = 0 ∨ ¬ frLt (f i) (f (par i))) : HeapF f n := fun k h1 h2 => by
  by_cases e : k = i
  · subst e
    rcases hi with hi | hi
    · omega
    · exact hi
  · exact h.1 k h1 h2 e
theorem par_lt {k : Nat} (h : 1 ≤ k) : par k < k := by unfold par; omega
theorem UpInv.step {f : Nat → Fr} {n i : Nat} (h : UpInv f n i) (h1 : 1 ≤ i) (h2 : i < n) (hl : frLt (f i) (f (par i))) : UpInv (swapF f (par i) i) n (par i) := by
  have hp := par_lt h1
  have gp : swapF f (par i) i (par i) = f i := by unfold swapF; rw [if_neg (by omega), if_pos rfl]
  have gi : swapF f (par i) i i = f (par i) := by unfold swapF; rw [if_pos rfl]
  have go : ∀ m, m ≠ i → m ≠ par i → swapF f (par i) i m = f m := fun m a b => by unfold swapF; rw [if_neg a, if_neg b]
  refine ⟨fun k k1 k2 k3 => ?_, fun k k1 k2 k3 k4 => ?_⟩
  · by_cases e : k = i
    · subst e
      rw [gi, gp]
      exact frLt_asym hl
    · rw [go k e k3]
      by_cases e2 : par k = i
      · rw [e2, gi]
        exact h.2 k k1 k2 e2 h1
      · by_cases e3 : par k = par i
        · rw [e3, gp]
          have h4 := h.1 k k1 k2 e
          rw [e3] at h4
          exact fun hh => h4 (frLt_trans hh hl)
        · rw [go _ e2 e3]
          exact h.1 k k1 k2 e
  · have hpp := par_lt k4
    rw [go (par (par i)) (by omega) (by omega)]
    have hb := h.1 (par i) k4 (by omega) (by omega)
    by_cases e : k = i
    · subst e
      rw [gi]
      exact hb
    · rw [go k e (by have := par_lt k1; omega)]
      have h4 := h.1 k k1 k2 e
      rw [k3] at h4
      exact frGe_trans h4 hb
theorem DownInv.step {f : Nat → Fr} {n i j : Nat} (h : DownInv f n i) (h1 : 1 ≤ j) (h2 : j < n) (hj : par j = i) (hm : ∀ k, 1 ≤ k → k < n → par k = i → ¬ frLt (f k) (f j)) (hl : frLt (f j) (f i)) : DownInv (swapF f i j) n j := by
  have hp := par_lt h1
  have gp : swapF f i j i = f j := by unfold swapF; rw [if_neg (by omega), if_pos rfl]
  have gi : swapF f i j j = f i := by unfold swapF; rw [if_pos rfl]
  have go : ∀ m, m ≠ j → m ≠ i → swapF f i j m = f m := fun m a b => by unfold swapF; rw [if_neg a, if_neg b]
  refine ⟨fun k k1 k2 k3 => ?_, fun k k1 k2 k3 k4 => ?_⟩
  · by_cases e : par k = i
    · rw [e, gp]
      by_cases e2 : k = j
      · subst e2
        rw [gi]
        exact frLt_asym hl
      · rw [go k e2 (by have := par_lt k1; omega)]
        exact hm k k1 k2 e
    · have h3 := h.1 k k1 k2 e
      rw [go (par k) k3 e]
      by_cases e2 : k = j
      · rw [e2] at e
        exact absurd hj e
      · by_cases e3 : k = i
        · subst e3
          rw [gp]
          exact h.2 j h1 h2 hj k1
        · rw [go k e2 e3]
          exact h3
  · rw [hj, gp]
    have hk := par_lt k1
    rw [go k (by omega) (by omega)]
    have h3 := h.1 k k1 k2 (by omega)
    rwa [k3] at h3
theorem DownInv.stop {f : Nat → Fr} {n i : Nat} (h : DownInv f n i) (hm : ∀ k, 1 ≤ k → k < n → par k = i → ¬ frLt (f k) (f i)) : HeapF f n := fun k k1 k2 => by
  by_cases e : par k = i
  · rw [e]
    exact hm k k1 k2 e
  · exact h.1 k k1 k2 e
theorem HeapF.least {f : Nat → Fr} {n : Nat} (h : HeapF f n) (k : Nat) (hk : k < n) : ¬ frLt (f k) (f 0) := by
  induction k using Nat.strongRecOn with
  | _ k ih =>
    by_cases e : k = 0
    · subst e
      exact fun hh => frLt_asym hh hh
    · have hp := par_lt (k := k) (by omega)
      exact frGe_trans (h k (by omega) hk) (ih (par k) hp (by omega))
/-- The list's places. -/
def fAt (l : List Fr) (k : Nat) : Fr := l[k]?.getD default
def HeapL (l : List Fr) : Prop := HeapF (fAt l) l.length
theorem fAt_eq {l : List Fr} {k : Nat} {e : Fr} (h : l[k]? = some e) : fAt l k = e := by unfold fAt; rw [h]; rfl
theorem fAt_set {l : List Fr} {i j : Nat} (hi : i < l.length) (hj : j < l.length) : fAt ((l.set i (fAt l j)).set j (fAt l i)) = swapF (fAt l) i j := by
  funext m
  unfold swapF
  by_cases e : m = j
  · subst e
    rw [if_pos rfl]
    apply fAt_eq
    rw [List.getElem?_set_self (by simpa using hj)]
  · rw [if_neg e]
    by_cases e2 : m = i
    · subst e2
      rw [if_pos rfl]
      apply fAt_eq
      rw [List.getElem?_set_ne (fun h => e h.symm), List.getElem?_set_self hi]
    · rw [if_neg e2]
      unfold fAt
      rw [List.getElem?_set_ne (fun h => e h.symm), List.getElem?_set_ne (fun h => e2 h.symm)]
theorem fAt_get {l : List Fr} {k : Nat} (h : k < l.length) : l[k]? = some (fAt l k) := by unfold fAt; rw [List.getElem?_eq_getElem h]; rfl
theorem fAt_mem {l : List Fr} {k : Nat} (h : k < l.length) : fAt l k ∈ l := List.mem_of_getElem? (fAt_get h)
theorem HeapF.congr {f g : Nat → Fr} {n : Nat} (h : HeapF f n) (hg : ∀ k, k < n → g k = f k) : HeapF g n := fun k h1 h2 => by
  rw [hg k h2, hg (par k) (by have := par_lt h1; omega)]
  exact h k h1 h2
theorem UpInv.push {l : List Fr} (h : HeapL l) (e : Fr) : UpInv (fAt (l ++ [e])) (l.length + 1) l.length := by
  have hg : ∀ k, k < l.length → fAt (l ++ [e]) k = fAt l k := fun k hk => by unfold fAt; rw [List.getElem?_append_left hk]
  refine ⟨fun k h1 h2 h3 => ?_, fun k h1 h2 h3 _ => ?_⟩
  · have := par_lt h1
    rw [hg k (by omega), hg (par k) (by omega)]
    exact h k h1 (by omega)
  · have := par_lt h1
    omega
/-- With another root. -/
theorem DownInv.root {f : Nat → Fr} {n : Nat} (h : ∀ k, 1 ≤ k → k < n → par k ≠ 0 → ¬ frLt (f k) (f (par k))) : DownInv f n 0 := ⟨h, fun _ _ _ _ h0 => by omega⟩
theorem HeapL.least {e : Fr} {l : List Fr} (h : HeapL (e :: l)) : ∀ x ∈ e :: l, ¬ frLt x e := fun x hx => by
  obtain ⟨k, hk, rfl⟩ := List.getElem_of_mem hx
  have h1 := HeapF.least h k hk
  rwa [fAt_eq (List.getElem?_eq_getElem hk), fAt_eq (l := e :: l) (k := 0) rfl] at h1
/-- Two lists that differ in nothing but their order, below m. -/
theorem HeapL.nil : HeapL [] := fun k _ h2 => by simp at h2
theorem fAt_cons0 (e : Fr) (l : List Fr) : fAt (e :: l) 0 = e := rfl
theorem fAt_cons (e : Fr) (l : List Fr) (k : Nat) : fAt (e :: l) (k + 1) = fAt l k := rfl
/-- The root is another one. -/
theorem DownInv.cons {e e' : Fr} {l : List Fr} (h : HeapL (e :: l)) : DownInv (fAt (e' :: l)) (l.length + 1) 0 := DownInv.root fun k h1 h2 h3 => by
  have h4 := h k h1 h2
  obtain ⟨k, rfl⟩ : ∃ q, k = q + 1 := ⟨k - 1, by omega⟩
  obtain ⟨p, hp⟩ : ∃ q, par (k + 1) = q + 1 := ⟨par (k + 1) - 1, by omega⟩
  rw [hp] at h4 ⊢
  exact h4
/-- The last one at the root's place. -/
theorem DownInv.last {e e' : Fr} {l : List Fr} (h : HeapL (e :: l)) : DownInv (fAt (((e' :: l).set 0 (fAt (e' :: l) l.length)).set l.length e')) l.length 0 := DownInv.root fun k h1 h2 h3 => by
  have hp := par_lt h1
  have h4 := h k h1 (by simp; omega)
  have hg : ∀ m, 1 ≤ m → m < l.length → fAt (((e' :: l).set 0 (fAt (e' :: l) l.length)).set l.length e') m = fAt (e :: l) m := fun m a b => by
    obtain ⟨m, rfl⟩ : ∃ q, m = q + 1 := ⟨m - 1, by omega⟩
    unfold fAt
    rw [List.getElem?_set_ne (by omega), List.getElem?_set_ne (by omega)]
    rfl
  rw [hg k h1 h2, hg (par k) (by omega) (by omega)]
  exact h4
end Go.Proofs.YtehckjkihaalfaaGreat

/- The heap of fronts, walked. -/
namespace Go.Proofs.YtehckjkihaalfaaGreat
open Go.RowKit Go.Maps

/-- A front's cells. -/
def Fr.cells (e : Fr) : List Value := [.int .i64 (e.c : Int), .slice (some ⟨e.q, e.o, none⟩) e.n e.cap]
def frV (l : List Fr) : List Value := l.flatMap Fr.cells
/-- Its first record stands in one of the blocks K. -/
def FrOk (w : World) (K : Nat → Prop) (e : Fr) : Prop := (1 ≤ e.n → w.cell? ⟨e.q, e.o, none⟩ = some (.int .u64 e.s)) ∧ K e.q
def OwnF (w : World) (K : Nat → Prop) (v : Value) (n : Nat) (l : List Fr) : Prop := w.ownsRow 0 91 2 v n (frV l) ∧ ∀ q, v.ownBlock = some q → ¬ K q
theorem OwnF.below {w w' : World} {K : Nat → Prop} {v : Value} {n : Nat} {l : List Fr} (h : OwnF w K v n l) (hb : Below w.heap.size w w') : OwnF w' K v n l := ⟨row_below h.1 hb, h.2⟩
theorem FrOk.below {w w' : World} {K : Nat → Prop} {e : Fr} (h : FrOk w K e) (hb : Below w.heap.size w w') (hG : ∀ b, K b → b < w.heap.size) : FrOk w' K e := ⟨fun hn => (World.cell?_of_block (a := ⟨e.q, e.o, none⟩) (hb.block _ (hG _ h.2))).trans (h.1 hn), h.2⟩
theorem frV_len (l : List Fr) : (frV l).length = l.length * 2 := by
  induction l with
  | nil => rfl
  | cons e l ih => unfold frV at *; simp [Fr.cells, ih]; omega
theorem frV_append (l m : List Fr) : frV (l ++ m) = frV l ++ frV m := by unfold frV; rw [List.flatMap_append]
theorem frV_get0 (l : List Fr) (k : Nat) (h : k < l.length) : (frV l)[k * 2]? = some (.int .i64 ((fAt l k).c : Int)) := by
  induction l generalizing k with
  | nil => simp at h
  | cons e l ih =>
    cases k with
    | zero => rfl
    | succ k => 
      have := ih k (by simpa using h)
      rw [show (k + 1) * 2 = k * 2 + 1 + 1 by omega]
      unfold frV at *
      simpa [Fr.cells, fAt_cons] using this
theorem frV_get1 (l : List Fr) (k : Nat) (h : k < l.length) : (frV l)[k * 2 + 1]? = some (.slice (some ⟨(fAt l k).q, (fAt l k).o, none⟩) (fAt l k).n (fAt l k).cap) := by
  induction l generalizing k with
  | nil => simp at h
  | cons e l ih =>
    cases k with
    | zero => rfl
    | succ k => 
      have := ih k (by simpa using h)
      rw [show (k + 1) * 2 + 1 = k * 2 + 1 + 1 + 1 by omega]
      unfold frV at *
      simpa [Fr.cells, fAt_cons] using this
/-- The cells of a front. -/
theorem fr_cell {w : World} {K : Nat → Prop} {n c k : Nat} {A : Option Addr} {l : List Fr} (h : OwnF w K (.slice A n c) n l) (hk : k < n) :
    ∃ g, A = some ⟨g, 0, none⟩ ∧ ¬ K g ∧ l.length = n ∧ w.cell? ⟨g, k * 2, none⟩ = some (.int .i64 ((fAt l k).c : Int)) ∧ w.cell? ⟨g, k * 2 + 1, none⟩ = some (.slice (some ⟨(fAt l k).q, (fAt l k).o, none⟩) (fAt l k).n (fAt l k).cap) ∧ ∀ j, w.frozen? ⟨g, j, none⟩ = false := by
  obtain ⟨g, hg⟩ : ∃ g, A = some ⟨g, 0, none⟩ := by
    rcases h.1.2 with ⟨h', h0⟩ | ⟨g', cap', cur, h', _⟩
    · omega
    · simp only [Value.slice.injEq] at h'
      exact ⟨g', h'.1⟩
  subst hg
  have hl : l.length = n := by have := h.1.1; rw [frV_len] at this; omega
  refine ⟨g, rfl, h.2 g rfl, hl, ?_, ?_, fun j => h.1.frozenAt _⟩
  · rw [h.1.cellAt (k * 2) (by omega), frV_get0 l k (by omega)]
  · rw [h.1.cellAt (k * 2 + 1) (by omega), frV_get1 l k (by omega)]
theorem frV_set (l : List Fr) (i : Nat) (e : Fr) : frV (l.set i e) = ((frV l).set (i * 2) (.int .i64 (e.c : Int))).set (i * 2 + 1) (.slice (some ⟨e.q, e.o, none⟩) e.n e.cap) := by
  induction l generalizing i with
  | nil => rfl
  | cons a l ih =>
    cases i with
    | zero => rfl
    | succ i =>
      have := ih i
      rw [show (i + 1) * 2 = i * 2 + 1 + 1 by omega]
      unfold frV at *
      simpa [Fr.cells] using this
/-- cmp.Compare. -/
def cmpZ (x y : Int) : Int := if x < y then -1 else if y < x then 1 else 0
def orZ (x y : Int) : Int := if x = 0 then y else x
theorem cmp_lt (a b : Fr) : decide (orZ (cmpZ a.s b.s) (cmpZ (a.c : Int) (b.c : Int)) < 0) = decide (frLt a b) := by
  apply decide_eq_decide.2
  unfold orZ cmpZ frLt
  split <;> split <;> (try split) <;> (try split) <;> omega
theorem cell_old {w W : World} {b j : Nat} (hB : RelB w W) (hb : b < w.heap.size) : W.cell? ⟨b, j, none⟩ = w.cell? ⟨b, j, none⟩ := World.cell?_of_block (a := ⟨b, j, none⟩) (Below.block hB b hb)
theorem cell_lt {w : World} {b j : Nat} {v : Value} (h : w.cell? ⟨b, j, none⟩ = some v) : b < w.heap.size := by
  rcases Nat.lt_or_ge b w.heap.size with hh | hh
  · exact hh
  · rw [show w.cell? ⟨b, j, none⟩ = none by simp only [World.cell?, Array.getElem?_eq_none hh]] at h
    cases h
theorem u_isNaN (x : Int) (w : World) : Calls Tryz.prog 234 #[.int .u64 x] w fun e w' => e = .returned (.bool false) ∧ w = w' := by
  go_enter Tryz.func234, Tryz.ntmps234
  go_wp2
  go_ret
  exact ⟨rfl, rfl⟩
theorem u_compare (x y : Int) (w : World) : Calls Tryz.prog 232 #[.int .u64 x, .int .u64 y] w fun e w' => e = .returned (.int .i64 (cmpZ x y)) ∧ w = w' := by
  rcases Int.lt_trichotomy x y with h | h | h
  · go_enter Tryz.func232, Tryz.ntmps232
    go_wp2_with (go_at_call 234; refine (u_isNaN _ _).mono ?_; rintro e w' ⟨rfl, rfl⟩)
    go_ret
    refine ⟨?_, rfl⟩
    unfold cmpZ
    rw [if_pos h]
    rfl
  · subst h
    go_enter Tryz.func232, Tryz.ntmps232
    go_wp2_with (go_at_call 234; refine (u_isNaN _ _).mono ?_; rintro e w' ⟨rfl, rfl⟩)
    go_ret
    refine ⟨?_, rfl⟩
    unfold cmpZ
    rw [if_neg (by omega), if_neg (by omega)]
    rfl
  · have h2 : ¬ x < y := by omega
    go_enter Tryz.func232, Tryz.ntmps232
    go_wp2_with (go_at_call 234; refine (u_isNaN _ _).mono ?_; rintro e w' ⟨rfl, rfl⟩)
    go_ret
    refine ⟨?_, rfl⟩
    unfold cmpZ
    rw [if_neg (by omega), if_pos h]
    rfl
theorem i_compare (x y : Int) (w : World) : Calls Tryz.prog 233 #[.int .i64 x, .int .i64 y] w fun e w' => e = .returned (.int .i64 (cmpZ x y)) ∧ w = w' := by
  rcases Int.lt_trichotomy x y with h | h | h
  · go_enter Tryz.func233, Tryz.ntmps233
    go_wp2_with (go_at_call 195; refine (i_isNaN _ _).mono ?_; rintro e w' ⟨rfl, rfl⟩)
    go_ret
    refine ⟨?_, rfl⟩
    unfold cmpZ
    rw [if_pos h]
    rfl
  · subst h
    go_enter Tryz.func233, Tryz.ntmps233
    go_wp2_with (go_at_call 195; refine (i_isNaN _ _).mono ?_; rintro e w' ⟨rfl, rfl⟩)
    go_ret
    refine ⟨?_, rfl⟩
    unfold cmpZ
    rw [if_neg (by omega), if_neg (by omega)]
    rfl
  · have h2 : ¬ x < y := by omega
    go_enter Tryz.func233, Tryz.ntmps233
    go_wp2_with (go_at_call 195; refine (i_isNaN _ _).mono ?_; rintro e w' ⟨rfl, rfl⟩)
    go_ret
    refine ⟨?_, rfl⟩
    unfold cmpZ
    rw [if_neg (by omega), if_pos h]
    rfl
set_option maxRecDepth 100000 in
set_option maxHeartbeats 4000000 in
theorem t_orI (x y : Int) (B : Nat) (w : World) (h : w.heap[B]? = some (.cells #[.int .i64 x, .int .i64 y] 3 (0, 0))) :
    Calls Tryz.prog 231 #[.slice (some ⟨B, 0, none⟩) 2 2] w fun e w' => e = .returned (.int .i64 (orZ x y)) ∧ Below w.heap.size w w' := by
  have c0 : w.cell? ⟨B, 0, none⟩ = some (.int .i64 x) := by simp only [World.cell?, h]; rfl
  have c1 : w.cell? ⟨B, 1, none⟩ = some (.int .i64 y) := by simp only [World.cell?, h]; rfl
  clear h
  by_cases h0 : x = 0
  · subst h0
    have HE : Hid (orZ 0 y = y) := if_pos rfl
    rw [HE.out]
    go_enter Tryz.func231, Tryz.ntmps231
    go_wp2
    go_loopw [8] (fun x wr => ∃ i : Nat, x = .int .i64 (i : Int) ∧ i ≤ 2 ∧ (i = 2 → y = 0) ∧ wr = w) (fun x _ => 2 - (intOf x).toNat)
    case atStart => exact ⟨0, rfl, by omega, by omega, rfl⟩
    case round =>
      obtain ⟨i, rfl, hi, hy, rfl⟩ := hrel
      rcases (by omega : i = 0 ∨ i = 1 ∨ i = 2) with rfl | rfl | rfl
      · go_wp2
        go_roundw
        case rel => exact ⟨1, rfl, by simp⟩
        case measure => simp only [intOf]; omega
      · by_cases h1 : y = 0
        · subst h1
          go_wp2
          go_roundw
          case rel => exact ⟨2, rfl, by simp⟩
          case measure => simp only [intOf]; omega
        · have h2 : (y != 0) = true := by simpa using h1
          clear hy
          go_wp2
          go_ret
          exact ⟨rfl, Below.refl _ _⟩
      · obtain rfl := hy rfl
        go_wp2
        go_ret
        exact ⟨rfl, Below.refl _ _⟩
  · have HE : Hid (orZ x y = x) := if_neg h0
    rw [HE.out]
    have h2 : (x != 0) = true := by simpa using h0
    go_enter Tryz.func231, Tryz.ntmps231
    go_wp2
    go_loopw [8] (fun x wr => x = .int .i64 0 ∧ wr = w) (fun x _ => 2 - (intOf x).toNat)
    case atStart => exact ⟨rfl, rfl⟩
    case round =>
      obtain ⟨rfl, rfl⟩ := hrel
      go_wp2
      go_ret
      exact ⟨rfl, Below.refl _ _⟩
set_option maxRecDepth 100000 in
set_option maxHeartbeats 4000000 in
theorem t_fLess (K : Nat → Prop) (n c : Nat) (A : Option Addr) (l : List Fr) (i k : Nat) (w : World) (h : OwnF w K (.slice A n c) n l) (hf : ∀ e ∈ l, FrOk w K e) (hi : i < n) (hk : k < n) (hn1 : 1 ≤ (fAt l i).n) (hn2 : 1 ≤ (fAt l k).n) (hn : n ≤ 60000) :
    Calls Tryz.prog 229 #[.slice A n c, .int .i64 (i : Int), .int .i64 (k : Int)] w fun e w' => e = .returned (.bool (decide (frLt (fAt l i) (fAt l k)))) ∧ Below w.heap.size w w' := by
  obtain ⟨g, rfl, hg, hl, cx, cx1, fx⟩ := fr_cell h hi
  obtain ⟨_, hgg, _, _, cy, cy1, fy⟩ := fr_cell h hk
  cases hgg
  obtain ⟨k1, k2⟩ := hf _ (fAt_mem (l := l) (k := i) (by omega))
  obtain ⟨k4, k5⟩ := hf _ (fAt_mem (l := l) (k := k) (by omega))
  replace k1 := k1 hn1
  replace k4 := k4 hn2
  have hgl := cell_lt cx
  have hgi := cell_lt k1
  have hgk := cell_lt k4
  have k3' : 0 < (fAt l i).n := by omega
  have k6' : 0 < (fAt l k).n := by omega
  clear h fx fy hf
  have hi2 : (i : Int) < (n : Int) := by omega
  have hk2 : (k : Int) < (n : Int) := by omega
  go_enter Tryz.func229, Tryz.ntmps229
  go_wp2
  refine wp_region_rel RelB (phi [isV (.slice (some ⟨g, 0, none⟩) n c), isV (.int .i64 (i : Int)), isV (.pointer (some ⟨g, i * 2, none⟩)), isV (.pointer (some ⟨g, i * 2 + 1, none⟩)), isV (.slice (some ⟨(fAt l i).q, (fAt l i).o, none⟩) (fAt l i).n (fAt l i).cap), isV (.pointer (some ⟨(fAt l i).q, (fAt l i).o, none⟩)), isV (.pointer (some ⟨(fAt l i).q, (fAt l i).o, none⟩)), isV (.int .u64 (fAt l i).s), isV (.slice (some ⟨g, 0, none⟩) n c), isV (.int .i64 (k : Int)), isV (.pointer (some ⟨g, k * 2, none⟩)), isV (.pointer (some ⟨g, k * 2 + 1, none⟩)), isV (.slice (some ⟨(fAt l k).q, (fAt l k).o, none⟩) (fAt l k).n (fAt l k).cap), isV (.pointer (some ⟨(fAt l k).q, (fAt l k).o, none⟩)), isV (.pointer (some ⟨(fAt l k).q, (fAt l k).o, none⟩)), isV (.int .u64 (fAt l k).s), isV (.int .i64 (cmpZ (fAt l i).s (fAt l k).s)), isV (.slice (some ⟨g, 0, none⟩) n c), isV (.int .i64 (i : Int)), isV (.pointer (some ⟨g, i * 2, none⟩)), isV (.pointer (some ⟨g, i * 2, none⟩)), isV (.int .i64 ((fAt l i).c : Int)), isV (.slice (some ⟨g, 0, none⟩) n c), isV (.int .i64 (k : Int)), isV (.pointer (some ⟨g, k * 2, none⟩)), isV (.pointer (some ⟨g, k * 2, none⟩)), isV (.int .i64 ((fAt l k).c : Int)), isV (.int .i64 (cmpZ ((fAt l i).c : Int) ((fAt l k).c : Int))), (fun v W => ∃ B, v = .slice (some ⟨B, 0, none⟩) 2 2 ∧ W.heap[B]? = some (.cells #[.int .i64 (cmpZ (fAt l i).s (fAt l k).s), .int .i64 (cmpZ ((fAt l i).c : Int) ((fAt l k).c : Int))] 3 (0, 0))), isV (.int .i64 (orZ (cmpZ (fAt l i).s (fAt l k).s) (cmpZ ((fAt l i).c : Int) ((fAt l k).c : Int)))), isV (.bool (decide ((orZ (cmpZ (fAt l i).s (fAt l k).s) (cmpZ ((fAt l i).c : Int) ((fAt l k).c : Int))) < 0))), isV (.bool (decide ((orZ (cmpZ (fAt l i).s (fAt l k).s) (cmpZ ((fAt l i).c : Int) ((fAt l k).c : Int))) < 0)))]) (by kernel_rfl) (by kernel_rfl) (by kernel_rfl) (RelB.of (below_drew _)) (fun _ _ _ a b => a.trans b) ?_ ?_ ?_
  · refine stays_phiR ?_
    simp only [List.forall_mem_cons]
    exact ⟨fun _ _ _ h _ => h, fun _ _ _ h _ => h, fun _ _ _ h _ => h, fun _ _ _ h _ => h, fun _ _ _ h _ => h, fun _ _ _ h _ => h, fun _ _ _ h _ => h, fun _ _ _ h _ => h, fun _ _ _ h _ => h, fun _ _ _ h _ => h, fun _ _ _ h _ => h, fun _ _ _ h _ => h, fun _ _ _ h _ => h, fun _ _ _ h _ => h, fun _ _ _ h _ => h, fun _ _ _ h _ => h, fun _ _ _ h _ => h, fun _ _ _ h _ => h, fun _ _ _ h _ => h, fun _ _ _ h _ => h, fun _ _ _ h _ => h, fun _ _ _ h _ => h, fun _ _ _ h _ => h, fun _ _ _ h _ => h, fun _ _ _ h _ => h, fun _ _ _ h _ => h, fun _ _ _ h _ => h, fun _ _ _ h _ => h, fun _ _ _ h hb => by obtain ⟨B, h1, h2⟩ := h; exact ⟨B, h1, RelB.rec hb h2⟩, fun _ _ _ h _ => h, fun _ _ _ h _ => h, fun _ _ _ h _ => h, fun _ h => absurd h (by simp)⟩
  · refine ⟨?_, ?_, ?_, ?_, ?_, ?_, ?_, ?_, ?_, ?_, ?_, ?_, ?_, ?_, ?_, ?_, ?_, ?_, ?_, ?_, ?_, ?_, ?_, ?_, ?_, ?_, ?_, ?_, ?_, ?_, ?_, ?_, trivial⟩
    · refine opR_mk rfl fun aa W2 hB hp hq K hK => ?_
      have e0 : aa.tmps[0]?.getD undef = .slice (some ⟨g, 0, none⟩) n c := hp 0 (by kernel_rfl)
      clear hp hq
      go_simp
      exact hK _ _ (RelB.refl _) rfl
    · refine opR_mk rfl fun aa W2 hB hp hq K hK => ?_
      have e1 : aa.tmps[1]?.getD undef = .int .i64 (i : Int) := hp 1 (by kernel_rfl)
      clear hp hq
      go_simp
      exact hK _ _ (RelB.refl _) rfl
    · refine opR_mk rfl fun aa W2 hB hp hq K hK => ?_
      have e7 : aa.tmps[7]?.getD undef = .slice (some ⟨g, 0, none⟩) n c := hq 0 _ (by kernel_rfl) rfl
      have e8 : aa.tmps[8]?.getD undef = .int .i64 (i : Int) := hq 1 _ (by kernel_rfl) rfl
      clear hp hq
      go_simp
      exact hK _ _ (RelB.refl _) rfl
    · refine opR_mk rfl fun aa W2 hB hp hq K hK => ?_
      have e9 : aa.tmps[9]?.getD undef = .pointer (some ⟨g, i * 2, none⟩) := hq 2 _ (by kernel_rfl) rfl
      clear hp hq
      go_simp
      exact hK _ _ (RelB.refl _) rfl
    · refine opR_mk rfl fun aa W2 hB hp hq K hK => ?_
      have e10 : aa.tmps[10]?.getD undef = .pointer (some ⟨g, i * 2 + 1, none⟩) := hq 3 _ (by kernel_rfl) rfl
      have cc := (cell_old hB hgl).trans cx1
      clear hp hq
      go_simp
      exact hK _ _ (RelB.refl _) rfl
    · refine opR_mk rfl fun aa W2 hB hp hq K hK => ?_
      have e11 : aa.tmps[11]?.getD undef = .slice (some ⟨(fAt l i).q, (fAt l i).o, none⟩) (fAt l i).n (fAt l i).cap := hq 4 _ (by kernel_rfl) rfl
      clear hp hq
      go_simp
      exact hK _ _ (RelB.refl _) rfl
    · refine opR_mk rfl fun aa W2 hB hp hq K hK => ?_
      have e12 : aa.tmps[12]?.getD undef = .pointer (some ⟨(fAt l i).q, (fAt l i).o, none⟩) := hq 5 _ (by kernel_rfl) rfl
      clear hp hq
      go_simp
      exact hK _ _ (RelB.refl _) rfl
    · refine opR_mk rfl fun aa W2 hB hp hq K hK => ?_
      have e13 : aa.tmps[13]?.getD undef = .pointer (some ⟨(fAt l i).q, (fAt l i).o, none⟩) := hq 6 _ (by kernel_rfl) rfl
      have cc := (cell_old hB hgi).trans k1
      clear hp hq
      go_simp
      exact hK _ _ (RelB.refl _) rfl
    · refine opR_mk rfl fun aa W2 hB hp hq K hK => ?_
      have e0 : aa.tmps[0]?.getD undef = .slice (some ⟨g, 0, none⟩) n c := hp 0 (by kernel_rfl)
      clear hp hq
      go_simp
      exact hK _ _ (RelB.refl _) rfl
    · refine opR_mk rfl fun aa W2 hB hp hq K hK => ?_
      have e2 : aa.tmps[2]?.getD undef = .int .i64 (k : Int) := hp 2 (by kernel_rfl)
      clear hp hq
      go_simp
      exact hK _ _ (RelB.refl _) rfl
    · refine opR_mk rfl fun aa W2 hB hp hq K hK => ?_
      have e15 : aa.tmps[15]?.getD undef = .slice (some ⟨g, 0, none⟩) n c := hq 8 _ (by kernel_rfl) rfl
      have e16 : aa.tmps[16]?.getD undef = .int .i64 (k : Int) := hq 9 _ (by kernel_rfl) rfl
      clear hp hq
      go_simp
      exact hK _ _ (RelB.refl _) rfl
    · refine opR_mk rfl fun aa W2 hB hp hq K hK => ?_
      have e17 : aa.tmps[17]?.getD undef = .pointer (some ⟨g, k * 2, none⟩) := hq 10 _ (by kernel_rfl) rfl
      clear hp hq
      go_simp
      exact hK _ _ (RelB.refl _) rfl
    · refine opR_mk rfl fun aa W2 hB hp hq K hK => ?_
      have e18 : aa.tmps[18]?.getD undef = .pointer (some ⟨g, k * 2 + 1, none⟩) := hq 11 _ (by kernel_rfl) rfl
      have cc := (cell_old hB hgl).trans cy1
      clear hp hq
      go_simp
      exact hK _ _ (RelB.refl _) rfl
    · refine opR_mk rfl fun aa W2 hB hp hq K hK => ?_
      have e19 : aa.tmps[19]?.getD undef = .slice (some ⟨(fAt l k).q, (fAt l k).o, none⟩) (fAt l k).n (fAt l k).cap := hq 12 _ (by kernel_rfl) rfl
      clear hp hq
      go_simp
      exact hK _ _ (RelB.refl _) rfl
    · refine opR_mk rfl fun aa W2 hB hp hq K hK => ?_
      have e20 : aa.tmps[20]?.getD undef = .pointer (some ⟨(fAt l k).q, (fAt l k).o, none⟩) := hq 13 _ (by kernel_rfl) rfl
      clear hp hq
      go_simp
      exact hK _ _ (RelB.refl _) rfl
    · refine opR_mk rfl fun aa W2 hB hp hq K hK => ?_
      have e21 : aa.tmps[21]?.getD undef = .pointer (some ⟨(fAt l k).q, (fAt l k).o, none⟩) := hq 14 _ (by kernel_rfl) rfl
      have cc := (cell_old hB hgk).trans k4
      clear hp hq
      go_simp
      exact hK _ _ (RelB.refl _) rfl
    · refine opR_mk rfl fun aa W2 hB hp hq K hK => ?_
      have e14 : aa.tmps[14]?.getD undef = .int .u64 (fAt l i).s := hq 7 _ (by kernel_rfl) rfl
      have e22 : aa.tmps[22]?.getD undef = .int .u64 (fAt l k).s := hq 15 _ (by kernel_rfl) rfl
      clear hp hq
      go_simp
      refine (u_compare _ _ W2).mono ?_
      rintro e w2 ⟨rfl, rfl⟩
      exact hK _ _ (RelB.refl _) rfl
    · refine opR_mk rfl fun aa W2 hB hp hq K hK => ?_
      have e0 : aa.tmps[0]?.getD undef = .slice (some ⟨g, 0, none⟩) n c := hp 0 (by kernel_rfl)
      clear hp hq
      go_simp
      exact hK _ _ (RelB.refl _) rfl
    · refine opR_mk rfl fun aa W2 hB hp hq K hK => ?_
      have e1 : aa.tmps[1]?.getD undef = .int .i64 (i : Int) := hp 1 (by kernel_rfl)
      clear hp hq
      go_simp
      exact hK _ _ (RelB.refl _) rfl
    · refine opR_mk rfl fun aa W2 hB hp hq K hK => ?_
      have e24 : aa.tmps[24]?.getD undef = .slice (some ⟨g, 0, none⟩) n c := hq 17 _ (by kernel_rfl) rfl
      have e25 : aa.tmps[25]?.getD undef = .int .i64 (i : Int) := hq 18 _ (by kernel_rfl) rfl
      clear hp hq
      go_simp
      exact hK _ _ (RelB.refl _) rfl
    · refine opR_mk rfl fun aa W2 hB hp hq K hK => ?_
      have e26 : aa.tmps[26]?.getD undef = .pointer (some ⟨g, i * 2, none⟩) := hq 19 _ (by kernel_rfl) rfl
      clear hp hq
      go_simp
      exact hK _ _ (RelB.refl _) rfl
    · refine opR_mk rfl fun aa W2 hB hp hq K hK => ?_
      have e27 : aa.tmps[27]?.getD undef = .pointer (some ⟨g, i * 2, none⟩) := hq 20 _ (by kernel_rfl) rfl
      have cc := (cell_old hB hgl).trans cx
      clear hp hq
      go_simp
      exact hK _ _ (RelB.refl _) rfl
    · refine opR_mk rfl fun aa W2 hB hp hq K hK => ?_
      have e0 : aa.tmps[0]?.getD undef = .slice (some ⟨g, 0, none⟩) n c := hp 0 (by kernel_rfl)
      clear hp hq
      go_simp
      exact hK _ _ (RelB.refl _) rfl
    · refine opR_mk rfl fun aa W2 hB hp hq K hK => ?_
      have e2 : aa.tmps[2]?.getD undef = .int .i64 (k : Int) := hp 2 (by kernel_rfl)
      clear hp hq
      go_simp
      exact hK _ _ (RelB.refl _) rfl
    · refine opR_mk rfl fun aa W2 hB hp hq K hK => ?_
      have e29 : aa.tmps[29]?.getD undef = .slice (some ⟨g, 0, none⟩) n c := hq 22 _ (by kernel_rfl) rfl
      have e30 : aa.tmps[30]?.getD undef = .int .i64 (k : Int) := hq 23 _ (by kernel_rfl) rfl
      clear hp hq
      go_simp
      exact hK _ _ (RelB.refl _) rfl
    · refine opR_mk rfl fun aa W2 hB hp hq K hK => ?_
      have e31 : aa.tmps[31]?.getD undef = .pointer (some ⟨g, k * 2, none⟩) := hq 24 _ (by kernel_rfl) rfl
      clear hp hq
      go_simp
      exact hK _ _ (RelB.refl _) rfl
    · refine opR_mk rfl fun aa W2 hB hp hq K hK => ?_
      have e32 : aa.tmps[32]?.getD undef = .pointer (some ⟨g, k * 2, none⟩) := hq 25 _ (by kernel_rfl) rfl
      have cc := (cell_old hB hgl).trans cy
      clear hp hq
      go_simp
      exact hK _ _ (RelB.refl _) rfl
    · refine opR_mk rfl fun aa W2 hB hp hq K hK => ?_
      have e28 : aa.tmps[28]?.getD undef = .int .i64 ((fAt l i).c : Int) := hq 21 _ (by kernel_rfl) rfl
      have e33 : aa.tmps[33]?.getD undef = .int .i64 ((fAt l k).c : Int) := hq 26 _ (by kernel_rfl) rfl
      clear hp hq
      go_simp
      refine (i_compare _ _ W2).mono ?_
      rintro e w2 ⟨rfl, rfl⟩
      exact hK _ _ (RelB.refl _) rfl
    · refine opR_mk rfl fun aa W2 hB hp hq K hK => ?_
      have e23 : aa.tmps[23]?.getD undef = .int .i64 (cmpZ (fAt l i).s (fAt l k).s) := hq 16 _ (by kernel_rfl) rfl
      have e34 : aa.tmps[34]?.getD undef = .int .i64 (cmpZ ((fAt l i).c : Int) ((fAt l k).c : Int)) := hq 27 _ (by kernel_rfl) rfl
      clear hp hq
      go_simp
      exact hK _ _ (RelB.of (below_a1' W2 _)) ⟨W2.heap.size, rfl, heap_alloc_new _ _⟩
    · refine opR_mk rfl fun aa W2 hB hp hq K hK => ?_
      obtain ⟨B, e35, hB2⟩ := hq 28 _ (by kernel_rfl) rfl
      have e35 : aa.tmps[35]?.getD undef = .slice (some ⟨B, 0, none⟩) 2 2 := e35
      clear hp hq
      go_simp
      refine (t_orI _ _ B W2 hB2).mono ?_
      rintro e w2 ⟨rfl, hb2⟩
      exact hK _ _ (RelB.of hb2) rfl
    · refine opR_mk rfl fun aa W2 hB hp hq K hK => ?_
      have e36 : aa.tmps[36]?.getD undef = .int .i64 (orZ (cmpZ (fAt l i).s (fAt l k).s) (cmpZ ((fAt l i).c : Int) ((fAt l k).c : Int))) := hq 29 _ (by kernel_rfl) rfl
      clear hp hq
      go_simp
      exact hK _ _ (RelB.refl _) rfl
    · refine opR_mk rfl fun aa W2 hB hp hq K hK => ?_
      have e37 : aa.tmps[37]?.getD undef = .bool (decide ((orZ (cmpZ (fAt l i).s (fAt l k).s) (cmpZ ((fAt l i).c : Int) ((fAt l k).c : Int))) < 0)) := hq 30 _ (by kernel_rfl) rfl
      clear hp hq
      go_simp
      exact hK _ _ (RelB.refl _) rfl
  · intro vs W3 hB3 hv3 _
    have v31 : vs 31 = .bool (decide ((orZ (cmpZ (fAt l i).s (fAt l k).s) (cmpZ ((fAt l i).c : Int) ((fAt l k).c : Int))) < 0)) := hv3 31 _ rfl rfl
    have HB3 := Lib.hid hB3
    clear hB3 hv3
    simp only [List.take_succ_cons, List.take_zero, putAll, Act.put, List.setIfInBounds_toArray, List.set_cons_succ, List.set_cons_zero, Nat.zero_add, Nat.reduceAdd, v31]
    go_wp2
    go_ret
    exact ⟨by rw [cmp_lt]; rfl, HB3.out⟩
set_option maxRecDepth 100000 in
set_option maxHeartbeats 4000000 in
theorem t_fSwap (K : Nat → Prop) (n c : Nat) (A : Option Addr) (l : List Fr) (i k : Nat) (w : World) (h : OwnF w K (.slice A n c) n l) (hi : i < n) (hk : k < n) (hik : i < k) (hn : n ≤ 60000) :
    Calls Tryz.prog 230 #[.slice A n c, .int .i64 (i : Int), .int .i64 (k : Int)] w fun e w' => e = .returned (.tuple #[]) ∧ OwnF w' K (.slice A n c) n ((l.set i (fAt l k)).set k (fAt l i)) ∧ Stays K w w' := by
  obtain ⟨g, rfl, hg, hl, cx, cx1, fx⟩ := fr_cell h hi
  obtain ⟨_, hgg, _, _, cy, cy1, fy⟩ := fr_cell h hk
  cases hgg
  have fx0 : w.frozen? ⟨g, i * 2, none⟩ = false := fx _
  have fx1 : w.frozen? ⟨g, i * 2 + 1, none⟩ = false := fx _
  have fy0 : w.frozen? ⟨g, k * 2, none⟩ = false := fx _
  have fy1 : w.frozen? ⟨g, k * 2 + 1, none⟩ = false := fx _
  have s1 := (h.1.stored (i * 2) (.int .i64 ((fAt l k).c : Int))).1
  have s2 := (s1.stored (i * 2 + 1) (.slice (some ⟨(fAt l k).q, (fAt l k).o, none⟩) (fAt l k).n (fAt l k).cap)).1
  rw [← frV_set] at s2
  have s3 := (s2.stored (k * 2) (.int .i64 ((fAt l i).c : Int))).1
  have s4 := (s3.stored (k * 2 + 1) (.slice (some ⟨(fAt l i).q, (fAt l i).o, none⟩) (fAt l i).n (fAt l i).cap)).1
  rw [← frV_set] at s4
  have HP : Hid (OwnF _ K _ n ((l.set i (fAt l k)).set k (fAt l i))) := ⟨s4, h.2⟩
  have hne : ∀ b, K b → b ≠ g := fun b hb e => hg (e ▸ hb)
  have HO : Hid (∀ q, Stays K w (World.drewN (((((w.setCell ⟨g, i * 2, none⟩ (.int .i64 ((fAt l k).c : Int))).setCell ⟨g, i * 2 + 1, none⟩ (.slice (some ⟨(fAt l k).q, (fAt l k).o, none⟩) (fAt l k).n (fAt l k).cap)).setCell ⟨g, k * 2, none⟩ (.int .i64 ((fAt l i).c : Int))).setCell ⟨g, k * 2 + 1, none⟩ (.slice (some ⟨(fAt l i).q, (fAt l i).o, none⟩) (fAt l i).n (fAt l i).cap))) q)) := fun q =>
    ⟨rfl, rfl, rfl, by simp, fun b hb => by
      show (World.setCell _ _ _).heap[b]? = _
      rw [heap_setCell_other _ ⟨g, _, none⟩ b _ (hne b hb), heap_setCell_other _ ⟨g, _, none⟩ b _ (hne b hb), heap_setCell_other _ ⟨g, _, none⟩ b _ (hne b hb), heap_setCell_other _ ⟨g, _, none⟩ b _ (hne b hb)]⟩
  have hi2 : (i : Int) < (n : Int) := by omega
  have hk2 : (k : Int) < (n : Int) := by omega
  have n1 : ¬ i * 2 = k * 2 := by omega
  have n2 : ¬ i * 2 + 1 = k * 2 := by omega
  have n3 : ¬ i * 2 = k * 2 + 1 := by omega
  have n4 : ¬ i * 2 + 1 = k * 2 + 1 := by omega
  have n5 : ¬ i = k := by omega
  clear h fx fy s1 s2 s3 s4
  go_enter Tryz.func230, Tryz.ntmps230
  go_wp2
  go_region
  all_goals go_wp2
  go_end0
  exact ⟨rfl, HP.out, HO.out 1⟩
end Go.Proofs.YtehckjkihaalfaaGreat

/- The heap of fronts: up, down, Push, Pop, Remove, Fix. -/
namespace Go.Proofs.YtehckjkihaalfaaGreat
open Go.RowKit Go.Maps

/-- A heap's list behind a pointer. -/
structure FrAt (w : World) (K : Nat → Prop) (Bw : Nat) (l : List Fr) : Prop where
  row : ∃ A c, w.heap[Bw]? = some (.cells #[.slice A l.length c] 87 (0, 0)) ∧ OwnF w K (.slice A l.length c) l.length l
  lt : K Bw
  keys : ∀ e ∈ l, FrOk w K e ∧ e.q ≠ Bw
theorem FrOk.stays {w w' : World} {K : Nat → Prop} {Bw : Nat} {e : Fr} (h : FrOk w K e) (hne : e.q ≠ Bw) (hb : StaysB K Bw w w') : FrOk w' K e := ⟨fun hn => (World.cell?_of_block (a := ⟨e.q, e.o, none⟩) (hb.old _ ⟨h.2, hne⟩)).trans (h.1 hn), h.2⟩
theorem FrAt.keysB {w w' : World} {K : Nat → Prop} {Bw : Nat} {l l' : List Fr} (h : FrAt w K Bw l) (hp : l'.Perm l) (hb : StaysB K Bw w w') : ∀ e ∈ l', FrOk w' K e ∧ e.q ≠ Bw := fun e he => ⟨(h.keys e (hp.mem_iff.1 he)).1.stays (h.keys e (hp.mem_iff.1 he)).2 hb, (h.keys e (hp.mem_iff.1 he)).2⟩
theorem FrAt.same {w w' : World} {K : Nat → Prop} {Bw : Nat} {l : List Fr} (h : FrAt w K Bw l) (hb : Below w.heap.size w w') (hG : ∀ b, K b → b < w.heap.size) : FrAt w' K Bw l := by
  obtain ⟨A, c, h1, h2⟩ := h.row
  exact ⟨⟨A, c, (hb.block _ (lt_heap h1)).trans h1, h2.below hb⟩, h.lt, fun e he => ⟨(h.keys e he).1.below hb hG, (h.keys e he).2⟩⟩
abbrev frI (Bw : Nat) : Value := .iface 89 (.pointer (some ⟨Bw, 0, none⟩))
theorem fmLess0 (Bw : Nat) (w : World) : Sem.run Tryz.prog (method 368 89 (.pointer (some ⟨Bw, 0, none⟩)) "Less") w = Sem.run Tryz.prog (do let v ← loadVar 87 ⟨Bw, 0, none⟩; pure (229, v)) w := by kernel_rfl
theorem fmSwap0 (Bw : Nat) (w : World) : Sem.run Tryz.prog (method 368 89 (.pointer (some ⟨Bw, 0, none⟩)) "Swap") w = Sem.run Tryz.prog (do let v ← loadVar 87 ⟨Bw, 0, none⟩; pure (230, v)) w := by kernel_rfl
theorem fmLen0 (Bw : Nat) (w : World) : Sem.run Tryz.prog (method 368 89 (.pointer (some ⟨Bw, 0, none⟩)) "Len") w = Sem.run Tryz.prog (do let v ← loadVar 87 ⟨Bw, 0, none⟩; pure (228, v)) w := by kernel_rfl
theorem fmLess (Bw : Nat) (v : Value) (w : World) (h : w.cell? ⟨Bw, 0, none⟩ = some v) : Sem.run Tryz.prog (method 368 89 (.pointer (some ⟨Bw, 0, none⟩)) "Less") w = .ok (229, v) w := by
  rw [fmLess0]
  simp [go_sem, h]
theorem fmSwap (Bw : Nat) (v : Value) (w : World) (h : w.cell? ⟨Bw, 0, none⟩ = some v) : Sem.run Tryz.prog (method 368 89 (.pointer (some ⟨Bw, 0, none⟩)) "Swap") w = .ok (230, v) w := by
  rw [fmSwap0]
  simp [go_sem, h]
theorem fmLen (Bw : Nat) (v : Value) (w : World) (h : w.cell? ⟨Bw, 0, none⟩ = some v) : Sem.run Tryz.prog (method 368 89 (.pointer (some ⟨Bw, 0, none⟩)) "Len") w = .ok (228, v) w := by
  rw [fmLen0]
  simp [go_sem, h]
theorem t_fLen (A : Option Addr) (n c : Nat) (w : World) : Calls Tryz.prog 228 #[.slice A n c] w fun e w' => e = .returned (.int .i64 (n : Int)) ∧ w = w' := by
  go_enter Tryz.func228, Tryz.ntmps228
  go_wp2
  go_ret
  exact ⟨rfl, rfl⟩
/-- What Less answers. -/
def IsLt (b : Bool) (x y : Fr) : Prop := b = decide (frLt x y)
theorem IsLt.t {x y : Fr} (h : IsLt true x y) : frLt x y := of_decide_eq_true h.symm
theorem IsLt.f {x y : Fr} (h : IsLt false x y) : ¬ frLt x y := of_decide_eq_false h.symm
theorem c_less (K : Nat → Prop) (n c : Nat) (A : Option Addr) (l : List Fr) (i k : Nat) (w : World) (h : OwnF w K (.slice A n c) n l) (hf : ∀ e ∈ l, FrOk w K e) (hi : i < n) (hk : k < n) (hn1 : 1 ≤ (fAt l i).n) (hn2 : 1 ≤ (fAt l k).n) (hn : n ≤ 60000) :
    Calls Tryz.prog 229 #[.slice A n c, .int .i64 (i : Int), .int .i64 (k : Int)] w fun e w' => (∃ b, e = .returned (.bool b) ∧ IsLt b (fAt l i) (fAt l k)) ∧ Below w.heap.size w w' :=
  (t_fLess K n c A l i k w h hf hi hk hn1 hn2 hn).mono fun _ _ hh => ⟨⟨_, hh.1, rfl⟩, hh.2⟩
/-- What a swap leaves. -/
theorem FrAt.swapped {w w1 w2 : World} {K : Nat → Prop} {Bw n c i j : Nat} {A : Option Addr} {l : List Fr} (h : FrAt w K Bw l) (hk : w1.heap[Bw]? = some (.cells #[.slice A n c] 87 (0, 0))) (hn : l.length = n) (hi : i < n) (hj : j < n)
    (hb : StaysB K Bw w w1) (ho : OwnF w2 K (.slice A n c) n ((l.set i (fAt l j)).set j (fAt l i))) (hs : Stays K w1 w2) : ((l.set i (fAt l j)).set j (fAt l i)).Perm l ∧ FrAt w2 K Bw ((l.set i (fAt l j)).set j (fAt l i)) ∧ StaysB K Bw w w2 := by
  have hp : ((l.set i (fAt l j)).set j (fAt l i)).Perm l := swap_perm l i j _ _ (fAt_get (by omega)) (fAt_get (by omega))
  have hbb := hb.trans' hs.wide
  refine ⟨hp, ⟨⟨A, c, ?_, ?_⟩, h.lt, h.keysB hp hbb⟩, hbb⟩
  · rw [hp.length_eq, hn]
    exact (hs.old _ h.lt).trans hk
  · rw [hp.length_eq, hn]
    exact ho
/-- A Bool comes back. -/
def RetB (e : Ending) : Prop := ∃ b, e = .returned (.bool b)
theorem RetB.of {e : Ending} {b : Bool} (h : e = .returned (.bool b)) : RetB e := ⟨b, h⟩
theorem RetB.get {e : Ending} (h : RetB e) : ∃ b, e = .returned (.bool b) := h
theorem par_arith2 (i : Nat) : ∃ p : Nat, ((i : Int) - 1).tdiv 2 = (p : Int) ∧ p = par i ∧ (p < i ∨ (i = 0 ∧ p = 0)) := by
  rcases Nat.eq_zero_or_pos i with h0 | h0
  · subst h0
    exact ⟨0, by decide, rfl, .inr ⟨rfl, rfl⟩⟩
  · refine ⟨(i - 1) / 2, ?_, rfl, .inl (by omega)⟩
    rw [show (i : Int) - 1 = ((i - 1 : Nat) : Int) by omega]
    rw [Int.tdiv_eq_ediv_of_nonneg (by omega)]
    omega
set_option maxRecDepth 100000 in
set_option maxHeartbeats 4000000 in
theorem t_fUp0 (Bw : Nat) (w : World) : Calls Tryz.prog 96 #[frI Bw, .int .i64 0] w fun e w' => e = .returned (.tuple #[]) ∧ w = w' := by
  go_enter Tryz.func96, Tryz.ntmps96
  go_wp2
  go_loopw [1] (fun x wr => x = .int .i64 0 ∧ wr = w) (fun x _ => (intOf x).toNat)
  case atStart => exact ⟨rfl, rfl⟩
  case round =>
    obtain ⟨rfl, rfl⟩ := hrel
    have hw1 : wrap64 (-1) = -1 := by unfold wrap64; omega
    have hw2 : (-1 : Int).tdiv 2 = 0 := by decide
    go_wp2
    go_end0
    exact ⟨rfl, rfl⟩
set_option maxRecDepth 100000 in
set_option maxHeartbeats 4000000 in
theorem t_fUp (K : Nat → Prop) (Bw : Nat) (l : List Fr) (j : Nat) (w : World) (h : FrAt w K Bw l) (hj : j < l.length) (hu : UpInv (fAt l) l.length j) (hpos : ∀ e ∈ l, 1 ≤ e.n) (hn : l.length ≤ 60000) (hG : ∀ b, K b → b < w.heap.size) :
    Calls Tryz.prog 96 #[frI Bw, .int .i64 (j : Int)] w fun e w' => e = .returned (.tuple #[]) ∧ ∃ l', l'.Perm l ∧ HeapL l' ∧ FrAt w' K Bw l' ∧ StaysB K Bw w w' := by
  have HH := Lib.hid h
  clear h
  obtain ⟨n, hnn⟩ : ∃ n, n = l.length := ⟨_, rfl⟩
  rw [← hnn] at hj hn hu
  have HU := Lib.hid hu
  have HPOS := Lib.hid hpos
  have HN := Lib.hid hnn
  clear hnn hu hpos
  go_enter Tryz.func96, Tryz.ntmps96
  go_wp2
  go_loopw [1] (fun x wr => ∃ (i : Nat) (l' : List Fr), x = .int .i64 (i : Int) ∧ i < n ∧ Hid (l'.Perm l ∧ UpInv (fAt l') n i ∧ FrAt wr K Bw l' ∧ StaysB K Bw w wr)) (fun x _ => (intOf x).toNat)
  case atStart => exact ⟨j, l, rfl, hj, List.Perm.refl _, HU.out, HH.out, Stays.refl' _ _⟩
  case round =>
    obtain ⟨i, l', rfl, hi, HI⟩ := hrel
    have hl' : l'.length = n := HI.out.1.length_eq.trans HN.out.symm
    obtain ⟨A, c, k1, k2⟩ := HI.out.2.2.1.row
    rw [hl'] at k1 k2
    have HL' := Lib.hid hl'
    have HK := Lib.hid k2
    have HK1 := Lib.hid k1
    have cW := box_cell k1
    have HGr : Hid (∀ b, K b → b < wr.heap.size) := fun b hb => Nat.lt_of_lt_of_le (hG b hb) HI.out.2.2.2.size
    clear k1 k2 hl'
    obtain ⟨p, hp, hpp, hpi⟩ := par_arith2 i
    have HPP := Lib.hid hpp
    clear hpp
    have hw1 : wrap64 ((i : Int) - 1) = (i : Int) - 1 := by unfold wrap64; omega
    rcases hpi with hpi | ⟨rfl, rfl⟩
    · have hne : ((p : Int) == (i : Int)) = false := by simp; omega
      have hpn : p < n := by omega
      go_wp2
      rw [fmLess _ _ _ cW]
      go_wp2_with (go_at_call 229; (with_reducible refine (c_less K n c A l' i p wr HK.out (fun e he => (HI.out.2.2.1.keys e he).1) hi hpn (HPOS.out _ (HI.out.1.mem_iff.1 (fAt_mem (by rw [HL'.out]; exact hi)))) (HPOS.out _ (HI.out.1.mem_iff.1 (fAt_mem (by rw [HL'.out]; exact hpn)))) hn).mono ?_); rintro e w1 ⟨⟨b, rfl, hlt⟩, hb⟩; have HLT := Lib.hid hlt; clear hlt; cases b)
      · have HW := Lib.hid (And.intro (HI.out.2.2.1.same hb HGr.out) (HI.out.2.2.2.trans' (Stays.belowB hb HGr.out)))
        go_end0
        refine ⟨rfl, l', HI.out.1, ?_, HW.out.1, HW.out.2⟩
        unfold HeapL
        rw [HL'.out]
        exact HI.out.2.1.stop (.inr (HPP.out ▸ HLT.out.f))
      · have hb1 : Hid (w1.heap[Bw]? = some (.cells #[.slice A n c] 87 (0, 0))) := (hb.block _ (lt_heap HK1.out)).trans HK1.out
        have HW2 := Lib.hid (HI.out.2.2.2.trans' (Stays.belowB hb HGr.out))
        have HB := Lib.hid hb
        have HK2 := Lib.hid (HK.out.below hb)
        clear hb
        rw [fmSwap _ _ _ (box_cell hb1.out)]
        go_wp2_with (go_at_call 230; (with_reducible refine (t_fSwap K n c A l' p i w1 HK2.out hpn hi hpi hn).mono ?_); rintro e w2 ⟨rfl, h1, h2⟩; have HS := Lib.hid (And.intro h1 h2); clear h1 h2)
        have hsw := HI.out.2.2.1.swapped hb1.out HL'.out hpn hi (Stays.belowB HB.out HGr.out) HS.out.1 HS.out.2
        have HSW := Lib.hid hsw
        clear hsw
        go_roundw
        case rel =>
          refine ⟨p, _, rfl, hpn, HSW.out.1.trans HI.out.1, ?_, HSW.out.2.1, HI.out.2.2.2.trans' HSW.out.2.2⟩
          rw [fAt_set (by rw [HL'.out]; exact hpn) (by rw [HL'.out]; exact hi), HPP.out]
          exact HI.out.2.1.step (by omega) hi (HPP.out ▸ HLT.out.t)
        case measure => simp only [intOf]; omega
    · go_wp2
      go_end0
      refine ⟨rfl, l', HI.out.1, ?_, HI.out.2.2⟩
      unfold HeapL
      rw [HL'.out]
      exact HI.out.2.1.stop (.inl rfl)
set_option maxRecDepth 100000 in
set_option maxHeartbeats 8000000 in
theorem t_fDown (K : Nat → Prop) (Bw : Nat) (l : List Fr) (m : Nat) (w : World) (h : FrAt w K Bw l) (h0 : 0 < m) (hm : m ≤ l.length) (hd : DownInv (fAt l) m 0) (hpos : ∀ k, k < m → 1 ≤ (fAt l k).n) (hn : l.length ≤ 60000) (hG : ∀ b, K b → b < w.heap.size) :
    Calls Tryz.prog 97 #[frI Bw, .int .i64 0, .int .i64 (m : Int)] w fun e w' => RetB e ∧ ∃ l', l'.Perm l ∧ HeapF (fAt l') m ∧ (∀ k, m ≤ k → fAt l' k = fAt l k) ∧ FrAt w' K Bw l' ∧ StaysB K Bw w w' := by
  have HH := Lib.hid h
  clear h
  obtain ⟨n, hnn⟩ : ∃ n, n = l.length := ⟨_, rfl⟩
  rw [← hnn] at hm hn
  have HD := Lib.hid hd
  have HPOS := Lib.hid hpos
  have HN := Lib.hid hnn
  clear hnn hd hpos
  go_enter Tryz.func97, Tryz.ntmps97
  go_wp2
  go_loopw [7] (fun x wr => ∃ (i : Nat) (l' : List Fr), x = .int .i64 (i : Int) ∧ i < m ∧ Hid (l'.Perm l ∧ DownInv (fAt l') m i ∧ ((∀ k, m ≤ k → fAt l' k = fAt l k) ∧ ∀ k, k < m → 1 ≤ (fAt l' k).n) ∧ FrAt wr K Bw l' ∧ StaysB K Bw w wr)) (fun x _ => m - (intOf x).toNat)
  case atStart => exact ⟨0, l, rfl, h0, List.Perm.refl _, HD.out, ⟨fun _ _ => rfl, HPOS.out⟩, HH.out, Stays.refl' _ _⟩
  case round =>
    obtain ⟨i, l', rfl, hi, HI⟩ := hrel
    have hl' : l'.length = n := HI.out.1.length_eq.trans HN.out.symm
    obtain ⟨A, c, k1, k2⟩ := HI.out.2.2.2.1.row
    rw [hl'] at k1 k2
    have HL' := Lib.hid hl'
    have HK := Lib.hid k2
    have HK1 := Lib.hid k1
    have cW := box_cell k1
    have HGr : Hid (∀ b, K b → b < wr.heap.size) := fun b hb => Nat.lt_of_lt_of_le (hG b hb) HI.out.2.2.2.2.size
    clear k1 k2 hl'
    have hi5 : i < n := by omega
    have HEND : Hid (∀ (x : Int) (j : Nat) (w1 : World), x = (j : Int) → i < j → j < m → par j = i → (∀ k, 1 ≤ k → k < m → par k = i → ¬ frLt (fAt l' k) (fAt l' j)) → frLt (fAt l' j) (fAt l' i) → Below wr.heap.size wr w1 → Calls Tryz.prog 230 #[.slice A n c, .int .i64 (i : Int), .int .i64 x] w1 fun e w2 => e = .returned (.tuple #[]) ∧ ∃ l2, l2.Perm l ∧ DownInv (fAt l2) m j ∧ ((∀ k, m ≤ k → fAt l2 k = fAt l k) ∧ ∀ k, k < m → 1 ≤ (fAt l2 k).n) ∧ FrAt w2 K Bw l2 ∧ StaysB K Bw w w2) := by
      rintro _ j w1 rfl hj1 hj2 hj3 hj4 hj5 hb
      refine (t_fSwap K n c A l' i j w1 (HK.out.below hb) hi5 (by omega) hj1 hn).mono ?_
      rintro e w2 ⟨rfl, h1, h2⟩
      have hb1 : w1.heap[Bw]? = some (.cells #[.slice A n c] 87 (0, 0)) := (hb.block _ (lt_heap HK1.out)).trans HK1.out
      have hsw := HI.out.2.2.2.1.swapped hb1 HL'.out hi5 (by omega : j < n) (Stays.belowB hb HGr.out) h1 h2
      refine ⟨rfl, _, hsw.1.trans HI.out.1, ?_, ⟨fun k hk => ?_, fun k hk => ?_⟩, hsw.2.1, HI.out.2.2.2.2.trans' hsw.2.2⟩
      · rw [fAt_set (by rw [HL'.out]; exact hi5) (by rw [HL'.out]; omega)]
        exact HI.out.2.1.step (by omega) hj2 hj3 hj4 hj5
      · rw [fAt_set (by rw [HL'.out]; exact hi5) (by rw [HL'.out]; omega)]
        unfold swapF
        rw [if_neg (by omega), if_neg (by omega)]
        exact HI.out.2.2.1.1 k hk
      · rw [fAt_set (by rw [HL'.out]; exact hi5) (by rw [HL'.out]; omega)]
        unfold swapF
        split
        · exact HI.out.2.2.1.2 i hi
        · split
          · exact HI.out.2.2.1.2 j hj2
          · exact HI.out.2.2.1.2 k hk
    have HOUT : Hid (∀ w1, Below wr.heap.size wr w1 → (∀ k, 1 ≤ k → k < m → par k = i → ¬ frLt (fAt l' k) (fAt l' i)) → l'.Perm l ∧ HeapF (fAt l') m ∧ (∀ k, m ≤ k → fAt l' k = fAt l k) ∧ FrAt w1 K Bw l' ∧ StaysB K Bw w w1) := fun w1 hb hh => ⟨HI.out.1, HI.out.2.1.stop hh, HI.out.2.2.1.1, HI.out.2.2.2.1.same hb HGr.out, HI.out.2.2.2.2.trans' (Stays.belowB hb HGr.out)⟩
    have HCW : Hid (∀ w1, Below wr.heap.size wr w1 → w1.cell? ⟨Bw, 0, none⟩ = some (.slice A n c)) := fun w1 hb => box_cell ((hb.block _ (lt_heap HK1.out)).trans HK1.out)
    have HLS : Hid (∀ (x y : Int) (p q : Nat) (w1 : World), x = (p : Int) → y = (q : Int) → Below wr.heap.size wr w1 → p < m → q < m → Calls Tryz.prog 229 #[.slice A n c, .int .i64 x, .int .i64 y] w1 fun e w2 => (∃ b, e = .returned (.bool b) ∧ IsLt b (fAt l' p) (fAt l' q)) ∧ Below wr.heap.size wr w2) := by
      rintro _ _ p q w1 rfl rfl hb h2 h4
      exact (c_less K n c A l' p q w1 (HK.out.below hb) (fun e he => ((HI.out.2.2.2.1.keys e he).1.below hb HGr.out)) (by omega) (by omega) (HI.out.2.2.1.2 p h2) (HI.out.2.2.1.2 q h4) hn).mono fun e w2 h => ⟨h.1, ptrans hb h.2⟩
    have hj3 : ∀ k, 1 ≤ k → par k = i → k = 2 * i + 1 ∨ k = 2 * i + 2 := fun k h1 h2 => by unfold par at h2; omega
    have HJ3 := Lib.hid hj3
    clear hj3
    have HJ1 : Hid (par (2 * i + 1) = i) := by show par _ = _; unfold par; omega
    have HJ2 : Hid (par (2 * i + 2) = i) := by show par _ = _; unfold par; omega
    by_cases hj1 : 2 * i + 1 < m
    · by_cases hj2 : 2 * i + 2 < m
      · go_wp2
        rw [fmLess _ _ _ cW]
        go_wp2_with (go_at_call 229; (with_reducible refine (HLS.out _ _ (2 * i + 2) (2 * i + 1) _ (by omega) (by omega) (Below.refl _ _) (by omega) (by omega)).mono ?_); rintro e w1 ⟨⟨b, rfl, hlt⟩, hb⟩; have HB := Lib.hid hb; have HLT := Lib.hid hlt; clear hb hlt; cases b)
        · rw [fmLess _ _ _ (HCW.out _ HB.out)]
          have hmin : Hid (∀ k, 1 ≤ k → k < m → par k = i → ¬ frLt (fAt l' k) (fAt l' (2 * i + 1))) := fun k a b c => by
            rcases HJ3.out k a c with rfl | rfl
            · exact fun h => frLt_asym h h
            · exact HLT.out.f
          go_wp2_with (go_at_call 229; (with_reducible refine (HLS.out _ _ (2 * i + 1) i _ (by omega) rfl HB.out (by omega) (by omega)).mono ?_); rintro e w2 ⟨⟨b, rfl, hlt⟩, hb⟩; have HB2 := Lib.hid hb; have HLT2 := Lib.hid hlt; clear hb hlt; cases b)
          · go_ret
            exact ⟨RetB.of rfl, l', HOUT.out _ HB2.out fun k a b c => frGe_trans (hmin.out k a b c) HLT2.out.f⟩
          · rw [fmSwap _ _ _ (HCW.out _ HB2.out)]
            go_wp2_with (go_at_call 230; (with_reducible refine (HEND.out _ (2 * i + 1) _ (by omega) (by omega) hj1 HJ1.out hmin.out HLT2.out.t HB2.out).mono ?_); rintro e w3 ⟨rfl, l2, h1⟩; have HS := Lib.hid h1; clear h1)
            go_roundw
            case rel => exact ⟨2 * i + 1, l2, rfl, hj1, HS.out⟩
            case measure => simp only [intOf]; omega
        · rw [fmLess _ _ _ (HCW.out _ HB.out)]
          have hmin : Hid (∀ k, 1 ≤ k → k < m → par k = i → ¬ frLt (fAt l' k) (fAt l' (2 * i + 2))) := fun k a b c => by
            rcases HJ3.out k a c with rfl | rfl
            · exact frLt_asym HLT.out.t
            · exact fun h => frLt_asym h h
          go_wp2_with (go_at_call 229; (with_reducible refine (HLS.out _ _ (2 * i + 2) i _ (by omega) rfl HB.out (by omega) (by omega)).mono ?_); rintro e w2 ⟨⟨b, rfl, hlt⟩, hb⟩; have HB2 := Lib.hid hb; have HLT2 := Lib.hid hlt; clear hb hlt; cases b)
          · go_ret
            exact ⟨RetB.of rfl, l', HOUT.out _ HB2.out fun k a b c => frGe_trans (hmin.out k a b c) HLT2.out.f⟩
          · rw [fmSwap _ _ _ (HCW.out _ HB2.out)]
            go_wp2_with (go_at_call 230; (with_reducible refine (HEND.out _ (2 * i + 2) _ (by omega) (by omega) hj2 HJ2.out hmin.out HLT2.out.t HB2.out).mono ?_); rintro e w3 ⟨rfl, l2, h1⟩; have HS := Lib.hid h1; clear h1)
            go_roundw
            case rel => exact ⟨2 * i + 2, l2, rfl, hj2, HS.out⟩
            case measure => simp only [intOf]; omega
      · have hmin : Hid (∀ k, 1 ≤ k → k < m → par k = i → ¬ frLt (fAt l' k) (fAt l' (2 * i + 1))) := fun k a b c => by
          rcases HJ3.out k a c with rfl | rfl
          · exact fun h => frLt_asym h h
          · omega
        go_wp2
        rw [fmLess _ _ _ cW]
        go_wp2_with (go_at_call 229; (with_reducible refine (HLS.out _ _ (2 * i + 1) i _ (by omega) rfl (Below.refl _ _) (by omega) (by omega)).mono ?_); rintro e w1 ⟨⟨b, rfl, hlt⟩, hb⟩; have HB := Lib.hid hb; have HLT2 := Lib.hid hlt; clear hb hlt; cases b)
        · go_ret
          exact ⟨RetB.of rfl, l', HOUT.out _ HB.out fun k a b c => frGe_trans (hmin.out k a b c) HLT2.out.f⟩
        · rw [fmSwap _ _ _ (HCW.out _ HB.out)]
          go_wp2_with (go_at_call 230; (with_reducible refine (HEND.out _ (2 * i + 1) _ (by omega) (by omega) hj1 HJ1.out hmin.out HLT2.out.t HB.out).mono ?_); rintro e w3 ⟨rfl, l2, h1⟩; have HS := Lib.hid h1; clear h1)
          go_roundw
          case rel => exact ⟨2 * i + 1, l2, rfl, hj1, HS.out⟩
          case measure => simp only [intOf]; omega
    · have HNO : Hid (∀ k, 1 ≤ k → k < m → par k = i → ¬ frLt (fAt l' k) (fAt l' i)) := fun k a b c => by
        rcases HJ3.out k a c with rfl | rfl <;> omega
      go_wp2
      go_ret
      exact ⟨RetB.of rfl, l', HOUT.out _ (Below.refl _ _) HNO.out⟩
end Go.Proofs.YtehckjkihaalfaaGreat

/- The heap of fronts: Push, Pop, and container/heap over them. -/
namespace Go.Proofs.YtehckjkihaalfaaGreat
open Go.RowKit Go.Maps

theorem ta_front (x y : Value) (w : World) : Sem.run Tryz.prog (Instr.typeAssert (.iface 91 (.agg #[x, y])) 20 91 false) w = .ok (.agg #[x, y]) w := by kernel_rfl
theorem infoFr : ∃ i, Tryz.prog.info? 91 = some i ∧ i.zero = some (.agg #[.int .i64 0, .slice none 0 0]) ∧ i.size = 2 ∧ i.bytes = 32 := by
  have : (Tryz.prog.info? 91).map (fun i => (i.zero, i.size, i.bytes)) = some (some (.agg #[.int .i64 0, .slice none 0 0]), 2, 32) := by kernel_rfl
  obtain ⟨i, hi, he⟩ := Option.map_eq_some_iff.1 this
  simp only [Prod.mk.injEq] at he
  exact ⟨i, hi, he.1, he.2.1, he.2.2⟩
abbrev cellsFr (x : Fr) : Array Value := #[.int .i64 (x.c : Int), .slice (some ⟨x.q, x.o, none⟩) x.n x.cap]
theorem run_append_fr (K : Nat → Prop) (ty : Nat) (w : World) (v : Value) (l : List Fr) (n : Nat) (hn : l.length = n) (hown : OwnF w K v n l) (q : Nat) (x : Fr) (hq : w.heap[q]? = some (.cells (cellsFr x) 91 (0, 0)))
    (hl : n ≤ 100000) (hK : ∀ b, K b → b < w.heap.size) :
    ∃ v' w' row, (Builtin.append_ #[87, 87] ty #[v, .slice (some ⟨q, 0, none⟩) 1 1]).run Tryz.prog w = .ok v' w' ∧ OwnF w' K v' (n + 1) (l ++ [x]) ∧ w.grownBy w' row ∧ ∀ b, row = some b → ¬ K b := by
  subst hn
  obtain ⟨i0, hi, hz0, hz1, hz2⟩ := infoFr
  obtain ⟨v', w', hrun, h2, h3, _, h5⟩ := run_append_own_at (P := Tryz.prog) w 0 87 ty 91 i0 _ 2 32 Tryz.underlying87 hi hz0 hz1 hz2 rfl (by decide) v l.length (frV l) hown.1 ⟨q, 0, none⟩ 1 1 x.cells
    rfl (fun j u hu => by
      rw [Addr.add_mid, Nat.zero_add]
      simp only [World.cell?, hq]
      simpa [Fr.cells] using hu) (by simp [Fr.cells, Value.oneCell']) (by unfold maxLen; omega) (by omega) (Nat.zero_le _)
  refine ⟨v', w', v.ownBlock, hrun, ⟨by rw [frV_append, show frV [x] = x.cells by simp [frV]]; exact h2, fun q' hq' => ?_⟩, h3, hown.2⟩
  rcases h5 with h5 | h5
  · exact hown.2 q' (h5 ▸ hq')
  · rw [hq'] at h5
    intro hk
    have := hK q' hk
    have := Option.some.inj h5
    omega
theorem step_append_fr {ops : Array Oper} {o : Oper} {a : Act} {w : World} {K : Act → World → Prop} {Q : Exit → Act → World → Prop} {E : Prop} (hgd : o.guard = none) (s x : Operand)
    (ho : o.op = .call { callee := .builtin .append, args := #[s, x], argTypes := #[87, 87] })
    (K0 : Nat → Prop) (v : Value) (l : List Fr) (n k : Nat) (hn : l.length = n) (hk : n + 1 = k) (hs : a.eval s = v) (hown : OwnF w K0 v n l) (q : Nat) (p : Fr) (hx : a.eval x = .slice (some ⟨q, 0, none⟩) 1 1)
    (hq : w.heap[q]? = some (.cells (cellsFr p) 91 (0, 0))) (hl : n ≤ 100000) (hbase : ∀ b, K0 b → b < w.heap.size)
    (h : ∀ A1 c1 w', OwnF w' K0 (.slice A1 k c1) k (l ++ [p]) → (∃ row, w.grownBy w' row ∧ ∀ b, row = some b → ¬ K0 b) → K (a.put o.dst (.slice A1 k c1)) w') :
    if Region.wanted o (yielded ops a.tmps) = true then Oper.wp Tryz.prog o a w K Q else E := by
  have hw : Region.wanted o (yielded ops a.tmps) = true := by simp [Region.wanted, hgd]
  rw [if_pos hw]
  subst hk
  obtain ⟨v', w', row, hrun, h2, h3⟩ := run_append_fr K0 o.type w v l n hn hown q p hq hl hbase
  unfold Oper.wp execOp
  simp only [ho, resolve, invoke, builtin, Sem.run_bind, Sem.run_pure, Result.andThen_ok, List.map_toArray, List.map_cons, List.map_nil, hs, hx, hrun]
  obtain ⟨A1, c1, rfl⟩ := row_slice h2.1
  exact h A1 c1 w' h2 ⟨row, h3⟩
theorem fr_grow {w w' : World} {Bw : Nat} {K : Nat → Prop} {v : Value} {A : Obj} {row : Option Nat} (hB : w.heap[Bw]? = some (.cells #[v] 87 (0, 0))) (hv : ∀ b, row = some b → ¬ K b) (hBG : K Bw) (hG : ∀ b, K b → b < w.heap.size)
    (hg : (w.alloc A).grownBy w' row) : w'.heap[Bw]? = some (.cells #[v] 87 (0, 0)) ∧ StaysB K Bw w w' := by
  have lB : Bw < w.heap.size := (Array.getElem?_eq_some_iff.1 hB).1
  have hown : ∀ b, K b → some b ≠ row := fun b hb e => hv b e.symm hb
  have hsz : (w.alloc A).heap.size = w.heap.size + 1 := by simp
  have old : ∀ b, b < w.heap.size → (w.alloc A).heap[b]? = w.heap[b]? := fun b hb => heap_alloc_old _ _ hb
  refine ⟨(hg.block Bw (by omega) (hown Bw hBG)).trans ((old Bw lB).trans hB), ⟨hg.os, hg.tape, hg.output, ?_, fun b h1 => (hg.block b (by have := hG b h1.1; omega) (hown b h1.1)).trans (old b (hG b h1.1))⟩⟩
  have := hg.size
  omega
set_option maxRecDepth 100000 in
set_option maxHeartbeats 4000000 in
theorem t_fPush (K : Nat → Prop) (Bw : Nat) (l : List Fr) (x : Fr) (w : World) (h : FrAt w K Bw l) (hx : FrOk w K x ∧ x.q ≠ Bw) (hn : l.length ≤ 50000) (hG : ∀ b, K b → b < w.heap.size) :
    Calls Tryz.prog 236 #[.pointer (some ⟨Bw, 0, none⟩), .iface 91 (.agg #[.int .i64 (x.c : Int), .slice (some ⟨x.q, x.o, none⟩) x.n x.cap])] w fun e w' => e = .returned (.tuple #[]) ∧ FrAt w' K Bw (l ++ [x]) ∧ StaysB K Bw w w' := by
  obtain ⟨A, c, k1, k2⟩ := h.row
  have cW := box_cell k1
  have hlt := h.lt
  have HK := Lib.hid k2
  have HK1 := Lib.hid k1
  have HF := Lib.hid h
  have HX := Lib.hid hx
  clear k1 k2 h hx
  have hta := ta_front (.int .i64 (x.c : Int)) (.slice (some ⟨x.q, x.o, none⟩) x.n x.cap)
  have fW : w.frozen? ⟨Bw, 0, none⟩ = false := box_frozen HK1.out
  go_enter Tryz.func236, Tryz.ntmps236
  go_wp2
  have cA : (w.alloc (.cells (cellsFr x) 91)).cell? ⟨Bw, 0, none⟩ = some (.slice A l.length c) := box_cell ((heap_alloc_old _ _ (lt_heap HK1.out)).trans HK1.out)
  have fA : (w.alloc (.cells (cellsFr x) 91)).frozen? ⟨Bw, 0, none⟩ = false := box_frozen ((heap_alloc_old _ _ (lt_heap HK1.out)).trans HK1.out)
  go_region_law
    ((refine step_append_fr (by rfl) (.tmp 7) (.tmp 10) (by rfl) K (.slice A l.length c) l l.length (l.length + 1) rfl rfl (by rfl) ⟨HK.out.1.alloc _, HK.out.2⟩ w.heap.size x (by rfl) (heap_alloc_new w _) (by omega) (fun b hb => by show b < (w.alloc _).heap.size; rw [World.alloc_size']; have := hG b hb; omega) ?_; intro A1 c1 w' h2 h3; have H2 := Lib.hid h2; have HW := Lib.hid (fr_grow (A := .cells (cellsFr x) 91) (row := h3.choose) HK1.out h3.choose_spec.2 hlt hG ⟨h3.choose_spec.1.os, h3.choose_spec.1.tape, h3.choose_spec.1.output, h3.choose_spec.1.size, h3.choose_spec.1.block⟩); have cB' := box_cell HW.out.1; have fB' := box_frozen HW.out.1; clear h2 h3))
  all_goals
    go_wp2
    go_end0
    have hfin : StaysB K Bw w (w'.setCell ⟨Bw, 0, none⟩ (.slice A1 (l.length + 1) c1)) := by
      have hr := HW.out.2
      have hg := pgrown_set w' Bw 0 (.slice A1 (l.length + 1) c1)
      exact ⟨hg.os.trans hr.os, hg.tape.trans hr.tape, hg.output.trans hr.output, Nat.le_trans hr.size hg.size, fun b h1 => (hg.block b (by have := hr.size; have := hG b h1.1; omega) (fun e => h1.2 (Option.some.inj e))).trans (hr.old b h1)⟩
    refine ⟨rfl, ⟨⟨A1, c1, ?_, ?_⟩, hlt, fun e he => ?_⟩, hfin⟩
    · rw [pheap_set _ Bw 0 _ _ _ HW.out.1, List.length_append]
      rfl
    · rw [List.length_append]
      exact ⟨H2.out.1.kept (pgrown_set w' Bw 0 _) (by
        cases hvo : (Value.slice A1 (l.length + 1) c1).ownBlock with
        | none => exact .inl rfl
        | some x => exact .inr (fun e => H2.out.2 x hvo (Option.some.inj e ▸ hlt))), H2.out.2⟩
    · rcases List.mem_append.1 he with he | he
      · exact ⟨(HF.out.keys e he).1.stays (HF.out.keys e he).2 hfin, (HF.out.keys e he).2⟩
      · rw [List.mem_singleton] at he
        subst he
        exact ⟨HX.out.1.stays HX.out.2 hfin, HX.out.2⟩
set_option maxRecDepth 100000 in
set_option maxHeartbeats 4000000 in
theorem t_fPop (K : Nat → Prop) (Bw : Nat) (l : List Fr) (n : Nat) (w : World) (h : FrAt w K Bw l) (hn : l.length ≤ 50000) (h0 : n + 1 = l.length) (hG : ∀ b, K b → b < w.heap.size) :
    Calls Tryz.prog 235 #[.pointer (some ⟨Bw, 0, none⟩)] w fun e w' => e = .returned (.iface 91 (.agg (cellsFr (fAt l n)))) ∧ FrAt w' K Bw (l.take n) ∧ StaysB K Bw w w' := by
  obtain ⟨A, c, k1, k2⟩ := h.row
  have hlt := h.lt
  rw [← h0] at k1 k2 hn
  have cW := box_cell k1
  obtain ⟨g, rfl, hg, hl, cx, cx1, fx⟩ := fr_cell k2 (Nat.lt_succ_self n)
  have HN := Lib.hid h0
  have HF := Lib.hid h
  have HK := Lib.hid k2
  have HK1 := Lib.hid k1
  have fW : w.frozen? ⟨Bw, 0, none⟩ = false := box_frozen k1
  have hcc := row_cap k2.1
  have hc1 : (n : Int) ≤ (c : Int) := by omega
  clear k1 k2 h h0 hcc hl fx
  have hBs : Bw < w.heap.size := lt_heap HK1.out
  have hs1 : ¬ Bw = w.heap.size := by omega
  have hs2 : ¬ w.heap.size = Bw := by omega
  clear hBs
  have cA : (w.alloc (.cells (cellsFr (fAt l n)) 91)).cell? ⟨Bw, 0, none⟩ = some (.slice (some ⟨g, 0, none⟩) (n + 1) c) := box_cell ((heap_alloc_old _ _ (lt_heap HK1.out)).trans HK1.out)
  have fA : (w.alloc (.cells (cellsFr (fAt l n)) 91)).frozen? ⟨Bw, 0, none⟩ = false := box_frozen ((heap_alloc_old _ _ (lt_heap HK1.out)).trans HK1.out)
  go_enter Tryz.func235, Tryz.ntmps235
  go_wp2
  go_ret
  have hl : l = l.take n ++ [fAt l n] := by
    have h1 := List.take_append_drop n l
    rw [List.drop_eq_getElem_cons (by rw [← HN.out]; omega)] at h1
    have h2 : l.drop (n + 1) = [] := List.drop_of_length_le (by rw [← HN.out]; omega)
    have h3 : l[n]'(by rw [← HN.out]; omega) = fAt l n := by
      have h4 := fAt_get (l := l) (k := n) (by rw [← HN.out]; omega)
      rw [List.getElem?_eq_getElem (by rw [← HN.out]; omega)] at h4
      exact Option.some.inj h4
    rw [h2, h3] at h1
    exact h1.symm
  have hlen : (l.take n).length = n := by rw [List.length_take, ← HN.out]; omega
  have hg1 := pgrown_set (w.alloc (.cells (cellsFr (fAt l n)) 91)) Bw 0 (.slice (some ⟨g, 0, none⟩) n c)
  have hfin : StaysB K Bw w ((w.alloc (.cells (cellsFr (fAt l n)) 91)).setCell ⟨Bw, 0, none⟩ (.slice (some ⟨g, 0, none⟩) n c)) :=
    ⟨hg1.os, hg1.tape, hg1.output, Nat.le_trans (by rw [World.alloc_size']; omega) hg1.size, fun b h1 => (hg1.block b (by rw [World.alloc_size']; have := hG b h1.1; omega) (fun e => h1.2 (Option.some.inj e))).trans (heap_alloc_old _ _ (hG b h1.1))⟩
  have hrow : OwnF ((w.alloc (.cells (cellsFr (fAt l n)) 91)).setCell ⟨Bw, 0, none⟩ (.slice (some ⟨g, 0, none⟩) n c)) K (.slice (some ⟨g, 0, none⟩) n c) n (l.take n) := by
    refine ⟨?_, HK.out.2⟩
    have h0 := HK.out.1
    rw [hl, frV_append] at h0
    have h1 := ownsRow_pop (size := 2) (by rw [frV_len, hlen]) h0
    exact (h1.alloc _).kept hg1 (by
      right
      intro e
      have : g = Bw := Option.some.inj e
      exact hg (this ▸ hlt))
  refine ⟨rfl, ⟨⟨some ⟨g, 0, none⟩, c, ?_, ?_⟩, hlt, fun e he => ?_⟩, hfin⟩
  · rw [hlen, pheap_set _ Bw 0 _ _ _ ((heap_alloc_old _ _ (lt_heap HK1.out)).trans HK1.out)]
    rfl
  · rw [hlen]
    exact hrow
  · have he' := List.mem_of_mem_take he
    exact ⟨(HF.out.keys e he').1.stays (HF.out.keys e he').2 hfin, (HF.out.keys e he').2⟩
set_option maxRecDepth 100000 in
set_option maxHeartbeats 4000000 in
/-- A front goes into the heap. -/
theorem t_fhPush (K : Nat → Prop) (Bw : Nat) (l : List Fr) (x : Fr) (w : World) (h : FrAt w K Bw l) (hh : HeapL l) (hx : FrOk w K x ∧ x.q ≠ Bw) (hpos : ∀ e ∈ x :: l, 1 ≤ e.n) (hn : l.length ≤ 40000) (hG : ∀ b, K b → b < w.heap.size) :
    Calls Tryz.prog 54 #[frI Bw, .iface 91 (.agg #[.int .i64 (x.c : Int), .slice (some ⟨x.q, x.o, none⟩) x.n x.cap])] w fun e w' => e = .returned (.tuple #[]) ∧ ∃ l', l'.Perm (x :: l) ∧ HeapL l' ∧ FrAt w' K Bw l' ∧ StaysB K Bw w w' := by
  go_enter Tryz.func54, Tryz.ntmps54
  go_wp2_with (go_at_call 236; (with_reducible refine (t_fPush K Bw l x _ h hx (by omega) hG).mono ?_); rintro e w1 ⟨rfl, h1, h2⟩; have H1 := Lib.hid (And.intro h1 h2); clear h1 h2)
  obtain ⟨A, c, k1, k2⟩ := H1.out.1.row
  rw [show (l ++ [x]).length = l.length + 1 by simp] at k1 k2
  have hlt := H1.out.1.lt
  have hw := H1.out.2.size
  have hu : UpInv (fAt (l ++ [x])) (l ++ [x]).length l.length := by rw [show (l ++ [x]).length = l.length + 1 by simp]; exact UpInv.push hh x
  have HU := Lib.hid hu
  rw [fmLen _ _ _ (box_cell k1)]
  clear k1 k2 hu
  go_wp2_with (first
    | (go_at_call 228; (with_reducible refine (t_fLen A _ c _).mono ?_); rintro e w' ⟨rfl, rfl⟩)
    | (go_at_call 96; (with_reducible refine (t_fUp K Bw (l ++ [x]) l.length w1 H1.out.1 (by simp) HU.out (fun e he => hpos e ((List.mem_append.1 he).elim (List.mem_cons_of_mem _) (fun he => by rw [List.mem_singleton] at he; rw [he]; exact List.mem_cons_self))) (by simp; omega) (fun b hb => Nat.lt_of_lt_of_le (hG b hb) hw)).mono ?_); rintro e w2 ⟨rfl, l2, h1, h2, h3, h4⟩; have H2 := Lib.hid (And.intro h1 (And.intro h2 (And.intro h3 h4))); clear h1 h2 h3 h4))
  go_end0
  exact ⟨rfl, l2, H2.out.1.trans (List.perm_append_comm (l₁ := l) (l₂ := [x])), H2.out.2.1, H2.out.2.2.1, H1.out.2.trans' H2.out.2.2.2⟩
set_option maxRecDepth 100000 in
set_option maxHeartbeats 4000000 in
/-- The root has turned. -/
theorem t_fhFix (K : Nat → Prop) (Bw : Nat) (l : List Fr) (w : World) (h : FrAt w K Bw l) (hd : DownInv (fAt l) l.length 0) (h0 : 0 < l.length) (hpos : ∀ e ∈ l, 1 ≤ e.n) (hn : l.length ≤ 40000) (hG : ∀ b, K b → b < w.heap.size) :
    Calls Tryz.prog 56 #[frI Bw, .int .i64 0] w fun e w' => e = .returned (.tuple #[]) ∧ ∃ l', l'.Perm l ∧ HeapL l' ∧ FrAt w' K Bw l' ∧ StaysB K Bw w w' := by
  obtain ⟨A, c, k1, k2⟩ := h.row
  have cW := box_cell k1
  have HH := Lib.hid h
  have HD := Lib.hid hd
  clear k1 k2 h hd
  go_enter Tryz.func56, Tryz.ntmps56
  go_wp2
  rw [fmLen _ _ _ cW]
  go_wp2_with (first
    | (go_at_call 228; (with_reducible refine (t_fLen A _ c _).mono ?_); rintro e w' ⟨rfl, rfl⟩)
    | (go_at_call 97; (with_reducible refine (t_fDown K Bw l l.length _ HH.out h0 (Nat.le_refl _) HD.out (fun k hk => hpos _ (fAt_mem hk)) (by omega) hG).mono ?_); rintro e w2 ⟨hr, l2, h1, h2, h3, h4, h5⟩; obtain ⟨b, rfl⟩ := hr.get; have H2 := Lib.hid (And.intro h1 (And.intro h2 (And.intro h4 h5))); clear h1 h2 h3 h4 h5 hr; cases b)
    | (go_at_call 96; (with_reducible refine (t_fUp0 Bw _).mono ?_); rintro e w' ⟨rfl, rfl⟩))
  all_goals
    go_end0
    refine ⟨rfl, l2, H2.out.1, ?_, H2.out.2.2.1, H2.out.2.2.2⟩
    unfold HeapL
    rw [H2.out.1.length_eq]
    exact H2.out.2.1
/-- The list without its root. -/
theorem remove_list {e : Fr} {l l3 : List Fr} {n : Nat} (hn : n = l.length) (hp : l3.Perm (((e :: l).set 0 (fAt (e :: l) n)).set n (fAt (e :: l) 0))) (hh : HeapF (fAt l3) n) (ht : ∀ k, n ≤ k → fAt l3 k = fAt (((e :: l).set 0 (fAt (e :: l) n)).set n (fAt (e :: l) 0)) k) :
    (l3.take n).Perm l ∧ HeapL (l3.take n) := by
  have hp2 : (((e :: l).set 0 (fAt (e :: l) n)).set n (fAt (e :: l) 0)).Perm (e :: l) := swap_perm (e :: l) 0 n _ _ rfl (fAt_get (by simp; omega))
  have hlen : l3.length = n + 1 := by rw [(hp.trans hp2).length_eq]; simp; omega
  have hlast : fAt l3 n = e := by
    rw [ht n (Nat.le_refl _)]
    apply fAt_eq
    rw [List.getElem?_set_self (by simp; omega)]
    rfl
  have hsplit : l3 = l3.take n ++ [e] := by
    have h1 := List.take_append_drop n l3
    rw [List.drop_eq_getElem_cons (by omega), List.drop_of_length_le (by omega)] at h1
    have h4 := fAt_get (l := l3) (k := n) (by omega)
    rw [List.getElem?_eq_getElem (by omega)] at h4
    rw [Option.some.inj h4, hlast] at h1
    exact h1.symm
  have hl3 : (l3.take n).length = n := by rw [List.length_take]; omega
  refine ⟨?_, ?_⟩
  · have h1 := hp.trans hp2
    rw [hsplit] at h1
    exact (List.perm_cons e).1 ((List.perm_append_comm (l₁ := [e]) (l₂ := l3.take n)).trans h1)
  · unfold HeapL
    rw [hl3]
    exact hh.congr fun k hk => by unfold fAt; rw [List.getElem?_take_of_lt hk]
set_option maxRecDepth 100000 in
set_option maxHeartbeats 4000000 in
/-- The root goes. -/
theorem t_fhRemove (K : Nat → Prop) (Bw : Nat) (e0 : Fr) (l : List Fr) (w : World) (h : FrAt w K Bw (e0 :: l)) (hd : DownInv (fAt (((e0 :: l).set 0 (fAt (e0 :: l) l.length)).set l.length e0)) l.length 0) (hpos : ∀ e ∈ l, 1 ≤ e.n) (hn : l.length ≤ 40000) (hG : ∀ b, K b → b < w.heap.size) :
    Calls Tryz.prog 55 #[frI Bw, .int .i64 0] w fun e w' => (∃ v : Value, e = .returned v) ∧ ∃ l', l'.Perm l ∧ HeapL l' ∧ FrAt w' K Bw l' ∧ StaysB K Bw w w' := by
  obtain ⟨A, c, k1, k2⟩ := h.row
  obtain ⟨n, hnn⟩ : ∃ n, n = l.length := ⟨_, rfl⟩
  rw [List.length_cons, ← hnn] at k1 k2
  rw [← hnn] at hd hn
  have cW := box_cell k1
  have HH := Lib.hid h
  have HD : Hid (DownInv (fAt (((e0 :: l).set 0 (fAt (e0 :: l) n)).set n (fAt (e0 :: l) 0))) n 0) := hd
  have HN := Lib.hid hnn
  have HK := Lib.hid k2
  have HK1 := Lib.hid k1
  have HGr := Lib.hid hG
  have HPOS : Hid (∀ k, k < n → 1 ≤ (fAt (((e0 :: l).set 0 (fAt (e0 :: l) n)).set n (fAt (e0 :: l) 0)) k).n) := fun k hk => by
    rw [fAt_set (by simp) (by simp; omega)]
    unfold swapF
    rw [if_neg (by omega)]
    split
    · obtain ⟨m, rfl⟩ : ∃ q, n = q + 1 := ⟨n - 1, by omega⟩
      exact hpos _ (fAt_mem (l := l) (k := m) (by omega))
    · obtain ⟨m, rfl⟩ : ∃ q, k = q + 1 := ⟨k - 1, by omega⟩
      exact hpos _ (fAt_mem (l := l) (k := m) (by omega))
  clear k1 k2 h hd hnn hpos
  by_cases hn0 : n = 0
  · subst hn0
    go_enter Tryz.func55, Tryz.ntmps55
    go_wp2
    rw [fmLen _ _ _ cW]
    go_wp2_with (first
      | (go_at_call 228; (with_reducible refine (t_fLen A _ c _).mono ?_); rintro e w' ⟨rfl, rfl⟩)
      | (go_at_call 235; (with_reducible refine (t_fPop K Bw (e0 :: l) 0 _ HH.out (by rw [List.length_cons, ← HN.out]; omega) (by rw [List.length_cons, ← HN.out]) HGr.out).mono ?_); rintro e w2 ⟨rfl, h1, h2⟩; have H2 := Lib.hid (And.intro h1 h2); clear h1 h2))
    go_ret
    refine ⟨⟨_, rfl⟩, [], ?_, HeapL.nil, H2.out.1, H2.out.2⟩
    rw [List.length_eq_zero_iff.1 HN.out.symm]
  · have hn1 : 0 < n := by omega
    have hne : ((n : Int) != 0) = true := by simp; omega
    have HSW : Hid (Calls Tryz.prog 230 #[.slice A (n + 1) c, .int .i64 0, .int .i64 (n : Int)] w fun e w' => e = .returned (.tuple #[]) ∧ OwnF w' K (.slice A (n + 1) c) (n + 1) (((e0 :: l).set 0 (fAt (e0 :: l) n)).set n (fAt (e0 :: l) 0)) ∧ Stays K w w') := t_fSwap K (n + 1) c A (e0 :: l) 0 n w HK.out (by omega) (by omega) hn1 (by omega)
    clear hn0
    go_enter Tryz.func55, Tryz.ntmps55
    go_wp2
    rw [fmLen _ _ _ cW]
    go_wp2_with (first
      | (go_at_call 228; (with_reducible refine (t_fLen A _ c _).mono ?_); rintro e w' ⟨rfl, rfl⟩))
    rw [fmSwap _ _ _ cW]
    go_wp2_with (first
      | (go_at_call 230; (with_reducible refine HSW.out.mono ?_); rintro e w2 ⟨rfl, h1, h2⟩; have HS := Lib.hid (HH.out.swapped HK1.out (by rw [List.length_cons, ← HN.out]) (by omega : 0 < n + 1) (Nat.lt_succ_self n) (Stays.refl' _ _) h1 h2); clear h1 h2)
      | (go_at_call 97; (with_reducible refine (t_fDown K Bw _ n w2 HS.out.2.1 hn1 (by rw [HS.out.1.length_eq, List.length_cons, ← HN.out]; omega) HD.out HPOS.out (by rw [HS.out.1.length_eq, List.length_cons, ← HN.out]; omega) (fun b hb => Nat.lt_of_lt_of_le (HGr.out b hb) HS.out.2.2.size)).mono ?_); rintro e w3 ⟨hr, l3, h1, h2, h3, h4, h5⟩; obtain ⟨b, rfl⟩ := hr.get; have H3 := Lib.hid (And.intro h1 (And.intro h2 (And.intro h3 (And.intro h4 h5)))); clear h1 h2 h3 h4 h5 hr; cases b)
      | (go_at_call 96; (with_reducible refine (t_fUp0 Bw _).mono ?_); rintro e w' ⟨rfl, rfl⟩)
      | (go_at_call 235; go_loud ((with_reducible refine (t_fPop K Bw l3 n _ H3.out.2.2.2.1 (by rw [H3.out.1.length_eq, HS.out.1.length_eq, List.length_cons, ← HN.out]; omega) (by rw [H3.out.1.length_eq, HS.out.1.length_eq, List.length_cons, ← HN.out]) (fun b hb => Nat.lt_of_lt_of_le (HGr.out b hb) (Nat.le_trans HS.out.2.2.size H3.out.2.2.2.2.size))).mono ?_); rintro e w4 ⟨rfl, h1, h2⟩; have H4 := Lib.hid (And.intro h1 h2); clear h1 h2)))
    all_goals
      go_ret
      have hrem := remove_list HN.out H3.out.1 H3.out.2.1 H3.out.2.2.1
      exact ⟨⟨_, rfl⟩, l3.take n, hrem.1, hrem.2, H4.out.1, (HS.out.2.2.trans' H3.out.2.2.2.2).trans' H4.out.2⟩
end Go.Proofs.YtehckjkihaalfaaGreat

/- Merging rows, in plain words. -/
namespace Go.Proofs.YtehckjkihaalfaaGreat
open Go.RowKit Go.Maps

def Rising (l : List R) : Prop := l.Pairwise fun a b => a.stamp < b.stamp
/-- Rows rise; none is above its core's last stamp; no core, no row. -/
structure LogOk (x : PLog) : Prop where
  rising : ∀ k, k < 8 → Rising (x.rows k)
  last : ∀ k, k < 8 → ∀ r ∈ x.rows k, r.stamp ≤ x.last k
  out : ∀ k, x.cores ≤ k → x.rows k = []
/-- A record by its core and its place. -/
def recAt (x : PLog) (a : Nat × Nat) : R := rAt (x.rows a.1) a.2
def Valid (x : PLog) (a : Nat × Nat) : Prop := a.1 < x.cores ∧ a.2 < (x.rows a.1).length
def kLt (x : PLog) (a b : Nat × Nat) : Prop := (recAt x a).stamp < (recAt x b).stamp ∨ ((recAt x a).stamp = (recAt x b).stamp ∧ a.1 < b.1)
/-- What is merged. -/
structure IsMerge (x : PLog) (done : List (Nat × Nat)) : Prop where
  sort : done.Pairwise (kLt x)
  mem : ∀ a, a ∈ done ↔ Valid x a
theorem rising_at {l : List R} (h : Rising l) {i j : Nat} (hij : i < j) (hj : j < l.length) : (rAt l i).stamp < (rAt l j).stamp := by
  unfold rAt
  rw [List.getD_eq_getElem?_getD, List.getD_eq_getElem?_getD, List.getElem?_eq_getElem hj, List.getElem?_eq_getElem (by omega : i < l.length)]
  exact List.pairwise_iff_getElem.1 h i j (by omega) hj hij
theorem kLt_trans {x : PLog} {a b c : Nat × Nat} (h : kLt x a b) (k : kLt x b c) : kLt x a c := by unfold kLt at *; omega
theorem kLt_irrefl {x : PLog} {a : Nat × Nat} : ¬ kLt x a a := by unfold kLt; omega
structure Mg (x : PLog) (ps done : List (Nat × Nat)) : Prop where
  nd : (ps.map Prod.fst).Nodup
  val : ∀ a ∈ ps, Valid x a
  dv : ∀ d ∈ done, Valid x d
  cov : ∀ a, Valid x a → a ∈ done ∨ ∃ p, (a.1, p) ∈ ps ∧ p ≤ a.2
  sort : done.Pairwise (kLt x)
  low : ∀ d ∈ done, ∀ a ∈ ps, kLt x d a
theorem Mg.perm {x : PLog} {ps qs done : List (Nat × Nat)} (h : Mg x ps done) (hp : qs.Perm ps) : Mg x qs done :=
  ⟨(hp.map Prod.fst).nodup_iff.2 h.nd, fun a ha => h.val a (hp.mem_iff.1 ha), h.dv, fun a ha => (h.cov a ha).imp id fun ⟨p, h1, h2⟩ => ⟨p, hp.mem_iff.2 h1, h2⟩, h.sort, fun d hd a ha => h.low d hd a (hp.mem_iff.1 ha)⟩
theorem Mg.done {x : PLog} {done : List (Nat × Nat)} (h : Mg x [] done) : IsMerge x done :=
  ⟨h.sort, fun a => ⟨h.dv a, fun ha => (h.cov a ha).elim id fun ⟨p, h1, _⟩ => by simp at h1⟩⟩
theorem Mg.next_low {x : PLog} {a : Nat × Nat} {qs done : List (Nat × Nat)} (h : Mg x (a :: qs) done) (hl : ∀ b ∈ a :: qs, ¬ kLt x b a) : (∀ b ∈ qs, kLt x a b) ∧ (done ++ [a]).Pairwise (kLt x) ∧ (∀ d ∈ done ++ [a], Valid x d) ∧ ∀ d ∈ done ++ [a], ∀ b ∈ qs, kLt x d b := by
  have h1 : ∀ b ∈ qs, kLt x a b := fun b hb => by
    have h2 := hl b (by simp [hb])
    have h3 : a.1 ≠ b.1 := fun e => by
      have h4 := h.nd
      rw [List.map_cons, List.nodup_cons] at h4
      exact h4.1 (List.mem_map.2 ⟨b, hb, e.symm⟩)
    unfold kLt at *
    omega
  refine ⟨h1, ?_, ?_, ?_⟩
  · rw [List.pairwise_append]
    refine ⟨h.sort, List.pairwise_singleton _ _, fun d hd b hb => ?_⟩
    rw [List.mem_singleton] at hb
    subst hb
    exact h.low d hd b (by simp)
  · intro d hd
    rcases List.mem_append.1 hd with hd | hd
    · exact h.dv d hd
    · rw [List.mem_singleton] at hd
      subst hd
      exact h.val d (by simp)
  · intro d hd b hb
    rcases List.mem_append.1 hd with hd | hd
    · exact h.low d hd b (by simp [hb])
    · rw [List.mem_singleton] at hd
      subst hd
      exact h1 b hb
theorem Mg.next {x : PLog} (hx : LogOk x) (h8 : x.cores ≤ 8) {a : Nat × Nat} {qs done : List (Nat × Nat)} (h : Mg x (a :: qs) done) (hl : ∀ b ∈ a :: qs, ¬ kLt x b a) (hp : a.2 + 1 < (x.rows a.1).length) : Mg x ((a.1, a.2 + 1) :: qs) (done ++ [a]) := by
  obtain ⟨h1, h2, h3, h4⟩ := h.next_low hl
  have hv := h.val a (by simp)
  have h5 : kLt x a (a.1, a.2 + 1) := .inl (rising_at (hx.rising a.1 (Nat.lt_of_lt_of_le hv.1 h8)) (Nat.lt_succ_self _) hp)
  refine ⟨by simpa using h.nd, fun b hb => ?_, h3, fun b hb => ?_, h2, fun d hd b hb => ?_⟩
  · rcases List.mem_cons.1 hb with rfl | hb
    · exact ⟨hv.1, hp⟩
    · exact h.val b (by simp [hb])
  · rcases h.cov b hb with hh | ⟨p, hh, hpp⟩
    · exact .inl (by simp [hh])
    · rcases List.mem_cons.1 hh with hh | hh
      · by_cases e : b.2 = p
        · have : b = a := by rw [← hh, ← e]
          exact .inl (by simp [this])
        · exact .inr ⟨a.2 + 1, by rw [← hh]; simp, by rw [← hh]; show p + 1 ≤ b.2; omega⟩
      · exact .inr ⟨p, by simp [hh], hpp⟩
  · rcases List.mem_cons.1 hb with rfl | hb
    · rcases List.mem_append.1 hd with hd | hd
      · exact kLt_trans (h.low d hd a (by simp)) h5
      · rw [List.mem_singleton] at hd
        subst hd
        exact h5
    · exact h4 d hd b hb
theorem Mg.drop {x : PLog} {a : Nat × Nat} {qs done : List (Nat × Nat)} (h : Mg x (a :: qs) done) (hl : ∀ b ∈ a :: qs, ¬ kLt x b a) (hp : a.2 + 1 = (x.rows a.1).length) : Mg x qs (done ++ [a]) := by
  obtain ⟨h1, h2, h3, h4⟩ := h.next_low hl
  refine ⟨by have := h.nd; rw [List.map_cons, List.nodup_cons] at this; exact this.2, fun b hb => h.val b (by simp [hb]), h3, fun b hb => ?_, h2, h4⟩
  rcases h.cov b hb with hh | ⟨p, hh, hpp⟩
  · exact .inl (by simp [hh])
  · rcases List.mem_cons.1 hh with hh | hh
    · have hv := hb.2
      have e : a.1 = b.1 := by rw [← hh]
      have e2 : a.2 = p := by rw [← hh]
      rw [← e, ← hp] at hv
      have : b = a := by
        apply Prod.ext
        · exact e.symm
        · omega
      exact .inl (by simp [this])
    · exact .inr ⟨p, hh, hpp⟩
/-- A sorted list of distinct keys is told by what it has. -/
theorem sorted_unique {α : Type} {r : α → α → Prop} (hirr : ∀ a, ¬ r a a) (htr : ∀ a b c, r a b → r b c → r a c) : ∀ {l m : List α}, l.Pairwise r → m.Pairwise r → (∀ a, a ∈ l ↔ a ∈ m) → l = m
  | [], [], _, _, _ => rfl
  | [], b :: m, _, _, h => absurd ((h b).2 (by simp)) (by simp)
  | a :: l, [], _, _, h => absurd ((h a).1 (by simp)) (by simp)
  | a :: l, b :: m, h1, h2, h => by
    rw [List.pairwise_cons] at h1 h2
    have e : a = b := by
      rcases List.mem_cons.1 ((h a).1 (by simp)) with e | e
      · exact e
      · rcases List.mem_cons.1 ((h b).2 (by simp)) with e2 | e2
        · exact e2.symm
        · exact absurd (htr _ _ _ (h1.1 b e2) (h2.1 a e)) (hirr a)
    subst e
    congr 1
    refine sorted_unique hirr htr h1.2 h2.2 fun c => ⟨fun hc => ?_, fun hc => ?_⟩
    · rcases List.mem_cons.1 ((h c).1 (by simp [hc])) with e | e
      · subst e
        exact absurd (h1.1 c hc) (hirr c)
      · exact e
    · rcases List.mem_cons.1 ((h c).2 (by simp [hc])) with e | e
      · subst e
        exact absurd (h2.1 c hc) (hirr c)
      · exact e
theorem IsMerge.unique {x : PLog} {d e : List (Nat × Nat)} (h : IsMerge x d) (k : IsMerge x e) : d = e :=
  sorted_unique (fun _ => kLt_irrefl) (fun _ _ _ => kLt_trans) h.sort k.sort fun a => (h.mem a).trans (k.mem a).symm
theorem Pairwise.nodup_of {α : Type} {r : α → α → Prop} (hirr : ∀ a, ¬ r a a) {l : List α} (h : l.Pairwise r) : l.Nodup := by
  unfold List.Nodup
  exact h.imp fun {a b} hab => by intro e; subst e; exact hirr _ hab
theorem nodup_le_of {α : Type} [BEq α] [LawfulBEq α] : ∀ {l m : List α}, l.Nodup → (∀ a ∈ l, a ∈ m) → l.length ≤ m.length
  | [], _, _, _ => Nat.zero_le _
  | a :: l, m, h, hs => by
    rw [List.nodup_cons] at h
    have hm := hs a (by simp)
    have := nodup_le_of (l := l) (m := m.erase a) h.2 fun b hb => (List.mem_erase_of_ne (by intro e; subst e; exact h.1 hb)).2 (hs b (by simp [hb]))
    rw [List.length_erase_of_mem hm] at this
    have := List.length_pos_of_mem hm
    simp only [List.length_cons]
    omega
/-- At most 2048. -/
theorem valid_len {x : PLog} (h8 : x.cores ≤ 8) (hl : ∀ k, k < 8 → (x.rows k).length ≤ 256) {d : List (Nat × Nat)} (hs : d.Pairwise (kLt x)) (hv : ∀ a ∈ d, Valid x a) : d.length ≤ 2048 := by
  have h1 := nodup_le_of (m := (List.range 8).flatMap fun c => (List.range 256).map fun p => (c, p)) (Pairwise.nodup_of (fun _ => kLt_irrefl) hs) fun a ha => by
    obtain ⟨v1, v2⟩ := hv a ha
    rw [List.mem_flatMap]
    exact ⟨a.1, List.mem_range.2 (by omega), List.mem_map.2 ⟨a.2, List.mem_range.2 (by have := hl a.1 (by omega); omega), rfl⟩⟩
  have h2 : ((List.range 8).flatMap fun c => (List.range 256).map fun p => (c, p)).length = 2048 := by
    rw [List.length_flatMap]
    simp only [List.length_map, List.length_range]
    decide
  omega
/-- The fronts ahead of all. -/
def startPs (x : PLog) (i : Nat) : List (Nat × Nat) := ((List.range i).filter fun c => decide (0 < (x.rows c).length)).map fun c => (c, 0)
theorem startPs_succ (x : PLog) (i : Nat) : startPs x (i + 1) = startPs x i ++ (if 0 < (x.rows i).length then [(i, 0)] else []) := by
  unfold startPs
  rw [List.range_succ, List.filter_append, List.map_append]
  congr 1
  by_cases h : 0 < (x.rows i).length <;> simp [h]
theorem startPs_len (x : PLog) (i : Nat) : (startPs x i).length ≤ i := by
  unfold startPs
  rw [List.length_map]
  exact Nat.le_trans (List.length_filter_le _ _) (by simp)
theorem startPs_mem {x : PLog} {i : Nat} {a : Nat × Nat} : a ∈ startPs x i ↔ a.1 < i ∧ 0 < (x.rows a.1).length ∧ a.2 = 0 := by
  unfold startPs
  simp only [List.mem_map, List.mem_filter, List.mem_range, decide_eq_true_eq]
  constructor
  · rintro ⟨c, ⟨h1, h2⟩, rfl⟩
    exact ⟨h1, h2, rfl⟩
  · rintro ⟨h1, h2, h3⟩
    exact ⟨a.1, ⟨h1, h2⟩, Prod.ext rfl h3.symm⟩
theorem Mg.start (x : PLog) : Mg x (startPs x x.cores) [] := by
  refine ⟨?_, fun a ha => ?_, by simp, fun a ha => .inr ⟨0, startPs_mem.2 ⟨ha.1, Nat.lt_of_le_of_lt (Nat.zero_le _) ha.2, rfl⟩, Nat.zero_le _⟩, List.Pairwise.nil, by simp⟩
  · have : (startPs x x.cores).map Prod.fst = (List.range x.cores).filter fun c => decide (0 < (x.rows c).length) := by
      unfold startPs
      rw [List.map_map]
      exact List.map_id _
    rw [this]
    exact List.nodup_range.filter _
  · obtain ⟨h1, h2, h3⟩ := startPs_mem.1 ha
    exact ⟨h1, by rw [h3]; exact h2⟩
theorem perm_map {α β : Type} {f : α → β} {l m : List β} (h : l.Perm m) : ∀ ps, m = ps.map f → ∃ qs : List α, l = qs.map f ∧ qs.Perm ps := by
  induction h with
  | nil => exact fun ps hp => ⟨[], rfl, by rw [List.map_eq_nil_iff.1 hp.symm]⟩
  | cons a _ ih =>
    intro ps hp
    cases ps with
    | nil => simp at hp
    | cons b ps =>
      rw [List.map_cons] at hp
      injection hp with h1 h2
      obtain ⟨qs, h3, h4⟩ := ih ps h2
      exact ⟨b :: qs, by rw [h1, h3, List.map_cons], h4.cons b⟩
  | swap a b l =>
    intro ps hp
    match ps, hp with
    | [], hp => simp at hp
    | [_], hp => simp at hp
    | c :: d :: ps, hp =>
      simp only [List.map_cons, List.cons.injEq] at hp
      exact ⟨d :: c :: ps, by rw [hp.1, hp.2.1, hp.2.2, List.map_cons, List.map_cons], List.Perm.swap _ _ _⟩
  | trans _ _ ih1 ih2 =>
    intro ps hp
    obtain ⟨qs, h1, h2⟩ := ih2 ps hp
    obtain ⟨rs, h3, h4⟩ := ih1 qs h1
    exact ⟨rs, h3, h4.trans h2⟩
/-- A front of a core's row. -/
def capOf (v : Value) : Nat := match v with | .slice _ _ c => c | _ => 0
def frOf (vs : Nat → Value) (x : PLog) (a : Nat × Nat) : Fr := ⟨a.1, ((vs a.1).ownBlock).getD 0, a.2 * 12, (x.rows a.1).length - a.2, capOf (vs a.1) - a.2, (recAt x a).stamp⟩
theorem frOf_lt {vs : Nat → Value} {x : PLog} {a b : Nat × Nat} : frLt (frOf vs x a) (frOf vs x b) ↔ kLt x a b := Iff.rfl
theorem heap_least {vs : Nat → Value} {x : PLog} {a : Nat × Nat} {qs : List (Nat × Nat)} (h : HeapL ((a :: qs).map (frOf vs x))) : ∀ b ∈ a :: qs, ¬ kLt x b a := fun b hb => by
  have := HeapL.least (e := frOf vs x a) (l := qs.map (frOf vs x)) h (frOf vs x b) (by rw [← List.map_cons (f := frOf vs x)]; exact List.mem_map_of_mem hb)
  exact this
end Go.Proofs.YtehckjkihaalfaaGreat

/- Merge, walked. -/
namespace Go.Proofs.YtehckjkihaalfaaGreat
open Go.RowKit Go.Maps
section
variable {w w' wr W : World} {P : Nat} {ls : Nat → Value} {x : PLog} {s : Nat} {g : Option Nat} {ps qs : List (Nat × Nat)}
theorem rAt_get2 {l : List R} {k : Nat} (h : k < l.length) : l[k]? = some (rAt l k) := by
  unfold rAt
  rw [List.getD_eq_getElem?_getD, List.getElem?_eq_getElem h]
  rfl
/-- A front of a log in memory. -/
theorem LogAt.fr (h : LogAt w P ls x) {a : Nat × Nat} (ha : Valid x a) :
    ∃ q cap, ls a.1 = .slice (some ⟨q, 0, none⟩) (x.rows a.1).length cap ∧ (x.rows a.1).length ≤ cap ∧ frOf ls x a = ⟨a.1, q, a.2 * 12, (x.rows a.1).length - a.2, cap - a.2, (recAt x a).stamp⟩ ∧ P < q ∧ q < w.heap.size ∧ ∀ j v, (cellsR (recAt x a))[j]? = some v → w.cell? ⟨q, a.2 * 12 + j, none⟩ = some v := by
  have h8 : a.1 < 8 := Nat.lt_of_lt_of_le ha.1 h.cores8.2
  have ho := h.own a.1 h8
  obtain ⟨A, cap, hA⟩ := h.slice h8
  rw [hA] at ho
  rcases ho.2 with ⟨h', h1⟩ | ⟨q, cap', cur, h', hb, hc, h1, h2⟩
  · have := ha.2
    omega
  · simp only [Value.slice.injEq] at h'
    obtain ⟨rfl, _, rfl⟩ := h'
    have hq := h.blkLt h8 (q := q) (by rw [hA]; rfl)
    refine ⟨q, cap, hA, by omega, ?_, hq.1, hq.2, fun j v hj => ?_⟩
    · unfold frOf
      rw [hA]
      rfl
    · have hj12 : j < 12 := (Array.getElem?_eq_some_iff.1 hj).1
      rw [ho.cellAt _ (by have := ha.2; omega)]
      exact flatR_get (rAt_get2 ha.2) hj
def KgM (s : Nat) (g : Option Nat) (b : Nat) : Prop := b ≤ s ∨ g = some b
/-- Fronts in a heap beside a log. -/
structure InM (w : World) (ls : Nat → Value) (x : PLog) (s : Nat) (g : Option Nat) (wr : World) (ps : List (Nat × Nat)) : Prop where
  heap : HeapL (ps.map (frOf ls x))
  at_ : FrAt wr (KgM s g) s (ps.map (frOf ls x))
  below : Below w.heap.size w wr
  gt : ∀ b, g = some b → b < wr.heap.size
theorem InM.lt (h : InM w ls x s g wr ps) : ∀ b, KgM s g b → b < wr.heap.size := fun b hb => by
  rcases hb with hb | hb
  · obtain ⟨A, c, h1, _⟩ := h.at_.row
    exact Nat.lt_of_le_of_lt hb (lt_heap h1)
  · exact h.gt b hb
theorem Below.of_stays {K : Nat → Prop} {B : Nat} (h1 : Below w.heap.size w wr) (h2 : StaysB K B wr W) (hK : ∀ b, b < w.heap.size → K b ∧ b ≠ B) : Below w.heap.size w W :=
  ⟨h2.os.trans h1.os, h2.tape.trans h1.tape, h2.output.trans h1.output, Nat.le_trans h1.size h2.size, fun b hb => (h2.old b (hK b hb)).trans (h1.block b hb)⟩
/-- What a turn of the heap leaves. -/
theorem InM.next (h : InM w ls x s g wr ps) (hs : s = w.heap.size) {l' : List Fr} (hp : l'.Perm (qs.map (frOf ls x))) (hh : HeapL l') (ha : FrAt W (KgM s g) s l') (hb : StaysB (KgM s g) s wr W) : ∃ rs, rs.Perm qs ∧ InM w ls x s g W rs := by
  obtain ⟨rs, rfl, h2⟩ := perm_map hp qs rfl
  exact ⟨rs, h2, hh, ha, Below.of_stays h.below hb fun b hb => ⟨.inl (by omega), by omega⟩, fun b hb' => Nat.lt_of_lt_of_le (h.gt b hb') hb.size⟩
/-- The row that is merged into grows. -/
theorem InM.append (h : InM w ls x s g wr ps) (hL : LogAt w P ls x) (hs : s = w.heap.size) (hv : ∀ a ∈ ps, Valid x a) {o : Obj} {g' : Option Nat} (hgs : ∀ b, g = some b → s < b) (hg : (wr.alloc o).grownBy W g) (hg' : ∀ b, g' = some b → g = some b ∨ (wr.alloc o).heap.size ≤ b) (hlt : ∀ b, g' = some b → b < W.heap.size) : InM w ls x s g' W ps := by
  obtain ⟨A, c, k1, k2⟩ := h.at_.row
  have hsw : s < wr.heap.size := lt_heap k1
  have hsz : (wr.alloc o).heap.size = wr.heap.size + 1 := by simp
  have hsame : ∀ b, b < wr.heap.size → g ≠ some b → W.heap[b]? = wr.heap[b]? := fun b hb hne => (hg.block b (by omega) (fun e => hne e.symm)).trans (heap_alloc_old _ _ hb)
  have hgne : ∀ b, b ≤ s → g ≠ some b := fun b hb e => by have := hgs b e; omega
  have hbW : Below w.heap.size w W := ⟨hg.os.trans h.below.os, hg.tape.trans h.below.tape, hg.output.trans h.below.output, by have := hg.size; have := h.below.size; omega, fun b hb => (hsame b (by omega) (hgne b (by omega))).trans (h.below.block b hb)⟩
  have hLW := hL.below hbW
  refine ⟨h.heap, ⟨⟨A, c, (hsame s hsw (hgne s (Nat.le_refl _))).trans k1, ⟨own_same k2.1 fun z hz => hsame z (k2.1.lt z hz).2 (fun e => k2.2 z hz (.inr e)), fun z hz hk => ?_⟩⟩, .inl (Nat.le_refl _), fun e he => ?_⟩, hbW, hlt⟩
  · rcases hk with hk | hk
    · exact k2.2 z hz (.inl hk)
    · rcases hg' z hk with hk2 | hk2
      · exact k2.2 z hz (.inr hk2)
      · have := (k2.1.lt z hz).2
        omega
  · obtain ⟨a, ha, rfl⟩ := List.mem_map.1 he
    obtain ⟨q, cap, f1, f2, f3, f4, f5, f6⟩ := hL.fr (hv a ha)
    obtain ⟨q', cap', f1', f2', f3', f4', f5', f6'⟩ := hLW.fr (hv a ha)
    rw [f1] at f1'
    simp only [Value.slice.injEq, Option.some.injEq, Addr.mk.injEq] at f1'
    obtain ⟨⟨rfl, _⟩, _, rfl⟩ := f1'
    rw [f3]
    exact ⟨⟨fun _ => f6' 0 _ rfl, .inl (by show q ≤ s; omega)⟩, by show q ≠ s; omega⟩
/-- The root is another one. -/
theorem FrAt.setRoot {K : Nat → Prop} {e e' : Fr} {l : List Fr} {g2 c : Nat} (h : FrAt wr K s (e :: l)) (k1 : wr.heap[s]? = some (.cells #[.slice (some ⟨g2, 0, none⟩) (l.length + 1) c] 87 (0, 0))) (hc : e'.c = e.c) (hG : ∀ b, K b → b < wr.heap.size)
    (hok : ∀ W, StaysB K s wr W → FrOk W K e' ∧ e'.q ≠ s) : FrAt (wr.setCell ⟨g2, 1, none⟩ (.slice (some ⟨e'.q, e'.o, none⟩) e'.n e'.cap)) K s (e' :: l) ∧ StaysB K s wr (wr.setCell ⟨g2, 1, none⟩ (.slice (some ⟨e'.q, e'.o, none⟩) e'.n e'.cap)) ∧
      (wr.setCell ⟨g2, 1, none⟩ (.slice (some ⟨e'.q, e'.o, none⟩) e'.n e'.cap)).heap[s]? = some (.cells #[.slice (some ⟨g2, 0, none⟩) (l.length + 1) c] 87 (0, 0)) := by
  obtain ⟨A, c2, k3, k2⟩ := h.row
  rw [List.length_cons] at k3 k2
  have kk := k1.symm.trans k3
  simp only [Option.some.injEq, Obj.cells.injEq, Array.mk.injEq, List.cons.injEq, Value.slice.injEq, and_true] at kk
  obtain ⟨rfl, _, rfl⟩ : A = some ⟨g2, 0, none⟩ ∧ True ∧ c2 = c := by
    have := kk
    refine ⟨?_, trivial, ?_⟩
    · simp_all
    · simp_all
  have hg2 : ¬ K g2 := k2.2 g2 rfl
  have hne : ∀ b, K b → b ≠ g2 := fun b hb e => hg2 (e ▸ hb)
  have hst : StaysB K s wr (wr.setCell ⟨g2, 1, none⟩ (.slice (some ⟨e'.q, e'.o, none⟩) e'.n e'.cap)) := ⟨rfl, rfl, rfl, by simp, fun b hb => heap_setCell_other _ ⟨g2, 1, none⟩ b _ (hne b hb.1)⟩
  have hbox : (wr.setCell ⟨g2, 1, none⟩ (.slice (some ⟨e'.q, e'.o, none⟩) e'.n e'.cap)).heap[s]? = some (.cells #[.slice (some ⟨g2, 0, none⟩) (l.length + 1) c2] 87 (0, 0)) := (heap_setCell_other _ ⟨g2, 1, none⟩ s _ (hne s h.lt)).trans k3
  refine ⟨⟨⟨_, _, hbox, ?_, k2.2⟩, h.lt, fun e0 he => ?_⟩, hst, hbox⟩
  · have := (k2.1.stored 1 (.slice (some ⟨e'.q, e'.o, none⟩) e'.n e'.cap)).1
    rw [show frV (e' :: l) = (frV (e :: l)).set 1 (.slice (some ⟨e'.q, e'.o, none⟩) e'.n e'.cap) by unfold frV; simp [Fr.cells, hc]]
    exact this
  · rcases List.mem_cons.1 he with rfl | he
    · exact hok _ hst
    · have := h.keys e0 (List.mem_cons_of_mem _ he)
      exact ⟨this.1.stays this.2 hst, this.2⟩
theorem InM.start (hs : s = w.heap.size) : InM w ls x s none (w.alloc (.cells #[.slice none 0 0] 87)) [] := by
  subst hs
  exact ⟨HeapL.nil, ⟨⟨none, 0, heap_alloc_new _ _, World.ownsRow_nil _ _ _ _, fun q hq => by cases hq⟩, .inl (Nat.le_refl _), fun e he => by simp at he⟩, (Below.refl _ _).alloc (Nat.le_refl _) _, fun b hb => by cases hb⟩
end
theorem wpList_append_rec2 {ops : Array Oper} {rest : List Oper} {o : Oper} {a : Act} {Q : Exit → Act → World → Prop} {w : World} (hgd : o.guard = none) (s x : Operand)
    (ho : o.op = .call { callee := .builtin .append, args := #[s, x], argTypes := #[37, 37] })
    (base : Nat) (v : Value) (l : List R) (n k : Nat) (hn : l.length = n) (hk : n + 1 = k) (hs : a.eval s = v) (hown : w.ownsRow base 34 12 v n (flatR l)) (q : Nat) (p : R) (hx : a.eval x = .slice (some ⟨q, 0, none⟩) 1 1)
    (hq : w.heap[q]? = some (.cells (cellsR p) 34 (0, 0))) (hl : n ≤ 100000) (hbase : base ≤ w.heap.size)
    (h : ∀ A1 c1 w', w'.ownsRow base 34 12 (.slice A1 k c1) k (flatR (l ++ [p])) → w.grownBy w' v.ownBlock → (∀ z, (Value.slice A1 k c1).ownBlock = some z → v.ownBlock = some z ∨ w.heap.size ≤ z) → wpList Tryz.prog ops Q rest (a.put o.dst (.slice A1 k c1)) w') : wpList Tryz.prog ops Q (o :: rest) a w :=
  wpList_plain hgd fun _ hK => by
    subst hk
    obtain ⟨v', w', hrun, h2, h3, h4⟩ := run_append_rec2 base o.type w v l n hn hown q p hq hl hbase
    unfold Oper.wp execOp
    simp only [ho, resolve, invoke, builtin, Sem.run_bind, Sem.run_pure, Result.andThen_ok, List.map_toArray, List.map_cons, List.map_nil, hs, hx, hrun]
    obtain ⟨A1, c1, rfl⟩ := row_slice h2
    exact hK _ _ (h A1 c1 w' h2 h3 h4)
def lenOf (v : Value) : Nat := match v with | .slice _ n _ => n | _ => 0
set_option maxRecDepth 100000 in
set_option maxHeartbeats 4000000 in
theorem t_merge (P : Nat) (ls : Nat → Value) (x : PLog) (w : World) (h : LogAt w P ls x) (hx : LogOk x) :
    Calls Tryz.prog 14 #[.pointer (some ⟨P, 0, none⟩)] w fun e w' => ∃ A c done, e = .returned (.slice A done.length c) ∧ IsMerge x done ∧ w'.ownsRow w.heap.size 34 12 (.slice A done.length c) done.length (flatR (done.map (recAt x))) ∧ Below w.heap.size w w' := by
  have HH := Lib.hid h
  have h8 := h.cores8
  have c0 : (w.alloc (.cells #[.slice none 0 0] 87)).cell? ⟨P, 0, none⟩ = some (.int .i64 (x.cores : Int)) := (h.below (below_a1' w _)).c0
  obtain ⟨s, hs⟩ : ∃ s, s = w.heap.size := ⟨_, rfl⟩
  have HS := Lib.hid hs
  have HX := Lib.hid hx
  clear h hs hx
  go_enter Tryz.func14, Tryz.ntmps14
  go_wp2
  rw [← HS.out]
  go_loopw [11] (fun v wr => ∃ (i : Nat) (ps : List (Nat × Nat)), v = .int .i64 (i : Int) ∧ i ≤ x.cores ∧ Hid (ps.Perm (startPs x i) ∧ InM w ls x s none wr ps)) (fun v _ => x.cores - (intOf v).toNat)
  case atStart => exact ⟨0, [], rfl, Nat.zero_le _, List.Perm.refl _, InM.start HS.out⟩
  case round =>
    obtain ⟨i, ps, rfl, hi, HI⟩ := hrel
    have HLr := Lib.hid (HH.out.below HI.out.2.below)
    by_cases hic : i < x.cores
    · have hi8 : i < 8 := by omega
      have hi8' : ((i : Nat) : Int) < 8 := by omega
      have crow := HLr.out.row hi8
      obtain ⟨A, cap, hsl⟩ := HLr.out.slice hi8
      obtain ⟨n, hn⟩ : ∃ n, n = (x.rows i).length := ⟨_, rfl⟩
      rw [← hn] at hsl
      have HSL := Lib.hid hsl
      rw [hsl] at crow
      have HN := Lib.hid hn
      clear hsl hn
      by_cases hn0 : n = 0
      · subst hn0
        go_wp2
        go_roundw
        case rel =>
          refine ⟨i + 1, ps, rfl, hic, ?_, HI.out.2⟩
          rw [startPs_succ, if_neg (by rw [← HN.out]; omega), List.append_nil]
          exact HI.out.1
        case measure => simp only [intOf]; omega
      · have hn1 : 0 < n := by omega
        have hv : Valid x (i, 0) := ⟨hic, by show 0 < (x.rows i).length; rw [← HN.out]; exact hn1⟩
        obtain ⟨q, cap', f1, f2, f3, f4, f5, f6⟩ := HLr.out.fr hv
        have f1' : ls i = .slice (some ⟨q, 0, none⟩) n cap' := by rw [HN.out]; exact f1
        rw [HSL.out] at f1'
        simp only [Value.slice.injEq] at f1'
        obtain ⟨rfl, _, rfl⟩ := f1'
        have hpl : ps.length ≤ 40000 := by have := HI.out.1.length_eq; have := startPs_len x i; omega
        have hqs : q < s := by rw [HS.out]; exact (HH.out.blkLt hi8 (q := q) (by rw [HSL.out]; rfl)).2
        have HPU : Hid (Calls Tryz.prog 54 #[frI s, .iface 91 (.agg #[.int .i64 (i : Int), .slice (some ⟨q, 0, none⟩) n cap])] wr fun e w' => e = .returned (.tuple #[]) ∧ ∃ rs, rs.Perm ((i, 0) :: ps) ∧ InM w ls x s none w' rs) := by
          have hp := t_fhPush (KgM s none) s (ps.map (frOf ls x)) (frOf ls x (i, 0)) wr HI.out.2.at_ HI.out.2.heap (by
            rw [f3]
            exact ⟨⟨fun _ => f6 0 _ rfl, .inl (by show q ≤ s; omega)⟩, by show q ≠ s; omega⟩) (fun e he => by
            rw [← List.map_cons (f := frOf ls x)] at he
            obtain ⟨a, ha, rfl⟩ := List.mem_map.1 he
            show 1 ≤ (x.rows a.1).length - a.2
            rcases List.mem_cons.1 ha with rfl | ha
            · have := hv.2
              omega
            · have := startPs_mem.1 (HI.out.1.mem_iff.1 ha)
              omega) (by rw [List.length_map]; exact hpl) HI.out.2.lt
          rw [f3] at hp
          rw [show (x.rows (i, 0).1).length = n from HN.out.symm] at hp
          refine hp.mono fun e w' hh => ⟨hh.1, ?_⟩
          obtain ⟨l', g1, g2, g3, g4⟩ := hh.2
          rw [show (x.rows (i, 0).1).length = n from HN.out.symm] at f3
          rw [← f3, ← List.map_cons (f := frOf ls x)] at g1
          exact HI.out.2.next HS.out g1 g2 g3 g4
        clear f1 f3 f6 hv
        go_wp2_with (go_at_call 54; (with_reducible refine HPU.out.mono ?_); rintro e w2 ⟨rfl, rs, h1, h2⟩; have H2 := Lib.hid (And.intro h1 h2); clear h1 h2)
        go_roundw
        case rel =>
          refine ⟨i + 1, rs, rfl, hic, ?_, H2.out.2⟩
          rw [startPs_succ, if_pos (by rw [← HN.out]; omega)]
          exact (H2.out.1.trans (HI.out.1.cons _)).trans (List.perm_append_comm (l₁ := [(i, 0)]) (l₂ := startPs x i))
        case measure => simp only [intOf]; omega
    · obtain rfl : i = x.cores := by omega
      have hmg : Hid (Mg x ps []) := (Mg.start x).perm HI.out.1
      go_wp2
      go_loopw [2] (fun v W => ∃ (A : Option Addr) (N c : Nat), v = .slice A N c ∧ N ≤ 2048 ∧ Hid (∃ ps done, done.length = N ∧ Mg x ps done ∧ InM w ls x s (Value.slice A N c).ownBlock W ps ∧ W.ownsRow (s + 1) 34 12 (.slice A N c) N (flatR (done.map (recAt x))))) (fun v _ => 2048 - lenOf v)
      case atStart => exact ⟨none, 0, 0, rfl, by omega, ps, [], rfl, hmg.out, HI.out.2, World.ownsRow_nil _ _ _ _⟩
      case round =>
        clear HI hmg HLr hic hi
        obtain ⟨A, N, c, rfl, hN, HI⟩ := hrel
        have hi2 := HI.out
        obtain ⟨ps, done, hd, hm, hI, how⟩ := hi2
        have HD := Lib.hid hd
        have HM := Lib.hid hm
        have HIM := Lib.hid hI
        have HOW := Lib.hid how
        have hf := hI.at_
        clear HI hd hm hI how
        cases ps with
        | nil =>
          obtain ⟨A2, c2, k1, _⟩ := hf.row
          have cW := box_cell k1
          clear k1 hf
          go_wp2
          go_ret
          refine ⟨A, c, done, by rw [HD.out]; rfl, HM.out.done, ?_, HIM.out.below⟩
          rw [HD.out, ← HS.out]
          exact own_low HOW.out (by omega)
        | cons a qs =>
          obtain ⟨A2, c2, k1, k2⟩ := hf.row
          rw [List.length_map, List.length_cons] at k1 k2
          obtain ⟨g2, rfl, hg2, hl2, cx, cx1, fx⟩ := fr_cell (k := 0) k2 (Nat.succ_pos _)
          have hv := HM.out.val a (by simp)
          obtain ⟨q, cap, f1, f2, f3, f4, f5, f6⟩ := (HH.out.below HIM.out.below).fr hv
          rw [show fAt ((a :: qs).map (frOf ls x)) 0 = frOf ls x a from rfl, f3] at cx1
          obtain ⟨n, hn⟩ : ∃ n, n = (x.rows a.1).length - a.2 := ⟨_, rfl⟩
          obtain ⟨o, ho⟩ : ∃ o, o = a.2 * 12 := ⟨_, rfl⟩
          rw [← hn, ← ho] at cx1
          rw [← ho] at f6
          have hn0 : 0 < n := by have := hv.2; omega
          have cW := box_cell k1
          obtain ⟨m, hmm⟩ : ∃ m, m = qs.length := ⟨_, rfl⟩
          rw [← hmm] at cW
          obtain ⟨r, hr⟩ : ∃ r, r = recAt x a := ⟨_, rfl⟩
          rw [← hr] at f6
          have r0 := f6 0 _ rfl
          rw [Nat.add_zero] at r0
          have r1 := f6 1 _ rfl
          have r2 := f6 2 _ rfl
          have r3 := f6 3 _ rfl
          have r4 := f6 4 _ rfl
          have r5 := f6 5 _ rfl
          have r6 := f6 6 _ rfl
          have r7 := f6 7 _ rfl
          have r8 := f6 8 _ rfl
          have r9 := f6 9 _ rfl
          have r10 := f6 10 _ rfl
          have r11 := f6 11 _ rfl
          have HQ := Lib.hid (And.intro f1 (And.intro f2 (And.intro f3 (And.intro f4 f5))))
          have HN := Lib.hid hn
          have HO := Lib.hid ho
          have HMM := Lib.hid hmm
          have HR := Lib.hid hr
          have HV := Lib.hid hv
          clear f1 f2 f3 f4 f5 f6 hn ho hmm hr hv k1 k2 hf cx hl2 fx
          go_wp2_with (at_builtin; refine wpList_append_rec2 rfl _ _ rfl (s + 1) _ (done.map (recAt x)) N (N + 1) (by rw [List.length_map]; exact HD.out) rfl rfl (HOW.out.alloc _) wr.heap.size r rfl (heap_alloc_new _ _) (by omega) (by rw [World.alloc_size']; have := HIM.out.lt s (.inl (Nat.le_refl _)); omega) ?_; intro A2 d2 W4 g4 g5 g6; have H4 := Lib.hid (And.intro g4 (And.intro g5 g6)); clear g4 g5 g6)
          have hgs : ∀ b, (Value.slice A N c).ownBlock = some b → s < b := fun b hb => (HOW.out.lt b hb).1
          have hlt4 : ∀ b, (Value.slice A2 (N + 1) d2).ownBlock = some b → b < W4.heap.size := fun b hb => (H4.out.1.lt b hb).2
          have hm4 := HIM.out.append HH.out HS.out (fun b hb => HM.out.val b hb) hgs H4.out.2.1 H4.out.2.2 hlt4
          have hf4 := hm4.at_
          have HM4 := Lib.hid hm4
          have HBL4 := Lib.hid hm4.below
          obtain ⟨A3, c3, k1, k2⟩ := hf4.row
          rw [List.length_map, List.length_cons, ← HMM.out] at k1 k2
          obtain ⟨g3, rfl, hg3, hl3, cy, cy1, fy⟩ := fr_cell (k := 0) k2 (Nat.succ_pos _)
          rw [show fAt ((a :: qs).map (frOf ls x)) 0 = frOf ls x a from rfl, HQ.out.2.2.1, ← HN.out, ← HO.out] at cy1
          obtain ⟨cc, hcc⟩ : ∃ cc, cc = cap - a.2 := ⟨_, rfl⟩
          rw [← hcc] at cy1
          have hccn : n ≤ cc := by have h1 := HQ.out.2.1; have h2 := HN.out; omega
          have HCC := Lib.hid hcc
          have HK1 := Lib.hid k1
          have cW4 := box_cell k1
          have fy1 : W4.frozen? ⟨g3, 1, none⟩ = false := fy _
          have hsg : ¬ s = g3 := fun e => hg3 (e ▸ .inl (Nat.le_refl _))
          have hgs3 : ¬ g3 = s := fun e => hsg e.symm
          have HG3 := Lib.hid hg3
          clear hgs hlt4 hm4 hf4 k1 k2 hl3 cy fy hcc hg3
          obtain ⟨n, rfl⟩ : ∃ k, n = k + 1 := ⟨n - 1, by omega⟩
          obtain ⟨cc, rfl⟩ : ∃ k, cc = k + 1 := ⟨cc - 1, by omega⟩
          obtain ⟨o5, ho5, ho6⟩ : ∃ o5, (if cc = 0 then some (⟨q, o, none⟩ : Addr) else some ⟨q, o + 12, none⟩) = some ⟨q, o5, none⟩ ∧ (1 ≤ n → o5 = o + 12) := by
            by_cases h0 : cc = 0
            · exact ⟨o, by rw [if_pos h0], fun h => by omega⟩
            · exact ⟨o + 12, by rw [if_neg h0], fun _ => rfl⟩
          have HO5 := Lib.hid ho5
          have HO6 := Lib.hid ho6
          clear ho5 ho6
          have hqs : q < s := by
            have h1 := HQ.out.1
            rw [HS.out]
            exact (HH.out.blkLt (Nat.lt_of_lt_of_le HV.out.1 h8.2) (q := q) (by rw [h1]; rfl)).2
          have hle := heap_least HIM.out.heap
          have HLE := Lib.hid hle
          have hnext : 1 ≤ n → Valid x (a.1, a.2 + 1) := fun h => ⟨HV.out.1, by show a.2 + 1 < (x.rows a.1).length; have := HN.out; omega⟩
          have HNEXT := Lib.hid hnext
          have hok5 : ∀ W, StaysB (KgM s (Value.slice A2 (N + 1) d2).ownBlock) s W4 W → FrOk W (KgM s (Value.slice A2 (N + 1) d2).ownBlock) ⟨a.1, q, o5, n, cc, (recAt x (a.1, a.2 + 1)).stamp⟩ ∧ q ≠ s := fun W hW => by
            refine ⟨⟨fun h1 => ?_, .inl (by show q ≤ s; omega)⟩, by omega⟩
            have hb := Below.of_stays HBL4.out hW fun b hb => ⟨.inl (by have := HS.out; omega), by have := HS.out; omega⟩
            obtain ⟨q', cap', f1, f2, f3, f4, f5, f6⟩ := (HH.out.below hb).fr (hnext h1)
            have h2 := HQ.out.1
            rw [show ls (a.1, a.2 + 1).1 = ls a.1 from rfl, h2] at f1
            simp only [Value.slice.injEq, Option.some.injEq, Addr.mk.injEq] at f1
            obtain ⟨⟨rfl, _⟩, _, rfl⟩ := f1
            have h3 := f6 0 _ rfl
            rw [show (a.1, a.2 + 1).2 * 12 + 0 = o5 by rw [HO6.out h1, HO.out]; show (a.2 + 1) * 12 + 0 = a.2 * 12 + 12; omega] at h3
            exact h3
          have hroot := FrAt.setRoot (e' := ⟨a.1, q, o5, n, cc, (recAt x (a.1, a.2 + 1)).stamp⟩) (e := frOf ls x a) (l := qs.map (frOf ls x)) HM4.out.at_ (g2 := g3) (c := c3) (by rw [List.length_map, ← HMM.out]; exact HK1.out) rfl HM4.out.lt hok5
          have HROOT := Lib.hid hroot
          have hfr5 : 1 ≤ n → (⟨a.1, q, o5, n, cc, (recAt x (a.1, a.2 + 1)).stamp⟩ : Fr) = frOf ls x (a.1, a.2 + 1) := fun h1 => by
            obtain ⟨q', cap', f1, f2, f3, f4, f5, f6⟩ := HH.out.fr (hnext h1)
            have h2 := HQ.out.1
            rw [show ls (a.1, a.2 + 1).1 = ls a.1 from rfl, h2] at f1
            simp only [Value.slice.injEq, Option.some.injEq, Addr.mk.injEq] at f1
            obtain ⟨⟨rfl, _⟩, _, rfl⟩ := f1
            rw [f3, HO6.out h1, HO.out]
            have e1 := HN.out
            have e2 := HCC.out
            rw [Fr.mk.injEq]
            refine ⟨rfl, rfl, ?_, ?_, ?_, rfl⟩
            · show a.2 * 12 + 12 = (a.2 + 1) * 12
              omega
            · show n = (x.rows a.1).length - (a.2 + 1)
              omega
            · show cc = cap - (a.2 + 1)
              omega
          have HFR5 := Lib.hid hfr5
          have hposq : ∀ e ∈ qs.map (frOf ls x), 1 ≤ e.n := fun e he => by
            obtain ⟨b, hb, rfl⟩ := List.mem_map.1 he
            have := (HM.out.val b (by simp [hb])).2
            show 1 ≤ (x.rows b.1).length - b.2
            omega
          have HPOSQ := Lib.hid hposq
          have hqlen : qs.length ≤ 30000 := by
            have h1 := nodup_le 8 (qs.map Prod.fst) (by have h2 := HM.out.nd; rw [List.map_cons, List.nodup_cons] at h2; exact h2.2) (fun k hk => by
              obtain ⟨b, hb, rfl⟩ := List.mem_map.1 hk
              have := (HM.out.val b (by simp [hb])).1
              omega)
            rw [List.length_map] at h1
            omega
          have HQLEN := Lib.hid hqlen
          clear hqs hle hnext hok5 hroot hfr5 hposq hqlen
          go_wp2
          go_region
          rw [HO5.out]
          have hb5 := below_drewN2 (W4.setCell ⟨g3, 1, none⟩ (.slice (some ⟨q, o5, none⟩) n cc)) 1
          have hR5 := HROOT.out
          have hG5 : ∀ b, KgM s (Value.slice A2 (N + 1) d2).ownBlock b → b < (W4.setCell ⟨g3, 1, none⟩ (.slice (some ⟨q, o5, none⟩) n cc)).heap.size := fun b hb => Nat.lt_of_lt_of_le (HM4.out.lt b hb) hR5.2.1.size
          have hF5 : FrAt ((W4.setCell ⟨g3, 1, none⟩ (.slice (some ⟨q, o5, none⟩) n cc)).drew) (KgM s (Value.slice A2 (N + 1) d2).ownBlock) s (⟨a.1, q, o5, n, cc, (recAt x (a.1, a.2 + 1)).stamp⟩ :: qs.map (frOf ls x)) := hR5.1.same hb5 hG5
          have hS5 : StaysB (KgM s (Value.slice A2 (N + 1) d2).ownBlock) s W4 ((W4.setCell ⟨g3, 1, none⟩ (.slice (some ⟨q, o5, none⟩) n cc)).drew) := hR5.2.1.trans' (Stays.belowB hb5 hG5)
          clear hb5 hR5 hG5
          generalize (W4.setCell ⟨g3, 1, none⟩ (.slice (some ⟨q, o5, none⟩) n cc)).drew = W5 at hF5 hS5 ⊢
          obtain ⟨A6, c6, k1, k2⟩ := hF5.row
          rw [List.length_cons, List.length_map, ← HMM.out] at k1 k2
          obtain ⟨g6, rfl, _, _, _, cy5, _⟩ := fr_cell (k := 0) k2 (Nat.succ_pos _)
          rw [fAt_cons0] at cy5
          have cW5 := box_cell k1
          have HF5 := Lib.hid hF5
          have HS5 := Lib.hid hS5
          clear k1 k2 hF5 hS5
          by_cases hn00 : n = 0
          · subst hn00
            have hcall := t_fhRemove (KgM s (Value.slice A2 (N + 1) d2).ownBlock) s ⟨a.1, q, o5, 0, cc, (recAt x (a.1, a.2 + 1)).stamp⟩ (qs.map (frOf ls x)) W5 HF5.out (DownInv.last (e := frOf ls x a) HIM.out.heap) HPOSQ.out (by rw [List.length_map]; have := HQLEN.out; omega) (fun b hb => Nat.lt_of_lt_of_le (HM4.out.lt b hb) HS5.out.size)
            have HCALL := Lib.hid hcall
            clear hcall
            go_wp2_with (go_at_call 55; (with_reducible refine HCALL.out.mono ?_); rintro e W6 ⟨⟨v6, rfl⟩, l6, h1, h2, h3, h4⟩; have H6 := Lib.hid (HM4.out.next HS.out h1 h2 h3 (HS5.out.trans' h4)); have HS6 := Lib.hid (HS5.out.trans' h4); clear h1 h2 h3 h4)
            obtain ⟨rs, h61, h62⟩ := H6.out
            have hmg := HM.out.drop HLE.out (by have := HN.out; omega)
            have hlen := valid_len h8.2 HH.out.len hmg.sort hmg.dv
            have hfin : ∃ ps done, done.length = N + 1 ∧ Mg x ps done ∧ InM w ls x s (Value.slice A2 (N + 1) d2).ownBlock W6 ps ∧ W6.ownsRow (s + 1) 34 12 (.slice A2 (N + 1) d2) (N + 1) (flatR (done.map (recAt x))) := by
              refine ⟨rs, done ++ [a], by rw [List.length_append, HD.out]; rfl, hmg.perm h61, h62, ?_⟩
              rw [List.map_append, List.map_cons, List.map_nil, ← HR.out]
              exact own_same H4.out.1 fun b hb => HS6.out.old b ⟨.inr hb, by have := (H4.out.1.lt b hb).1; omega⟩
            rw [List.length_append, HD.out, List.length_singleton] at hlen
            have HFIN := Lib.hid hfin
            clear hfin hmg h61 h62
            go_roundw
            case rel => exact ⟨A2, N + 1, d2, rfl, hlen, HFIN.out⟩
            case measure => simp only [lenOf]; omega
          · have hn1 : 1 ≤ n := by omega
            have he5 := HFR5.out hn1
            have hcall := t_fhFix (KgM s (Value.slice A2 (N + 1) d2).ownBlock) s (⟨a.1, q, o5, n, cc, (recAt x (a.1, a.2 + 1)).stamp⟩ :: qs.map (frOf ls x)) W5 HF5.out (DownInv.cons (e := frOf ls x a) HIM.out.heap) (Nat.succ_pos _) (fun e he => (List.mem_cons.1 he).elim (fun h => by rw [h]; exact hn1) (HPOSQ.out e)) (by rw [List.length_cons, List.length_map]; have := HQLEN.out; omega) (fun b hb => Nat.lt_of_lt_of_le (HM4.out.lt b hb) HS5.out.size)
            have HCALL := Lib.hid hcall
            have HE5 := Lib.hid he5
            have hnb : ((n : Int) == 0) = false := by simp; omega
            clear hcall he5
            go_wp2_with (go_at_call 56; (with_reducible refine HCALL.out.mono ?_); rintro e W6 ⟨rfl, l6, h1, h2, h3, h4⟩; have H6 := Lib.hid (HM4.out.next (qs := (a.1, a.2 + 1) :: qs) HS.out (by rw [List.map_cons, ← HE5.out]; exact h1) h2 h3 (HS5.out.trans' h4)); have HS6 := Lib.hid (HS5.out.trans' h4); clear h1 h2 h3 h4)
            obtain ⟨rs, h61, h62⟩ := H6.out
            have hmg := HM.out.next HX.out h8.2 HLE.out (HNEXT.out hn1).2
            have hlen := valid_len h8.2 HH.out.len hmg.sort hmg.dv
            have hfin : ∃ ps done, done.length = N + 1 ∧ Mg x ps done ∧ InM w ls x s (Value.slice A2 (N + 1) d2).ownBlock W6 ps ∧ W6.ownsRow (s + 1) 34 12 (.slice A2 (N + 1) d2) (N + 1) (flatR (done.map (recAt x))) := by
              refine ⟨rs, done ++ [a], by rw [List.length_append, HD.out]; rfl, hmg.perm h61, h62, ?_⟩
              rw [List.map_append, List.map_cons, List.map_nil, ← HR.out]
              exact own_same H4.out.1 fun b hb => HS6.out.old b ⟨.inr hb, by have := (H4.out.1.lt b hb).1; omega⟩
            rw [List.length_append, HD.out, List.length_singleton] at hlen
            have HFIN := Lib.hid hfin
            clear hfin hmg h61 h62
            go_roundw
            case rel => exact ⟨A2, N + 1, d2, rfl, hlen, HFIN.out⟩
            case measure => simp only [lenOf]; omega
end Go.Proofs.YtehckjkihaalfaaGreat
