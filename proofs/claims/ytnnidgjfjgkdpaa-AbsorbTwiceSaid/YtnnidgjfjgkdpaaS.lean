/- The plain law of AbsorbParts. -/
import Derived.Test.YtnnidgjfjgkdpaaI
namespace Go.Proofs.Ytnnidgjfjgkdpaa
open Go.RowKit Go.Maps

/-- No record of these has this inode. -/
def Foreign (x : R) (l : List R) : Prop := ∀ y ∈ l, y.ino ≠ x.ino

theorem idleGo_foreign (x : R) : ∀ (l : List (Nat × R)) (D : DataW Unit), (∀ y ∈ l, y.2.ino ≠ x.ino) → idleGo x D l = none
  | [], _, _ => rfl
  | (i, r) :: l, D, h => by
    have h0 : r.ino ≠ x.ino := h (i, r) (by simp)
    have ih := idleGo_foreign x l D (fun y hy => h y (List.mem_cons_of_mem _ hy))
    unfold idleGo
    rw [if_neg (fun hh => h0 hh.1)]
    simp only [if_neg h0, ih]
    split <;> rfl
theorem idleGo_append (x : R) (l2 : List (Nat × R)) (h : ∀ y ∈ l2, y.2.ino ≠ x.ino) : ∀ (l1 : List (Nat × R)) (D : DataW Unit), idleGo x D (l1 ++ l2) = idleGo x D l1
  | [], D => by rw [List.nil_append, idleGo_foreign x l2 D h]; rfl
  | (i, r) :: l1, D => by
    rw [List.cons_append]
    unfold idleGo
    simp only [idleGo_append x l2 h l1]
theorem idleGo_shift (x : R) (c : Nat) : ∀ (l : List (Nat × R)) (D : DataW Unit), idleGo x D (l.map fun y => (c + y.1, y.2)) = (idleGo x D l).map (c + ·)
  | [], _ => rfl
  | (i, r) :: l, D => by
    rw [List.map_cons]
    unfold idleGo
    simp only [idleGo_shift x c l]
    repeat' split
    all_goals rfl

theorem placed_append : ∀ (u v : List R) (i : Nat), placed (u ++ v) i = placed u i ++ placed v (i + u.length)
  | [], _, _ => rfl
  | r :: u, v, i => by
    rw [List.cons_append]
    simp only [placed, placed_append u v (i + 1), List.cons_append, List.length_cons]
    rw [show i + 1 + u.length = i + (u.length + 1) by omega]
theorem placed_shift (c : Nat) : ∀ (u : List R) (i : Nat), placed u (c + i) = (placed u i).map fun y => (c + y.1, y.2)
  | [], _ => rfl
  | r :: u, i => by
    simp only [placed, List.map_cons]
    rw [show c + i + 1 = c + (i + 1) by omega, placed_shift c u (i + 1)]
theorem placed_mem2 : ∀ (rs : List R) (i : Nat) (y : Nat × R), y ∈ placed rs i → y.2 ∈ rs
  | [], _, _, h => by simp [placed] at h
  | r :: rs, i, y, h => by
    simp only [placed, List.mem_cons] at h
    rcases h with rfl | h
    · simp
    · exact List.mem_cons_of_mem _ (placed_mem2 rs (i + 1) y h)

section
variable (a b : List R) (hap : ∀ x ∈ a, ∀ y ∈ b, x.ino ≠ y.ino)
include hap

theorem idleB_left {k : Nat} (hk : k < a.length) : idleB (a ++ b) k = idleB a k := by
  unfold idleB
  rw [List.getElem?_append_left hk]
  have hx : a[k]? = some a[k] := List.getElem?_eq_getElem hk
  rw [hx]
  simp only []
  split
  · unfold behindOf
    rw [List.drop_append_of_le_length (by omega), placed_append]
    exact idleGo_append _ _ (fun y hy => fun e => hap _ (List.getElem_mem hk) _ (placed_mem2 _ _ _ hy) e.symm) _ _
  · rfl
omit hap in
theorem idleB_right (j : Nat) : idleB (a ++ b) (a.length + j) = (idleB b j).map (a.length + ·) := by
  unfold idleB
  rw [List.getElem?_append_right (by omega), show a.length + j - a.length = j by omega]
  cases b[j]? with
  | none => rfl
  | some x =>
    simp only []
    split
    · unfold behindOf
      rw [show a.length + j + 1 = a.length + (j + 1) by omega, List.drop_append, List.drop_eq_nil_of_le (by omega), List.nil_append, show a.length + (j + 1) - a.length = j + 1 by omega, placed_shift, idleGo_shift]
    · rfl

omit hap in
theorem ino_left {i : Nat} (hi : i < a.length) : inoAt (a ++ b) i = inoAt a i := by unfold inoAt; rw [List.getElem?_append_left hi]
omit hap in
theorem ino_right (i : Nat) : inoAt (a ++ b) (a.length + i) = inoAt b i := by unfold inoAt; rw [List.getElem?_append_right (by omega), show a.length + i - a.length = i by omega]

theorem hit_ll {k i : Nat} (hk : k < a.length) (hi : i < a.length) : hit (a ++ b) k i = hit a k i := by
  unfold hit; rw [idleB_left a b hap hk, ino_left a b hk, ino_left a b hi]
theorem hit_lr {k : Nat} (hk : k < a.length) (i : Nat) : hit (a ++ b) k (a.length + i) = false := by
  unfold hit; rw [idleB_left a b hap hk]
  split
  · rename_i to ht; have := idleB_lt ht; simp; omega
  · rfl
omit hap in
theorem hit_rl (k : Nat) {i : Nat} (hi : i < a.length) : hit (a ++ b) (a.length + k) i = false := by
  unfold hit; split
  · simp; omega
  · rfl
omit hap in
theorem hit_rr (k i : Nat) : hit (a ++ b) (a.length + k) (a.length + i) = hit b k i := by
  unfold hit; rw [idleB_right a b k, ino_right, ino_right]
  cases idleB b k with
  | none => rfl
  | some t => simp

omit hap in
theorem countP_none {α : Type} (p : α → Bool) (l : List α) (h : ∀ x ∈ l, p x = false) : l.countP p = 0 := by
  rw [List.countP_eq_zero]; intro x hx; simp [h x hx]
theorem gone_l {i : Nat} (hi : i < a.length) : goneN (a ++ b) (a.length + b.length) i = goneN a a.length i := by
  unfold goneN
  rw [List.range_add, List.countP_append, List.countP_map]
  rw [countP_none (((fun j => hit (a ++ b) j i)) ∘ (a.length + ·)) _ (fun k _ => hit_rl a b k hi), Nat.add_zero]
  exact List.countP_congr (fun k hk => by rw [hit_ll a b hap (by simpa using hk) hi])
theorem gone_r (i : Nat) : goneN (a ++ b) (a.length + b.length) (a.length + i) = goneN b b.length i := by
  unfold goneN
  rw [List.range_add, List.countP_append, List.countP_map]
  rw [countP_none (fun j => hit (a ++ b) j (a.length + i)) _ (fun k hk => hit_lr a b hap (by simpa using hk) i), Nat.zero_add]
  exact List.countP_congr (fun k _ => by simp only [Function.comp]; rw [hit_rr])

theorem alive_append : aliveOf (a ++ b) = aliveOf a ++ (aliveOf b).map (a.length + ·) := by
  unfold aliveOf
  rw [List.length_append, List.range_add, List.filter_append, List.filter_map]
  congr 1
  · exact List.filter_congr (fun k hk => by rw [gone_l a b hap (by simpa using hk)])
  · congr 1
    exact List.filter_congr (fun k _ => by simp only [Function.comp]; rw [gone_r a b hap])

omit hap in
theorem at_left {k : Nat} (hk : k < a.length) : at_ (a ++ b) k = at_ a k := by unfold at_; rw [List.getD_eq_getElem?_getD, List.getD_eq_getElem?_getD, List.getElem?_append_left hk]
omit hap in
theorem at_right (k : Nat) : at_ (a ++ b) (a.length + k) = at_ b k := by unfold at_; rw [List.getD_eq_getElem?_getD, List.getD_eq_getElem?_getD, List.getElem?_append_right (by omega), show a.length + k - a.length = k by omega]
omit hap in
theorem pick_append (u v : List Nat) (hu : ∀ k ∈ u, k < a.length) : pick (a ++ b) (u ++ v.map (a.length + ·)) = pick a u ++ pick b v := by
  unfold pick
  rw [List.map_append, List.map_map]
  congr 1
  · exact List.map_congr_left (fun k hk => at_left a b (hu k hk))
  · exact List.map_congr_left (fun k _ => at_right a b k)
theorem rest_append : restOf (a ++ b) = restOf a ++ restOf b := by
  unfold restOf
  rw [alive_append a b hap, pick_append a b _ _ (fun k hk => aliveOf_lt hk)]
omit hap in
theorem rest_mem {l : List R} {x : R} (h : x ∈ restOf l) : x ∈ l := by
  unfold restOf pick at h
  obtain ⟨k, hk, rfl⟩ := List.mem_map.1 h
  have := aliveOf_lt hk
  unfold at_
  rw [List.getD_eq_getElem?_getD, List.getElem?_eq_getElem this]
  exact List.getElem_mem this

omit hap in
theorem numTo_left (u v : List Nat) (k : Nat) : ∀ i, i ≤ u.length → numTo (u ++ v) i k = numTo u i k
  | 0, _ => rfl
  | i + 1, h => by
    unfold numTo
    rw [List.getElem?_append_left (by omega), numTo_left u v k i (by omega)]
omit hap in
theorem numTo_right (u v : List Nat) (k : Nat) : ∀ i, numTo (u ++ v) (u.length + i) k = if numTo v i k = 0 then numTo u u.length k else u.length + numTo v i k
  | 0 => by rw [Nat.add_zero, numTo_left u v k _ (Nat.le_refl _)]; rfl
  | i + 1 => by
    rw [show u.length + (i + 1) = (u.length + i) + 1 by omega]
    have e1 : numTo (u ++ v) (u.length + i + 1) k = if v[i]? = some k then u.length + i + 1 else numTo (u ++ v) (u.length + i) k := by
      show (if (u ++ v)[u.length + i]? = some k then _ else _) = _
      rw [List.getElem?_append_right (by omega), show u.length + i - u.length = i by omega]
    have e2 : numTo v (i + 1) k = if v[i]? = some k then i + 1 else numTo v i k := rfl
    rw [e1, e2]
    by_cases h : v[i]? = some k
    · simp only [h, if_true]; rw [if_neg (by omega)]; omega
    · simp only [h, if_false]; exact numTo_right u v k i
omit hap in
theorem numTo_none {u : List Nat} {k : Nat} (h : k ∉ u) : ∀ i, numTo u i k = 0
  | 0 => rfl
  | i + 1 => by
    unfold numTo
    rw [if_neg (fun e => h (List.mem_of_getElem? e)), numTo_none h i]
omit hap in
theorem numTo_shift (c : Nat) (v : List Nat) (k : Nat) : ∀ i, numTo (v.map (c + ·)) i (c + k) = numTo v i k
  | 0 => rfl
  | i + 1 => by
    unfold numTo
    rw [numTo_shift c v k i, List.getElem?_map]
    cases v[i]? with
    | none => simp
    | some t => simp

omit hap in
theorem againGo_foreign (x : R) : ∀ (l : List R) (c : Nat), Foreign x l → againGo x c l = false
  | [], _, _ => rfl
  | r :: l, c, h => by
    unfold againGo
    rw [if_pos (h r (by simp))]
    exact againGo_foreign x l c (fun y hy => h y (List.mem_cons_of_mem _ hy))
omit hap in
theorem againGo_append (x : R) (l2 : List R) (h : Foreign x l2) : ∀ (l1 : List R) (c : Nat), againGo x c (l1 ++ l2) = againGo x c l1
  | [], c => by rw [List.nil_append, againGo_foreign x l2 c h]; rfl
  | r :: l1, c => by
    rw [List.cons_append]
    unfold againGo
    simp only [againGo_append x l2 h l1]

omit hap in
theorem again_l {u v : List R} (h : ∀ x ∈ u, ∀ y ∈ v, x.ino ≠ y.ino) {i : Nat} (hi : i < u.length) : againB (u ++ v) i = againB u i := by
  unfold againB
  rw [List.getElem?_append_left hi, List.getElem?_eq_getElem hi]
  simp only []
  rw [List.drop_append_of_le_length (by omega), againGo_append _ _ (fun y hy e => h _ (List.getElem_mem hi) y hy e.symm)]
omit hap in
theorem again_r (u v : List R) (i : Nat) : againB (u ++ v) (u.length + i) = againB v i := by
  unfold againB
  rw [List.getElem?_append_right (by omega), show u.length + i - u.length = i by omega, show u.length + i + 1 = u.length + (i + 1) by omega, List.drop_append, List.drop_eq_nil_of_le (by omega), List.nil_append, show u.length + (i + 1) - u.length = i + 1 by omega]

theorem goneB_l {k : Nat} (hk : k < a.length) : goneB (a ++ b) k = goneB a k := by
  have hr : ∀ x ∈ restOf a, ∀ y ∈ restOf b, x.ino ≠ y.ino := fun x hx y hy => hap x (rest_mem hx) y (rest_mem hy)
  have hl : (restOf a).length = (aliveOf a).length := by unfold restOf pick; simp
  unfold goneB
  rw [alive_append a b hap, rest_append a b hap, List.length_append, List.length_map]
  have h0 : numTo ((aliveOf b).map (a.length + ·)) (aliveOf b).length k = 0 := numTo_none (fun hm => by obtain ⟨t, _, ht⟩ := List.mem_map.1 hm; omega) _
  rw [numTo_right, h0, if_pos rfl]
  have hle := numTo_le (aliveOf a) (aliveOf a).length k
  by_cases hz : numTo (aliveOf a) (aliveOf a).length k = 0
  · simp [hz]
  · simp only []
    rw [again_l hr (by omega)]
theorem goneB_r (k : Nat) : goneB (a ++ b) (a.length + k) = goneB b k := by
  have hl : (restOf a).length = (aliveOf a).length := by unfold restOf pick; simp
  unfold goneB
  rw [alive_append a b hap, rest_append a b hap, List.length_append, List.length_map]
  rw [numTo_right, numTo_shift]
  have h0 : numTo (aliveOf a) (aliveOf a).length (a.length + k) = 0 := numTo_none (fun hm => by have := aliveOf_lt hm; omega) _
  by_cases hz : numTo (aliveOf b) (aliveOf b).length k = 0
  · simp [hz, h0]
  · simp only [if_neg hz]
    rw [show (aliveOf a).length + numTo (aliveOf b) (aliveOf b).length k - 1 = (restOf a).length + (numTo (aliveOf b) (aliveOf b).length k - 1) by omega, again_r]
    have e1 : ((aliveOf a).length + numTo (aliveOf b) (aliveOf b).length k == 0) = false := by simp; omega
    have e2 : (numTo (aliveOf b) (aliveOf b).length k == 0) = false := by simpa using hz
    rw [e1, e2]

theorem left_append : leftOf (a ++ b) = leftOf a ++ (leftOf b).map (a.length + ·) := by
  unfold leftOf
  rw [List.length_append, List.range_add, List.filter_append, List.filter_map]
  congr 1
  · exact List.filter_congr (fun k hk => by rw [goneB_l a b hap (by simpa using hk)])
  · congr 1
    exact List.filter_congr (fun k _ => by simp only [Function.comp]; rw [goneB_r a b hap])
theorem gone_append : goneOf (a ++ b) = goneOf a ++ (goneOf b).map (a.length + ·) := by
  unfold goneOf
  rw [List.length_append, List.range_add, List.filter_append, List.filter_map]
  congr 1
  · exact List.filter_congr (fun k hk => by rw [goneB_l a b hap (by simpa using hk)])
  · congr 1
    exact List.filter_congr (fun k _ => by simp only [Function.comp]; rw [goneB_r a b hap])
/-- What is left of two rows. -/
theorem of_append : ofOf (a ++ b) = ofOf a ++ ofOf b := by
  unfold ofOf
  rw [left_append a b hap, pick_append a b _ _ (fun k hk => leftOf_lt hk)]
theorem gone_length : (goneOf (a ++ b)).length = (goneOf a).length + (goneOf b).length := by
  rw [gone_append a b hap, List.length_append, List.length_map]
end
end Go.Proofs.Ytnnidgjfjgkdpaa
