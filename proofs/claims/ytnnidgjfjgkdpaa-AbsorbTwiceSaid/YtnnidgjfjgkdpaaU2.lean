/- The plain law of AbsorbTwice: what is left and what is gone are the row; what is gone is a page, or of a life that ends. -/
import Derived.Test.YtnnidgjfjgkdpaaS
namespace Go.Proofs.Ytnnidgjfjgkdpaa
open Go.RowKit Go.Maps

theorem to_sum (rs : List R) (q : Nat) : (leftTo rs q).length + (goneTo rs q).length = q := by
  induction q with
  | zero => rfl
  | succ q ih =>
    rw [leftTo_succ, goneTo_succ]
    cases goneB rs q <;> simp <;> omega
theorem goneTo_all (rs : List R) : goneTo rs rs.length = goneOf rs := rfl
theorem leftTo_all (rs : List R) : leftTo rs rs.length = leftOf rs := rfl
theorem goneTo_pre (rs : List R) {i q : Nat} (h : i ≤ q) : ∃ l, goneTo rs q = goneTo rs i ++ l ∧ ∀ x ∈ l, i ≤ x := by
  induction q with
  | zero => obtain rfl : i = 0 := by omega
            exact ⟨[], by simp, fun x hx => by cases hx⟩
  | succ q ih =>
    by_cases hi : i = q + 1
    · subst hi; exact ⟨[], by simp, fun x hx => by cases hx⟩
    · obtain ⟨l, hl, hx⟩ := ih (by omega)
      rw [goneTo_succ, hl]
      cases goneB rs q with
      | false => exact ⟨l, by simp, hx⟩
      | true =>
        refine ⟨l ++ [q], by simp, fun x hm => ?_⟩
        rcases List.mem_append.1 hm with hm | hm
        · exact hx x hm
        · simp at hm; omega
theorem leftTo_pre (rs : List R) {i q : Nat} (h : i ≤ q) : ∃ l, leftTo rs q = leftTo rs i ++ l ∧ ∀ x ∈ l, i ≤ x := by
  induction q with
  | zero => obtain rfl : i = 0 := by omega
            exact ⟨[], by simp, fun x hx => by cases hx⟩
  | succ q ih =>
    by_cases hi : i = q + 1
    · subst hi; exact ⟨[], by simp, fun x hx => by cases hx⟩
    · obtain ⟨l, hl, hx⟩ := ih (by omega)
      rw [leftTo_succ, hl]
      cases goneB rs q with
      | true => exact ⟨l, by simp, hx⟩
      | false =>
        refine ⟨l ++ [q], by simp, fun x hm => ?_⟩
        rcases List.mem_append.1 hm with hm | hm
        · exact hx x hm
        · simp at hm; omega
/-- Whose turn it is among what is gone. -/
theorem gone_turn {rs : List R} {i : Nat} (hi : i < rs.length) : goneB rs i = true ↔ (goneOf rs)[(goneTo rs i).length]? = some i := by
  obtain ⟨l, hl, hx⟩ := goneTo_pre rs (i := i + 1) (q := rs.length) (by omega)
  rw [← goneTo_all, hl, goneTo_succ]
  cases h : goneB rs i with
  | true => simp
  | false =>
    simp only [if_neg (by simp : ¬ (false = true)), List.append_nil]
    constructor
    · intro h; cases h
    · intro h
      rw [List.getElem?_append_right (Nat.le_refl _), Nat.sub_self] at h
      have := hx i (List.mem_of_getElem? h)
      omega
theorem left_turn {rs : List R} {i : Nat} (hi : i < rs.length) (h : goneB rs i = false) : (leftOf rs)[(leftTo rs i).length]? = some i := by
  obtain ⟨l, hl, hx⟩ := leftTo_pre rs (i := i + 1) (q := rs.length) (by omega)
  rw [← leftTo_all, hl, leftTo_succ, h]
  simp
theorem of_turn {rs : List R} {i : Nat} {r : R} (hi : rs[i]? = some r) (h : goneB rs i = false) : (ofOf rs)[(leftTo rs i).length]? = some r := by
  have hil := (List.getElem?_eq_some_iff.1 hi).1
  unfold ofOf pick
  rw [List.getElem?_map, left_turn hil h]
  show some (at_ rs i) = some r
  unfold at_
  rw [List.getD_eq_getElem?_getD, hi]; rfl
theorem goneOf_lt {rs : List R} {k : Nat} (h : k ∈ goneOf rs) : k < rs.length ∧ goneB rs k = true := by
  unfold goneOf at h
  obtain ⟨a, b⟩ := List.mem_filter.1 h
  exact ⟨by simpa using a, b⟩

/-- What an idle life is made of. -/
theorem idleGo_split (x : R) : ∀ (l : List (Nat × R)) (D : DataW Unit) (to : Nat), idleGo x D l = some to →
    ∃ pre r post, l = pre ++ (to, r) :: post ∧ r.ino = x.ino ∧ r.act = 7 ∧ ∀ y ∈ pre, y.2.ino = x.ino → (y.2.act = 2 ∨ y.2.act = 3 ∨ y.2.act = 5 ∨ y.2.act = 6)
  | [], _, _, h => by cases h
  | (i, r) :: l, D, to, h => by
    unfold idleGo at h
    have step : ∀ {D'}, idleGo x D' l = some to → (r.ino = x.ino → (r.act = 2 ∨ r.act = 3 ∨ r.act = 5 ∨ r.act = 6)) → ∃ pre r' post, (i, r) :: l = pre ++ (to, r') :: post ∧ r'.ino = x.ino ∧ r'.act = 7 ∧ ∀ y ∈ pre, y.2.ino = x.ino → (y.2.act = 2 ∨ y.2.act = 3 ∨ y.2.act = 5 ∨ y.2.act = 6) := by
      intro D' hg hr
      obtain ⟨pre, r', post, e, h1, h2, h3⟩ := idleGo_split x l D' to hg
      refine ⟨(i, r) :: pre, r', post, by rw [e]; rfl, h1, h2, fun y hy => ?_⟩
      rcases List.mem_cons.1 hy with rfl | hy
      · exact hr
      · exact h3 y hy
    split at h
    · rename_i hc
      split at h
      · injection h with h
        subst h
        exact ⟨[], r, l, rfl, hc.1, hc.2, fun y hy => by cases hy⟩
      · cases h
    · split at h
      · cases h
      · split at h
        · split at h
          · rename_i h2
            split at h
            · cases h
            · exact step h (fun _ => .inl h2)
          · split at h
            · rename_i h3
              split at h
              · exact step h (fun _ => .inr (.inl h3))
              · cases h
            · split at h
              · rename_i h5
                exact step h (fun _ => h5.elim (fun h => .inr (.inr (.inl h))) (fun h => .inr (.inr (.inr h))))
              · cases h
        · rename_i hne
          exact step h (fun hh => absurd hh hne)
theorem placed_split : ∀ (rs : List R) (i : Nat) (pre post : List (Nat × R)) (to : Nat) (r : R), placed rs i = pre ++ (to, r) :: post → to = i + pre.length ∧ rs[pre.length]? = some r ∧ ∀ (m : Nat) (y : Nat × R), pre[m]? = some y → rs[m]? = some y.2 := by
  intro rs i pre post to r h
  have hg := placed_get rs i pre.length
  rw [h, List.getElem?_append_right (Nat.le_refl _), Nat.sub_self] at hg
  cases hr : rs[pre.length]? with
  | none => rw [hr] at hg; simp at hg
  | some r' =>
    rw [hr] at hg
    simp at hg
    refine ⟨hg.1, by rw [hg.2], fun m y hm => ?_⟩
    have hml := (List.getElem?_eq_some_iff.1 hm).1
    have hg2 := placed_get rs i m
    rw [h, List.getElem?_append_left hml, hm] at hg2
    cases hr2 : rs[m]? with
    | none => rw [hr2] at hg2; simp at hg2
    | some z => rw [hr2] at hg2; simp at hg2; rw [hg2]
/-- An idle life: it begins with a make of a file, ends with a free, and between them its records are links, sizes, pages. -/
theorem idle_parts {rs : List R} {j to : Nat} (h : idleB rs j = some to) : ∃ x, rs[j]? = some x ∧ x.act = 1 ∧ x.kind = 1 ∧ j < to ∧ (∃ r, rs[to]? = some r ∧ r.ino = x.ino ∧ r.act = 7) ∧
    ∀ p r, j < p → p < to → rs[p]? = some r → r.ino = x.ino → (r.act = 2 ∨ r.act = 3 ∨ r.act = 5 ∨ r.act = 6) := by
  unfold idleB at h
  cases hx : rs[j]? with
  | none => rw [hx] at h; cases h
  | some x =>
    rw [hx] at h
    simp only [] at h
    split at h
    · rename_i ha
      obtain ⟨pre, r, post, e, h1, h2, h3⟩ := idleGo_split x _ _ _ h
      unfold behindOf at e
      obtain ⟨e1, e2, e3⟩ := placed_split _ _ _ _ _ _ e
      rw [List.getElem?_drop] at e2
      refine ⟨x, rfl, ha.1, ha.2, by omega, ⟨r, by rw [e1]; exact e2, h1, h2⟩, fun p r' hp1 hp2 hr' hi => ?_⟩
      have hm : p - (j + 1) < pre.length := by omega
      have hy := e3 (p - (j + 1)) _ (List.getElem?_eq_getElem hm)
      rw [List.getElem?_drop, show j + 1 + (p - (j + 1)) = p by omega, hr'] at hy
      injection hy with hy
      have := h3 _ (List.getElem_mem hm)
      rw [← hy] at this
      exact this hi
    · cases h
theorem numTo_pos {l : List Nat} {k : Nat} : ∀ i, numTo l i k ≠ 0 → l[numTo l i k - 1]? = some k
  | 0, h => absurd rfl h
  | i + 1, h => by
    unfold numTo at h ⊢
    split
    · rename_i he; rw [Nat.add_sub_cancel]; exact he
    · rename_i he
      rw [if_neg he] at h
      exact numTo_pos i h
theorem numTo_zero {l : List Nat} {k : Nat} : ∀ i, numTo l i k = 0 → ∀ m, m < i → l[m]? ≠ some k
  | 0, _, m, hm => by omega
  | i + 1, h, m, hm => by
    unfold numTo at h
    split at h
    · omega
    · rename_i he
      by_cases hmi : m = i
      · subst hmi; exact he
      · exact numTo_zero i h m (by omega)
/-- What is gone is a page, or of an idle life. -/
theorem gone_why {rs : List R} {k : Nat} {r : R} (hr : rs[k]? = some r) (h : goneB rs k = true) : r.act = 6 ∨ ∃ j to, idleB rs j = some to ∧ j ≤ k ∧ k ≤ to ∧ inoAt rs k = inoAt rs j := by
  have hk := (List.getElem?_eq_some_iff.1 hr).1
  unfold goneB at h
  simp only [Bool.or_eq_true, beq_iff_eq] at h
  by_cases hz : numTo (aliveOf rs) (aliveOf rs).length k = 0
  · right
    have hna : k ∉ aliveOf rs := fun hm => by
      obtain ⟨m, hm1, hm2⟩ := List.getElem_of_mem hm
      exact numTo_zero _ hz m hm1 (by rw [List.getElem?_eq_getElem hm1, hm2])
    have hg : goneN rs rs.length k ≠ 0 := fun hg => hna (by
      unfold aliveOf
      exact List.mem_filter.2 ⟨by simpa using hk, by simpa using hg⟩)
    unfold goneN at hg
    have hp : 0 < (List.range rs.length).countP (fun j => hit rs j k) := Nat.pos_of_ne_zero hg
    obtain ⟨j, _, hj⟩ := List.countP_pos_iff.1 hp
    unfold hit at hj
    split at hj
    · rename_i to ht
      have hj' := of_decide_eq_true hj
      exact ⟨j, to, ht, hj'⟩
    · cases hj
  · left
    have ha : againB (restOf rs) (numTo (aliveOf rs) (aliveOf rs).length k - 1) = true := h.resolve_left hz
    have hn := numTo_pos _ hz
    unfold againB at ha
    have hrest : (restOf rs)[numTo (aliveOf rs) (aliveOf rs).length k - 1]? = some r := by
      unfold restOf pick
      rw [List.getElem?_map, hn]
      show some (at_ rs k) = some r
      unfold at_
      rw [List.getD_eq_getElem?_getD, hr]; rfl
    rw [hrest] at ha
    simp only [] at ha
    split at ha
    · assumption
    · cases ha
/-- Does the row free an inode at, or behind, a place? -/
def freedB (rs : List R) (k : Nat) (ino : Int) : Bool := (rs.drop k).any fun r => r.act == 7 && r.ino == ino
theorem gone_freed {rs : List R} {k : Nat} {r : R} (hr : rs[k]? = some r) (h : goneB rs k = true) : r.act = 6 ∨ freedB rs k r.ino = true := by
  rcases gone_why hr h with h | ⟨j, to, hi, h1, h2, h3⟩
  · exact .inl h
  · right
    obtain ⟨x, hx, _, _, _, ⟨r', hr', hi', ha'⟩, _⟩ := idle_parts hi
    have hio : r.ino = x.ino := by unfold inoAt at h3; rw [hr, hx] at h3; exact h3
    unfold freedB
    rw [List.any_eq_true]
    refine ⟨r', List.mem_of_getElem? (i := to - k) (by rw [List.getElem?_drop, show k + (to - k) = to by omega]; exact hr'), ?_⟩
    simp [ha', hi', hio]
end Go.Proofs.Ytnnidgjfjgkdpaa
