/- The plain law of AbsorbTwice: in what is left of a row that can be played no life is idle. -/
import Derived.Test.YtnnidgjfjgkdpaaU1
import Derived.Test.YtnnidgjfjgkdpaaU2
import Derived.Test.YtnnidgjfjgkdpaaP3
namespace Go.Proofs.Ytnnidgjfjgkdpaa
open Go.RowKit Go.Maps

/-- Is a life idle, of records alone? -/
def idleS (x : R) : DataW Unit → List R → Bool
  | _, [] => false
  | D, r :: rs =>
    if r.ino = x.ino ∧ r.act = 7 then decide (Maps.size D = 0)
    else if r.dir = x.ino ∨ r.dir2 = x.ino ∨ r.old = x.ino then false
    else if r.ino = x.ino then
      if r.act = 2 then (if has D r.key then false else idleS x (D.put r.key (.agg [])) rs)
      else if r.act = 3 then (if has D r.key then idleS x (D.del r.key) rs else false)
      else if r.act = 5 ∨ r.act = 6 then idleS x D rs
      else false
    else idleS x D rs
theorem idleGo_S (x : R) : ∀ (l : List (Nat × R)) (D : DataW Unit), (idleGo x D l).isSome = idleS x D (l.map (·.2))
  | [], _ => rfl
  | (i, r) :: l, D => by
    rw [List.map_cons]
    unfold idleGo idleS
    simp only [← idleGo_S x l]
    repeat' split
    all_goals first | rfl | simp_all
/-- The places from one on that are left. -/
def segIdx (rs : List R) (p : Nat) : List Nat := (List.range' p (rs.length - p)).filter (fun k => !goneB rs k)
theorem segIdx_step {rs : List R} {p : Nat} (hp : p < rs.length) : segIdx rs p = if goneB rs p = true then segIdx rs (p + 1) else p :: segIdx rs (p + 1) := by
  unfold segIdx
  rw [show rs.length - p = (rs.length - (p + 1)) + 1 by omega, List.range'_succ, List.filter_cons]
  cases goneB rs p <;> simp
theorem leftOf_seg {rs : List R} {p : Nat} (hp : p ≤ rs.length) : leftOf rs = leftTo rs p ++ segIdx rs p := by
  unfold leftOf leftTo segIdx
  rw [← List.filter_append]
  congr 1
  rw [List.range_eq_range', List.range_eq_range', show rs.length = p + (rs.length - p) by omega, ← List.range'_append_1]
  simp
theorem leftOf_nodup (rs : List R) : (leftOf rs).Nodup := (List.nodup_range).filter _
theorem hit_gone {rs : List R} {j k to : Nat} (hk : k < rs.length) (hi : idleB rs j = some to) (h1 : j ≤ k) (h2 : k ≤ to) (h3 : inoAt rs k = inoAt rs j) : goneB rs k = true := by
  have hj := idleB_lt hi
  have hh : hit rs j k = true := by unfold hit; rw [hi]; simp [h1, h2, h3]
  have hg : goneN rs rs.length k ≠ 0 := by
    unfold goneN
    have : 0 < (List.range rs.length).countP (fun j => hit rs j k) := List.countP_pos_iff.2 ⟨j, by simp; omega, hh⟩
    omega
  have hna : k ∉ aliveOf rs := fun hm => by
    unfold aliveOf at hm
    have := (List.mem_filter.1 hm).2
    simp at this
    exact hg this
  unfold goneB
  rw [numTo_none hna]
  rfl

/-- Behind a make, what is idle of what is left is idle of the row. -/
theorem seg_idle {rs : List R} {x : R} {k : Nat} (hx : rs[k]? = some x) (hkl : goneB rs k = false) : ∀ (m p : Nat) (t : Tr) (D : DataW Unit) (s : Nat), rs.length - p = m → k < p → p ≤ rs.length →
    playsGo t (rs.drop p) = true → Well 30 s t → Kept t x.ino → (∀ j', k < j' → j' < p → ∀ r, rs[j']? = some r → ¬ (r.act = 1 ∧ r.ino = x.ino)) →
    idleS x D (pick rs (segIdx rs p)) = true → idleS x D (rs.drop p) = true := by
  intro m
  have hkn : k < rs.length := (List.getElem?_eq_some_iff.1 hx).1
  induction m with
  | zero =>
    intro p t D s hm hkp hp _ _ _ _ hs
    have : segIdx rs p = [] := by unfold segIdx; rw [hm]; rfl
    rw [this] at hs
    simp [pick, idleS] at hs
  | succ m ih =>
    intro p t D s hm hkp hp hpl hw hke hnm hs
    have hpn : p < rs.length := by omega
    obtain ⟨r, hr⟩ : ∃ r, rs[p]? = some r := ⟨_, List.getElem?_eq_getElem hpn⟩
    have hat : at_ rs p = r := by unfold at_; rw [List.getD_eq_getElem?_getD, hr]; rfl
    have hdr : rs.drop p = r :: rs.drop (p + 1) := by
      rw [List.drop_eq_getElem_cons hpn, (List.getElem?_eq_some_iff.1 hr).2]
    rw [hdr] at hpl ⊢
    unfold playsGo at hpl
    have hmay : mayB r = true := by
      cases hh : mayB r with
      | true => rfl
      | false => rw [if_pos hh] at hpl; cases hpl
    rw [if_neg (by rw [hmay]; simp)] at hpl
    obtain ⟨e0, t', hplay⟩ : ∃ e0 t', playR t r = (e0, t') := ⟨_, _, rfl⟩
    rw [hplay] at hpl
    simp only [] at hpl
    have he : e0 = 0 := by
      by_cases hh : e0 = 0
      · exact hh
      · rw [if_pos hh] at hpl; cases hpl
    subst he
    rw [if_neg (by simp)] at hpl
    obtain ⟨K1, K2, K3, K4⟩ := kept_play hke hw.good hmay hplay
    have hw' := hw.play hplay
    have hnm' : ∀ j', k < j' → j' < p + 1 → ∀ r, rs[j']? = some r → ¬ (r.act = 1 ∧ r.ino = x.ino) := fun j' h1 h2 r' hr' hh => by
      by_cases hj : j' = p
      · subst hj
        rw [hr] at hr'; cases hr'
        exact K2 hh.1 hh.2
      · exact hnm j' h1 (by omega) r' hr' hh
    have go : ∀ D', ¬ (r.act = 7 ∧ r.ino = x.ino) → idleS x D' (pick rs (segIdx rs (p + 1))) = true → idleS x D' (rs.drop (p + 1)) = true := fun D' hnf hs' =>
      ih (p + 1) t' D' (s + 2) (by omega) (by omega) (by omega) hpl hw' (K1 hnf) hnm' hs'
    rw [segIdx_step hpn] at hs
    cases hg : goneB rs p with
    | true =>
      rw [hg, if_pos rfl] at hs
      have hwhy := gone_why hr hg
      have C1 : r.ino = x.ino → r.act = 6 := fun hi => by
        rcases hwhy with h | ⟨j, to, hid, h1, h2, h3⟩
        · exact h
        · exfalso
          obtain ⟨y, hy, ya, _, hjt, _⟩ := idle_parts hid
          have hyi : y.ino = x.ino := by unfold inoAt at h3; rw [hr, hy] at h3; rw [← hi]; exact h3.symm
          rcases Nat.lt_trichotomy j k with hjk | hjk | hjk
          · have : goneB rs k = true := hit_gone hkn hid (by omega) (by omega) (by unfold inoAt; rw [hx, hy]; exact hyi.symm)
            rw [hkl] at this; cases this
          · subst hjk
            have : goneB rs j = true := hit_gone hkn hid (Nat.le_refl _) (by omega) rfl
            rw [hkl] at this; cases this
          · exact hnm' j hjk (by omega) y hy ⟨ya, hyi⟩
      have C2 : r.act ≠ 4 := fun h4 => by
        rcases hwhy with h | ⟨j, to, hid, h1, h2, h3⟩
        · omega
        · obtain ⟨y, hy, ya, _, hjt, ⟨z, hz, _, za⟩, hmid⟩ := idle_parts hid
          by_cases e1 : p = j
          · subst e1; rw [hr] at hy; cases hy; omega
          · by_cases e2 : p = to
            · subst e2; rw [hr] at hz; cases hz; omega
            · have := hmid p r (by omega) (by omega) hr (by unfold inoAt at h3; rw [hr, hy] at h3; exact h3)
              omega
      have hold : r.old ≠ x.ino := by
        unfold mayB at hmay
        simp only [Bool.and_eq_true] at hmay
        have := hmay.1.1.2
        rw [if_neg C2] at this
        simp at this
        have := hke.lo
        omega
      have hnf : ¬ (r.act = 7 ∧ r.ino = x.ino) := fun hh => by have := C1 hh.2; omega
      have : idleS x D (r :: rs.drop (p + 1)) = idleS x D (rs.drop (p + 1)) := by
        show (if r.ino = x.ino ∧ r.act = 7 then _ else _) = _
        rw [if_neg (fun hh => hnf ⟨hh.2, hh.1⟩), if_neg (fun hh => by rcases hh with hh | hh | hh; exact K3 hh; exact K4 hh; exact hold hh)]
        by_cases hi : r.ino = x.ino
        · have := C1 hi
          rw [if_pos hi, if_neg (by omega), if_neg (by omega), if_pos (.inr this)]
        · rw [if_neg hi]
      rw [this]
      exact go D hnf hs
    | false =>
      rw [hg, if_neg (by simp)] at hs
      have hpk : pick rs (p :: segIdx rs (p + 1)) = r :: pick rs (segIdx rs (p + 1)) := by unfold pick; rw [List.map_cons, hat]
      rw [hpk] at hs
      unfold idleS at hs ⊢
      split
      · rename_i h1
        rw [if_pos h1] at hs; exact hs
      · rename_i h1
        rw [if_neg h1] at hs
        have hnf : ¬ (r.act = 7 ∧ r.ino = x.ino) := fun hh => h1 ⟨hh.2, hh.1⟩
        split
        · rename_i h2
          rw [if_pos h2] at hs; exact hs
        · rename_i h2
          rw [if_neg h2] at hs
          split
          · rename_i h3
            rw [if_pos h3] at hs
            split
            · rename_i h4
              rw [if_pos h4] at hs
              split
              · rename_i h5; rw [if_pos h5] at hs; exact hs
              · rename_i h5; rw [if_neg h5] at hs; exact go _ hnf hs
            · rename_i h4
              rw [if_neg h4] at hs
              split
              · rename_i h5
                rw [if_pos h5] at hs
                split
                · rename_i h6; rw [if_pos h6] at hs; exact go _ hnf hs
                · rename_i h6; rw [if_neg h6] at hs; exact hs
              · rename_i h5
                rw [if_neg h5] at hs
                split
                · rename_i h6; rw [if_pos h6] at hs; exact go _ hnf hs
                · rename_i h6; rw [if_neg h6] at hs; exact hs
          · rename_i h3
            rw [if_neg h3] at hs
            exact go _ hnf hs
/-- A row that can be played: the tree ahead of any record, and behind it. -/
theorem plays_at : ∀ (rs : List R) (t : Tr) (s : Nat), playsGo t rs = true → Well 30 s t → ∀ (k : Nat) (r : R), rs[k]? = some r → ∃ tk t' s', Well 30 s' tk ∧ mayB r = true ∧ playR tk r = (0, t') ∧ playsGo t' (rs.drop (k + 1)) = true
  | [], _, _, _, _, k, r, h => by simp at h
  | y :: rs, t, s, hpl, hw, k, r, h => by
    unfold playsGo at hpl
    have hmay : mayB y = true := by
      cases hh : mayB y with
      | true => rfl
      | false => rw [if_pos hh] at hpl; cases hpl
    rw [if_neg (by rw [hmay]; simp)] at hpl
    obtain ⟨e0, t', hplay⟩ : ∃ e0 t', playR t y = (e0, t') := ⟨_, _, rfl⟩
    rw [hplay] at hpl
    simp only [] at hpl
    have he : e0 = 0 := by
      by_cases hh : e0 = 0
      · exact hh
      · rw [if_pos hh] at hpl; cases hpl
    subst he
    rw [if_neg (by simp)] at hpl
    cases k with
    | zero =>
      simp at h; subst h
      exact ⟨t, t', s, hw, hmay, hplay, by simpa using hpl⟩
    | succ k =>
      have := plays_at rs t' (s + 2) hpl (hw.play hplay) k r (by simpa using h)
      simpa using this
/-- No life is idle in what is left. -/
theorem of_no_idle {rs : List R} (hp : playsGo (newT 30) rs = true) (j : Nat) : idleB (ofOf rs) j = none := by
  cases hi : idleB (ofOf rs) j with
  | none => rfl
  | some to =>
    exfalso
    obtain ⟨x, hx, xa, xk, _⟩ := idle_parts hi
    have hjl : j < (leftOf rs).length := by have := (List.getElem?_eq_some_iff.1 hx).1; rw [ofOf_length] at this; exact this
    obtain ⟨k, hk⟩ : ∃ k, (leftOf rs)[j]? = some k := ⟨_, List.getElem?_eq_getElem hjl⟩
    have hkm := List.mem_of_getElem? hk
    have hkn := leftOf_lt hkm
    have hkl : goneB rs k = false := by
      unfold leftOf at hkm
      have := (List.mem_filter.1 hkm).2
      simpa using this
    have hrk : rs[k]? = some x := by
      unfold ofOf pick at hx
      rw [List.getElem?_map, hk] at hx
      simp only [Option.map_some, Option.some.injEq] at hx
      unfold at_ at hx
      rw [List.getD_eq_getElem?_getD, List.getElem?_eq_getElem hkn] at hx
      rw [List.getElem?_eq_getElem hkn]
      simpa using hx
    have hjk : j = (leftTo rs k).length := by
      have h1 := left_turn hkn hkl
      exact (List.getElem?_inj hjl (leftOf_nodup rs)).1 (by rw [hk, h1])
    have hseg : (ofOf rs).drop (j + 1) = pick rs (segIdx rs (k + 1)) := by
      unfold ofOf pick
      rw [leftOf_seg (p := k + 1) (by omega), leftTo_succ, hkl]
      simp only [if_neg (by simp : ¬ (false = true))]
      rw [← List.map_drop, List.drop_append, List.drop_eq_nil_of_le (by simp; omega)]
      simp [hjk]
    have hS : idleS x (life0 x) (pick rs (segIdx rs (k + 1))) = true := by
      rw [← hseg]
      unfold idleB at hi
      rw [hx] at hi
      simp only [] at hi
      rw [if_pos ⟨xa, xk⟩] at hi
      rw [← behindOf_snd, ← idleGo_S, hi]; rfl
    obtain ⟨tk, t', s', hw, hmay, hplay, hrest⟩ := plays_at rs _ 0 hp (newT_well 30 (by omega)) k x hrk
    have hR := seg_idle hrk hkl _ (k + 1) t' (life0 x) (s' + 2) rfl (by omega) (by omega) hrest (hw.play hplay) (made_kept xa xk hplay) (fun j' h1 h2 => by omega) hS
    have hid : (idleB rs k).isSome = true := by
      unfold idleB
      rw [hrk]
      simp only []
      rw [if_pos ⟨xa, xk⟩, idleGo_S, behindOf_snd]
      exact hR
    obtain ⟨to', hto⟩ := Option.isSome_iff_exists.1 hid
    have := hit_gone hkn hto (Nat.le_refl _) (by have := idleB_lt hto; omega) rfl
    rw [hkl] at this; cases this
/-- What is gone of what is left are pages. -/
theorem of_gone_pages {rs : List R} (hp : playsGo (newT 30) rs = true) {g : Nat} {r : R} (hg : g ∈ goneOf (ofOf rs)) (hr : (ofOf rs)[g]? = some r) : r.act = 6 := by
  rcases gone_why hr (goneOf_lt hg).2 with h | ⟨j, to, hi, _⟩
  · exact h
  · rw [of_no_idle hp j] at hi; cases hi
end Go.Proofs.Ytnnidgjfjgkdpaa
