/- Merging rows, in plain words. -/
import Derived.Test.YtehckjkihaalfaaGreatEF
namespace Go.Proofs.YtehckjkihaalfaaGreat
open Go.RowKit Go.Maps

def Rising (l : List R) : Prop := l.Pairwise fun a b => a.stamp < b.stamp
/-- Rows rise; none is above its core's last stamp; no core, no row. -/
structure LogOk (x : PLog) : Prop where
  rising : ∀ k, k < 8 → Rising (x.rows k)
  last : ∀ k, k < 8 → ∀ r ∈ x.rows k, r.stamp ≤ x.last k
  out : ∀ k, x.cores ≤ k → x.rows k = []
/-- A record by its core and its place. -/
def recAt (x : PLog) (a : Nat × Nat) : R := rAt (x.rows a.1) a.2
def Valid (x : PLog) (a : Nat × Nat) : Prop := a.1 < x.cores ∧ a.2 < (x.rows a.1).length
def kLt (x : PLog) (a b : Nat × Nat) : Prop := (recAt x a).stamp < (recAt x b).stamp ∨ ((recAt x a).stamp = (recAt x b).stamp ∧ a.1 < b.1)
/-- What is merged. -/
structure IsMerge (x : PLog) (done : List (Nat × Nat)) : Prop where
  sort : done.Pairwise (kLt x)
  mem : ∀ a, a ∈ done ↔ Valid x a
theorem rising_at {l : List R} (h : Rising l) {i j : Nat} (hij : i < j) (hj : j < l.length) : (rAt l i).stamp < (rAt l j).stamp := by
  unfold rAt
  rw [List.getD_eq_getElem?_getD, List.getD_eq_getElem?_getD, List.getElem?_eq_getElem hj, List.getElem?_eq_getElem (by omega : i < l.length)]
  exact List.pairwise_iff_getElem.1 h i j (by omega) hj hij
theorem kLt_trans {x : PLog} {a b c : Nat × Nat} (h : kLt x a b) (k : kLt x b c) : kLt x a c := by unfold kLt at *; omega
theorem kLt_irrefl {x : PLog} {a : Nat × Nat} : ¬ kLt x a a := by unfold kLt; omega
structure Mg (x : PLog) (ps done : List (Nat × Nat)) : Prop where
  nd : (ps.map Prod.fst).Nodup
  val : ∀ a ∈ ps, Valid x a
  dv : ∀ d ∈ done, Valid x d
  cov : ∀ a, Valid x a → a ∈ done ∨ ∃ p, (a.1, p) ∈ ps ∧ p ≤ a.2
  sort : done.Pairwise (kLt x)
  low : ∀ d ∈ done, ∀ a ∈ ps, kLt x d a
theorem Mg.perm {x : PLog} {ps qs done : List (Nat × Nat)} (h : Mg x ps done) (hp : qs.Perm ps) : Mg x qs done :=
  ⟨(hp.map Prod.fst).nodup_iff.2 h.nd, fun a ha => h.val a (hp.mem_iff.1 ha), h.dv, fun a ha => (h.cov a ha).imp id fun ⟨p, h1, h2⟩ => ⟨p, hp.mem_iff.2 h1, h2⟩, h.sort, fun d hd a ha => h.low d hd a (hp.mem_iff.1 ha)⟩
theorem Mg.done {x : PLog} {done : List (Nat × Nat)} (h : Mg x [] done) : IsMerge x done :=
  ⟨h.sort, fun a => ⟨h.dv a, fun ha => (h.cov a ha).elim id fun ⟨p, h1, _⟩ => by simp at h1⟩⟩
theorem Mg.next_low {x : PLog} {a : Nat × Nat} {qs done : List (Nat × Nat)} (h : Mg x (a :: qs) done) (hl : ∀ b ∈ a :: qs, ¬ kLt x b a) : (∀ b ∈ qs, kLt x a b) ∧ (done ++ [a]).Pairwise (kLt x) ∧ (∀ d ∈ done ++ [a], Valid x d) ∧ ∀ d ∈ done ++ [a], ∀ b ∈ qs, kLt x d b := by
  have h1 : ∀ b ∈ qs, kLt x a b := fun b hb => by
    have h2 := hl b (by simp [hb])
    have h3 : a.1 ≠ b.1 := fun e => by
      have h4 := h.nd
      rw [List.map_cons, List.nodup_cons] at h4
      exact h4.1 (List.mem_map.2 ⟨b, hb, e.symm⟩)
    unfold kLt at *
    omega
  refine ⟨h1, ?_, ?_, ?_⟩
  · rw [List.pairwise_append]
    refine ⟨h.sort, List.pairwise_singleton _ _, fun d hd b hb => ?_⟩
    rw [List.mem_singleton] at hb
    subst hb
    exact h.low d hd b (by simp)
  · intro d hd
    rcases List.mem_append.1 hd with hd | hd
    · exact h.dv d hd
    · rw [List.mem_singleton] at hd
      subst hd
      exact h.val d (by simp)
  · intro d hd b hb
    rcases List.mem_append.1 hd with hd | hd
    · exact h.low d hd b (by simp [hb])
    · rw [List.mem_singleton] at hd
      subst hd
      exact h1 b hb
theorem Mg.next {x : PLog} (hx : LogOk x) (h8 : x.cores ≤ 8) {a : Nat × Nat} {qs done : List (Nat × Nat)} (h : Mg x (a :: qs) done) (hl : ∀ b ∈ a :: qs, ¬ kLt x b a) (hp : a.2 + 1 < (x.rows a.1).length) : Mg x ((a.1, a.2 + 1) :: qs) (done ++ [a]) := by
  obtain ⟨h1, h2, h3, h4⟩ := h.next_low hl
  have hv := h.val a (by simp)
  have h5 : kLt x a (a.1, a.2 + 1) := .inl (rising_at (hx.rising a.1 (Nat.lt_of_lt_of_le hv.1 h8)) (Nat.lt_succ_self _) hp)
  refine ⟨by simpa using h.nd, fun b hb => ?_, h3, fun b hb => ?_, h2, fun d hd b hb => ?_⟩
  · rcases List.mem_cons.1 hb with rfl | hb
    · exact ⟨hv.1, hp⟩
    · exact h.val b (by simp [hb])
  · rcases h.cov b hb with hh | ⟨p, hh, hpp⟩
    · exact .inl (by simp [hh])
    · rcases List.mem_cons.1 hh with hh | hh
      · by_cases e : b.2 = p
        · have : b = a := by rw [← hh, ← e]
          exact .inl (by simp [this])
        · exact .inr ⟨a.2 + 1, by rw [← hh]; simp, by rw [← hh]; show p + 1 ≤ b.2; omega⟩
      · exact .inr ⟨p, by simp [hh], hpp⟩
  · rcases List.mem_cons.1 hb with rfl | hb
    · rcases List.mem_append.1 hd with hd | hd
      · exact kLt_trans (h.low d hd a (by simp)) h5
      · rw [List.mem_singleton] at hd
        subst hd
        exact h5
    · exact h4 d hd b hb
theorem Mg.drop {x : PLog} {a : Nat × Nat} {qs done : List (Nat × Nat)} (h : Mg x (a :: qs) done) (hl : ∀ b ∈ a :: qs, ¬ kLt x b a) (hp : a.2 + 1 = (x.rows a.1).length) : Mg x qs (done ++ [a]) := by
  obtain ⟨h1, h2, h3, h4⟩ := h.next_low hl
  refine ⟨by have := h.nd; rw [List.map_cons, List.nodup_cons] at this; exact this.2, fun b hb => h.val b (by simp [hb]), h3, fun b hb => ?_, h2, h4⟩
  rcases h.cov b hb with hh | ⟨p, hh, hpp⟩
  · exact .inl (by simp [hh])
  · rcases List.mem_cons.1 hh with hh | hh
    · have hv := hb.2
      have e : a.1 = b.1 := by rw [← hh]
      have e2 : a.2 = p := by rw [← hh]
      rw [← e, ← hp] at hv
      have : b = a := by
        apply Prod.ext
        · exact e.symm
        · omega
      exact .inl (by simp [this])
    · exact .inr ⟨p, hh, hpp⟩
/-- A sorted list of distinct keys is told by what it has. -/
theorem sorted_unique {α : Type} {r : α → α → Prop} (hirr : ∀ a, ¬ r a a) (htr : ∀ a b c, r a b → r b c → r a c) : ∀ {l m : List α}, l.Pairwise r → m.Pairwise r → (∀ a, a ∈ l ↔ a ∈ m) → l = m
  | [], [], _, _, _ => rfl
  | [], b :: m, _, _, h => absurd ((h b).2 (by simp)) (by simp)
  | a :: l, [], _, _, h => absurd ((h a).1 (by simp)) (by simp)
  | a :: l, b :: m, h1, h2, h => by
    rw [List.pairwise_cons] at h1 h2
    have e : a = b := by
      rcases List.mem_cons.1 ((h a).1 (by simp)) with e | e
      · exact e
      · rcases List.mem_cons.1 ((h b).2 (by simp)) with e2 | e2
        · exact e2.symm
        · exact absurd (htr _ _ _ (h1.1 b e2) (h2.1 a e)) (hirr a)
    subst e
    congr 1
    refine sorted_unique hirr htr h1.2 h2.2 fun c => ⟨fun hc => ?_, fun hc => ?_⟩
    · rcases List.mem_cons.1 ((h c).1 (by simp [hc])) with e | e
      · subst e
        exact absurd (h1.1 c hc) (hirr c)
      · exact e
    · rcases List.mem_cons.1 ((h c).2 (by simp [hc])) with e | e
      · subst e
        exact absurd (h2.1 c hc) (hirr c)
      · exact e
theorem IsMerge.unique {x : PLog} {d e : List (Nat × Nat)} (h : IsMerge x d) (k : IsMerge x e) : d = e :=
  sorted_unique (fun _ => kLt_irrefl) (fun _ _ _ => kLt_trans) h.sort k.sort fun a => (h.mem a).trans (k.mem a).symm
theorem Pairwise.nodup_of {α : Type} {r : α → α → Prop} (hirr : ∀ a, ¬ r a a) {l : List α} (h : l.Pairwise r) : l.Nodup := by
  unfold List.Nodup
  exact h.imp fun {a b} hab => by intro e; subst e; exact hirr _ hab
theorem nodup_le_of {α : Type} [BEq α] [LawfulBEq α] : ∀ {l m : List α}, l.Nodup → (∀ a ∈ l, a ∈ m) → l.length ≤ m.length
  | [], _, _, _ => Nat.zero_le _
  | a :: l, m, h, hs => by
    rw [List.nodup_cons] at h
    have hm := hs a (by simp)
    have := nodup_le_of (l := l) (m := m.erase a) h.2 fun b hb => (List.mem_erase_of_ne (by intro e; subst e; exact h.1 hb)).2 (hs b (by simp [hb]))
    rw [List.length_erase_of_mem hm] at this
    have := List.length_pos_of_mem hm
    simp only [List.length_cons]
    omega
/-- At most 2048. -/
theorem valid_len {x : PLog} (h8 : x.cores ≤ 8) (hl : ∀ k, k < 8 → (x.rows k).length ≤ 256) {d : List (Nat × Nat)} (hs : d.Pairwise (kLt x)) (hv : ∀ a ∈ d, Valid x a) : d.length ≤ 2048 := by
  have h1 := nodup_le_of (m := (List.range 8).flatMap fun c => (List.range 256).map fun p => (c, p)) (Pairwise.nodup_of (fun _ => kLt_irrefl) hs) fun a ha => by
    obtain ⟨v1, v2⟩ := hv a ha
    rw [List.mem_flatMap]
    exact ⟨a.1, List.mem_range.2 (by omega), List.mem_map.2 ⟨a.2, List.mem_range.2 (by have := hl a.1 (by omega); omega), rfl⟩⟩
  have h2 : ((List.range 8).flatMap fun c => (List.range 256).map fun p => (c, p)).length = 2048 := by
    rw [List.length_flatMap]
    simp only [List.length_map, List.length_range]
    decide
  omega
/-- The fronts ahead of all. -/
def startPs (x : PLog) (i : Nat) : List (Nat × Nat) := ((List.range i).filter fun c => decide (0 < (x.rows c).length)).map fun c => (c, 0)
theorem startPs_succ (x : PLog) (i : Nat) : startPs x (i + 1) = startPs x i ++ (if 0 < (x.rows i).length then [(i, 0)] else []) := by
  unfold startPs
  rw [List.range_succ, List.filter_append, List.map_append]
  congr 1
  by_cases h : 0 < (x.rows i).length <;> simp [h]
theorem startPs_len (x : PLog) (i : Nat) : (startPs x i).length ≤ i := by
  unfold startPs
  rw [List.length_map]
  exact Nat.le_trans (List.length_filter_le _ _) (by simp)
theorem startPs_mem {x : PLog} {i : Nat} {a : Nat × Nat} : a ∈ startPs x i ↔ a.1 < i ∧ 0 < (x.rows a.1).length ∧ a.2 = 0 := by
  unfold startPs
  simp only [List.mem_map, List.mem_filter, List.mem_range, decide_eq_true_eq]
  constructor
  · rintro ⟨c, ⟨h1, h2⟩, rfl⟩
    exact ⟨h1, h2, rfl⟩
  · rintro ⟨h1, h2, h3⟩
    exact ⟨a.1, ⟨h1, h2⟩, Prod.ext rfl h3.symm⟩
theorem Mg.start (x : PLog) : Mg x (startPs x x.cores) [] := by
  refine ⟨?_, fun a ha => ?_, by simp, fun a ha => .inr ⟨0, startPs_mem.2 ⟨ha.1, Nat.lt_of_le_of_lt (Nat.zero_le _) ha.2, rfl⟩, Nat.zero_le _⟩, List.Pairwise.nil, by simp⟩
  · have : (startPs x x.cores).map Prod.fst = (List.range x.cores).filter fun c => decide (0 < (x.rows c).length) := by
      unfold startPs
      rw [List.map_map]
      exact List.map_id _
    rw [this]
    exact List.nodup_range.filter _
  · obtain ⟨h1, h2, h3⟩ := startPs_mem.1 ha
    exact ⟨h1, by rw [h3]; exact h2⟩
theorem perm_map {α β : Type} {f : α → β} {l m : List β} (h : l.Perm m) : ∀ ps, m = ps.map f → ∃ qs : List α, l = qs.map f ∧ qs.Perm ps := by
  induction h with
  | nil => exact fun ps hp => ⟨[], rfl, by rw [List.map_eq_nil_iff.1 hp.symm]⟩
  | cons a _ ih =>
    intro ps hp
    cases ps with
    | nil => simp at hp
    | cons b ps =>
      rw [List.map_cons] at hp
      injection hp with h1 h2
      obtain ⟨qs, h3, h4⟩ := ih ps h2
      exact ⟨b :: qs, by rw [h1, h3, List.map_cons], h4.cons b⟩
  | swap a b l =>
    intro ps hp
    match ps, hp with
    | [], hp => simp at hp
    | [_], hp => simp at hp
    | c :: d :: ps, hp =>
      simp only [List.map_cons, List.cons.injEq] at hp
      exact ⟨d :: c :: ps, by rw [hp.1, hp.2.1, hp.2.2, List.map_cons, List.map_cons], List.Perm.swap _ _ _⟩
  | trans _ _ ih1 ih2 =>
    intro ps hp
    obtain ⟨qs, h1, h2⟩ := ih2 ps hp
    obtain ⟨rs, h3, h4⟩ := ih1 qs h1
    exact ⟨rs, h3, h4.trans h2⟩
/-- A front of a core's row. -/
def capOf (v : Value) : Nat := match v with | .slice _ _ c => c | _ => 0
def frOf (vs : Nat → Value) (x : PLog) (a : Nat × Nat) : Fr := ⟨a.1, ((vs a.1).ownBlock).getD 0, a.2 * 12, (x.rows a.1).length - a.2, capOf (vs a.1) - a.2, (recAt x a).stamp⟩
theorem frOf_lt {vs : Nat → Value} {x : PLog} {a b : Nat × Nat} : frLt (frOf vs x a) (frOf vs x b) ↔ kLt x a b := Iff.rfl
theorem heap_least {vs : Nat → Value} {x : PLog} {a : Nat × Nat} {qs : List (Nat × Nat)} (h : HeapL ((a :: qs).map (frOf vs x))) : ∀ b ∈ a :: qs, ¬ kLt x b a := fun b hb => by
  have := HeapL.least (e := frOf vs x a) (l := qs.map (frOf vs x)) h (frOf vs x b) (by rw [← List.map_cons (f := frOf vs x)]; exact List.mem_map_of_mem hb)
  exact this
end Go.Proofs.YtehckjkihaalfaaGreat

/- Merge, walked. -/
namespace Go.Proofs.YtehckjkihaalfaaGreat
open Go.RowKit Go.Maps
section
variable {w w' wr W : World} {P : Nat} {ls : Nat → Value} {x : PLog} {s : Nat} {g : Option Nat} {ps qs : List (Nat × Nat)}
theorem rAt_get2 {l : List R} {k : Nat} (h : k < l.length) : l[k]? = some (rAt l k) := by
  unfold rAt
  rw [List.getD_eq_getElem?_getD, List.getElem?_eq_getElem h]
  rfl
/-- A front of a log in memory. -/
theorem LogAt.fr (h : LogAt w P ls x) {a : Nat × Nat} (ha : Valid x a) :
    ∃ q cap, ls a.1 = .slice (some ⟨q, 0, none⟩) (x.rows a.1).length cap ∧ (x.rows a.1).length ≤ cap ∧ frOf ls x a = ⟨a.1, q, a.2 * 12, (x.rows a.1).length - a.2, cap - a.2, (recAt x a).stamp⟩ ∧ P < q ∧ q < w.heap.size ∧ ∀ j v, (cellsR (recAt x a))[j]? = some v → w.cell? ⟨q, a.2 * 12 + j, none⟩ = some v := by
  have h8 : a.1 < 8 := Nat.lt_of_lt_of_le ha.1 h.cores8.2
  have ho := h.own a.1 h8
  obtain ⟨A, cap, hA⟩ := h.slice h8
  rw [hA] at ho
  rcases ho.2 with ⟨h', h1⟩ | ⟨q, cap', cur, h', hb, hc, h1, h2⟩
  · have := ha.2
    omega
  · simp only [Value.slice.injEq] at h'
    obtain ⟨rfl, _, rfl⟩ := h'
    have hq := h.blkLt h8 (q := q) (by rw [hA]; rfl)
    refine ⟨q, cap, hA, by omega, ?_, hq.1, hq.2, fun j v hj => ?_⟩
    · unfold frOf
      rw [hA]
      rfl
    · have hj12 : j < 12 := (Array.getElem?_eq_some_iff.1 hj).1
      rw [ho.cellAt _ (by have := ha.2; omega)]
      exact flatR_get (rAt_get2 ha.2) hj
def KgM (s : Nat) (g : Option Nat) (b : Nat) : Prop := b ≤ s ∨ g = some b
/-- Fronts in a heap beside a log. -/
structure InM (w : World) (ls : Nat → Value) (x : PLog) (s : Nat) (g : Option Nat) (wr : World) (ps : List (Nat × Nat)) : Prop where
  heap : HeapL (ps.map (frOf ls x))
  at_ : FrAt wr (KgM s g) s (ps.map (frOf ls x))
  below : Below w.heap.size w wr
  gt : ∀ b, g = some b → b < wr.heap.size
theorem InM.lt (h : InM w ls x s g wr ps) : ∀ b, KgM s g b → b < wr.heap.size := fun b hb => by
  rcases hb with hb | hb
  · obtain ⟨A, c, h1, _⟩ := h.at_.row
    exact Nat.lt_of_le_of_lt hb (lt_heap h1)
  · exact h.gt b hb
theorem Below.of_stays {K : Nat → Prop} {B : Nat} (h1 : Below w.heap.size w wr) (h2 : StaysB K B wr W) (hK : ∀ b, b < w.heap.size → K b ∧ b ≠ B) : Below w.heap.size w W :=
  ⟨h2.os.trans h1.os, h2.tape.trans h1.tape, h2.output.trans h1.output, Nat.le_trans h1.size h2.size, fun b hb => (h2.old b (hK b hb)).trans (h1.block b hb)⟩
/-- What a turn of the heap leaves. -/
theorem InM.next (h : InM w ls x s g wr ps) (hs : s = w.heap.size) {l' : List Fr} (hp : l'.Perm (qs.map (frOf ls x))) (hh : HeapL l') (ha : FrAt W (KgM s g) s l') (hb : StaysB (KgM s g) s wr W) : ∃ rs, rs.Perm qs ∧ InM w ls x s g W rs := by
  obtain ⟨rs, rfl, h2⟩ := perm_map hp qs rfl
  exact ⟨rs, h2, hh, ha, Below.of_stays h.below hb fun b hb => ⟨.inl (by omega), by omega⟩, fun b hb' => Nat.lt_of_lt_of_le (h.gt b hb') hb.size⟩
/-- The row that is merged into grows. -/
theorem InM.append (h : InM w ls x s g wr ps) (hL : LogAt w P ls x) (hs : s = w.heap.size) (hv : ∀ a ∈ ps, Valid x a) {o : Obj} {g' : Option Nat} (hgs : ∀ b, g = some b → s < b) (hg : (wr.alloc o).grownBy W g) (hg' : ∀ b, g' = some b → g = some b ∨ (wr.alloc o).heap.size ≤ b) (hlt : ∀ b, g' = some b → b < W.heap.size) : InM w ls x s g' W ps := by
  obtain ⟨A, c, k1, k2⟩ := h.at_.row
  have hsw : s < wr.heap.size := lt_heap k1
  have hsz : (wr.alloc o).heap.size = wr.heap.size + 1 := by simp
  have hsame : ∀ b, b < wr.heap.size → g ≠ some b → W.heap[b]? = wr.heap[b]? := fun b hb hne => (hg.block b (by omega) (fun e => hne e.symm)).trans (heap_alloc_old _ _ hb)
  have hgne : ∀ b, b ≤ s → g ≠ some b := fun b hb e => by have := hgs b e; omega
  have hbW : Below w.heap.size w W := ⟨hg.os.trans h.below.os, hg.tape.trans h.below.tape, hg.output.trans h.below.output, by have := hg.size; have := h.below.size; omega, fun b hb => (hsame b (by omega) (hgne b (by omega))).trans (h.below.block b hb)⟩
  have hLW := hL.below hbW
  refine ⟨h.heap, ⟨⟨A, c, (hsame s hsw (hgne s (Nat.le_refl _))).trans k1, ⟨own_same k2.1 fun z hz => hsame z (k2.1.lt z hz).2 (fun e => k2.2 z hz (.inr e)), fun z hz hk => ?_⟩⟩, .inl (Nat.le_refl _), fun e he => ?_⟩, hbW, hlt⟩
  · rcases hk with hk | hk
    · exact k2.2 z hz (.inl hk)
    · rcases hg' z hk with hk2 | hk2
      · exact k2.2 z hz (.inr hk2)
      · have := (k2.1.lt z hz).2
        omega
  · obtain ⟨a, ha, rfl⟩ := List.mem_map.1 he
    obtain ⟨q, cap, f1, f2, f3, f4, f5, f6⟩ := hL.fr (hv a ha)
    obtain ⟨q', cap', f1', f2', f3', f4', f5', f6'⟩ := hLW.fr (hv a ha)
    rw [f1] at f1'
    simp only [Value.slice.injEq, Option.some.injEq, Addr.mk.injEq] at f1'
    obtain ⟨⟨rfl, _⟩, _, rfl⟩ := f1'
    rw [f3]
    exact ⟨⟨fun _ => f6' 0 _ rfl, .inl (by show q ≤ s; omega)⟩, by show q ≠ s; omega⟩
/-- The root is another one. -/
theorem FrAt.setRoot {K : Nat → Prop} {e e' : Fr} {l : List Fr} {g2 c : Nat} (h : FrAt wr K s (e :: l)) (k1 : wr.heap[s]? = some (.cells #[.slice (some ⟨g2, 0, none⟩) (l.length + 1) c] 87 (0, 0))) (hc : e'.c = e.c) (hG : ∀ b, K b → b < wr.heap.size)
    (hok : ∀ W, StaysB K s wr W → FrOk W K e' ∧ e'.q ≠ s) : FrAt (wr.setCell ⟨g2, 1, none⟩ (.slice (some ⟨e'.q, e'.o, none⟩) e'.n e'.cap)) K s (e' :: l) ∧ StaysB K s wr (wr.setCell ⟨g2, 1, none⟩ (.slice (some ⟨e'.q, e'.o, none⟩) e'.n e'.cap)) ∧
      (wr.setCell ⟨g2, 1, none⟩ (.slice (some ⟨e'.q, e'.o, none⟩) e'.n e'.cap)).heap[s]? = some (.cells #[.slice (some ⟨g2, 0, none⟩) (l.length + 1) c] 87 (0, 0)) := by
  obtain ⟨A, c2, k3, k2⟩ := h.row
  rw [List.length_cons] at k3 k2
  have kk := k1.symm.trans k3
  simp only [Option.some.injEq, Obj.cells.injEq, Array.mk.injEq, List.cons.injEq, Value.slice.injEq, and_true] at kk
  obtain ⟨rfl, _, rfl⟩ : A = some ⟨g2, 0, none⟩ ∧ True ∧ c2 = c := by
    have := kk
    refine ⟨?_, trivial, ?_⟩
    · simp_all
    · simp_all
  have hg2 : ¬ K g2 := k2.2 g2 rfl
  have hne : ∀ b, K b → b ≠ g2 := fun b hb e => hg2 (e ▸ hb)
  have hst : StaysB K s wr (wr.setCell ⟨g2, 1, none⟩ (.slice (some ⟨e'.q, e'.o, none⟩) e'.n e'.cap)) := ⟨rfl, rfl, rfl, by simp, fun b hb => heap_setCell_other _ ⟨g2, 1, none⟩ b _ (hne b hb.1)⟩
  have hbox : (wr.setCell ⟨g2, 1, none⟩ (.slice (some ⟨e'.q, e'.o, none⟩) e'.n e'.cap)).heap[s]? = some (.cells #[.slice (some ⟨g2, 0, none⟩) (l.length + 1) c2] 87 (0, 0)) := (heap_setCell_other _ ⟨g2, 1, none⟩ s _ (hne s h.lt)).trans k3
  refine ⟨⟨⟨_, _, hbox, ?_, k2.2⟩, h.lt, fun e0 he => ?_⟩, hst, hbox⟩
  · have := (k2.1.stored 1 (.slice (some ⟨e'.q, e'.o, none⟩) e'.n e'.cap)).1
    rw [show frV (e' :: l) = (frV (e :: l)).set 1 (.slice (some ⟨e'.q, e'.o, none⟩) e'.n e'.cap) by unfold frV; simp [Fr.cells, hc]]
    exact this
  · rcases List.mem_cons.1 he with rfl | he
    · exact hok _ hst
    · have := h.keys e0 (List.mem_cons_of_mem _ he)
      exact ⟨this.1.stays this.2 hst, this.2⟩
theorem InM.start (hs : s = w.heap.size) : InM w ls x s none (w.alloc (.cells #[.slice none 0 0] 87)) [] := by
  subst hs
  exact ⟨HeapL.nil, ⟨⟨none, 0, heap_alloc_new _ _, World.ownsRow_nil _ _ _ _, fun q hq => by cases hq⟩, .inl (Nat.le_refl _), fun e he => by simp at he⟩, (Below.refl _ _).alloc (Nat.le_refl _) _, fun b hb => by cases hb⟩
end
theorem wpList_append_rec2 {ops : Array Oper} {rest : List Oper} {o : Oper} {a : Act} {Q : Exit → Act → World → Prop} {w : World} (hgd : o.guard = none) (s x : Operand)
    (ho : o.op = .call { callee := .builtin .append, args := #[s, x], argTypes := #[37, 37] })
    (base : Nat) (v : Value) (l : List R) (n k : Nat) (hn : l.length = n) (hk : n + 1 = k) (hs : a.eval s = v) (hown : w.ownsRow base 34 12 v n (flatR l)) (q : Nat) (p : R) (hx : a.eval x = .slice (some ⟨q, 0, none⟩) 1 1)
    (hq : w.heap[q]? = some (.cells (cellsR p) 34 (0, 0))) (hl : n ≤ 100000) (hbase : base ≤ w.heap.size)
    (h : ∀ A1 c1 w', w'.ownsRow base 34 12 (.slice A1 k c1) k (flatR (l ++ [p])) → w.grownBy w' v.ownBlock → (∀ z, (Value.slice A1 k c1).ownBlock = some z → v.ownBlock = some z ∨ w.heap.size ≤ z) → wpList Tryz.prog ops Q rest (a.put o.dst (.slice A1 k c1)) w') : wpList Tryz.prog ops Q (o :: rest) a w :=
  wpList_plain hgd fun _ hK => by
    subst hk
    obtain ⟨v', w', hrun, h2, h3, h4⟩ := run_append_rec2 base o.type w v l n hn hown q p hq hl hbase
    unfold Oper.wp execOp
    simp only [ho, resolve, invoke, builtin, Sem.run_bind, Sem.run_pure, Result.andThen_ok, List.map_toArray, List.map_cons, List.map_nil, hs, hx, hrun]
    obtain ⟨A1, c1, rfl⟩ := row_slice h2
    exact hK _ _ (h A1 c1 w' h2 h3 h4)
def lenOf (v : Value) : Nat := match v with | .slice _ n _ => n | _ => 0
set_option maxRecDepth 100000 in
set_option maxHeartbeats 4000000 in
theorem t_merge (P : Nat) (ls : Nat → Value) (x : PLog) (w : World) (h : LogAt w P ls x) (hx : LogOk x) :
    Calls Tryz.prog 14 #[.pointer (some ⟨P, 0, none⟩)] w fun e w' => ∃ A c done, e = .returned (.slice A done.length c) ∧ IsMerge x done ∧ w'.ownsRow w.heap.size 34 12 (.slice A done.length c) done.length (flatR (done.map (recAt x))) ∧ Below w.heap.size w w' := by
  have HH := Lib.hid h
  have h8 := h.cores8
  have c0 : (w.alloc (.cells #[.slice none 0 0] 87)).cell? ⟨P, 0, none⟩ = some (.int .i64 (x.cores : Int)) := (h.below (below_a1' w _)).c0
  obtain ⟨s, hs⟩ : ∃ s, s = w.heap.size := ⟨_, rfl⟩
  have HS := Lib.hid hs
  have HX := Lib.hid hx
  clear h hs hx
  go_enter Tryz.func14, Tryz.ntmps14
  go_wp2
  rw [← HS.out]
  go_loopw [11] (fun v wr => ∃ (i : Nat) (ps : List (Nat × Nat)), v = .int .i64 (i : Int) ∧ i ≤ x.cores ∧ Hid (ps.Perm (startPs x i) ∧ InM w ls x s none wr ps)) (fun v _ => x.cores - (intOf v).toNat)
  case atStart => exact ⟨0, [], rfl, Nat.zero_le _, List.Perm.refl _, InM.start HS.out⟩
  case round =>
    obtain ⟨i, ps, rfl, hi, HI⟩ := hrel
    have HLr := Lib.hid (HH.out.below HI.out.2.below)
    by_cases hic : i < x.cores
    · have hi8 : i < 8 := by omega
      have hi8' : ((i : Nat) : Int) < 8 := by omega
      have crow := HLr.out.row hi8
      obtain ⟨A, cap, hsl⟩ := HLr.out.slice hi8
      obtain ⟨n, hn⟩ : ∃ n, n = (x.rows i).length := ⟨_, rfl⟩
      rw [← hn] at hsl
      have HSL := Lib.hid hsl
      rw [hsl] at crow
      have HN := Lib.hid hn
      clear hsl hn
      by_cases hn0 : n = 0
      · subst hn0
        go_wp2
        go_roundw
        case rel =>
          refine ⟨i + 1, ps, rfl, hic, ?_, HI.out.2⟩
          rw [startPs_succ, if_neg (by rw [← HN.out]; omega), List.append_nil]
          exact HI.out.1
        case measure => simp only [intOf]; omega
      · have hn1 : 0 < n := by omega
        have hv : Valid x (i, 0) := ⟨hic, by show 0 < (x.rows i).length; rw [← HN.out]; exact hn1⟩
        obtain ⟨q, cap', f1, f2, f3, f4, f5, f6⟩ := HLr.out.fr hv
        have f1' : ls i = .slice (some ⟨q, 0, none⟩) n cap' := by rw [HN.out]; exact f1
        rw [HSL.out] at f1'
        simp only [Value.slice.injEq] at f1'
        obtain ⟨rfl, _, rfl⟩ := f1'
        have hpl : ps.length ≤ 40000 := by have := HI.out.1.length_eq; have := startPs_len x i; omega
        have hqs : q < s := by rw [HS.out]; exact (HH.out.blkLt hi8 (q := q) (by rw [HSL.out]; rfl)).2
        have HPU : Hid (Calls Tryz.prog 54 #[frI s, .iface 91 (.agg #[.int .i64 (i : Int), .slice (some ⟨q, 0, none⟩) n cap])] wr fun e w' => e = .returned (.tuple #[]) ∧ ∃ rs, rs.Perm ((i, 0) :: ps) ∧ InM w ls x s none w' rs) := by
          have hp := t_fhPush (KgM s none) s (ps.map (frOf ls x)) (frOf ls x (i, 0)) wr HI.out.2.at_ HI.out.2.heap (by
            rw [f3]
            exact ⟨⟨fun _ => f6 0 _ rfl, .inl (by show q ≤ s; omega)⟩, by show q ≠ s; omega⟩) (fun e he => by
            rw [← List.map_cons (f := frOf ls x)] at he
            obtain ⟨a, ha, rfl⟩ := List.mem_map.1 he
            show 1 ≤ (x.rows a.1).length - a.2
            rcases List.mem_cons.1 ha with rfl | ha
            · have := hv.2
              omega
            · have := startPs_mem.1 (HI.out.1.mem_iff.1 ha)
              omega) (by rw [List.length_map]; exact hpl) HI.out.2.lt
          rw [f3] at hp
          rw [show (x.rows (i, 0).1).length = n from HN.out.symm] at hp
          refine hp.mono fun e w' hh => ⟨hh.1, ?_⟩
          obtain ⟨l', g1, g2, g3, g4⟩ := hh.2
          rw [show (x.rows (i, 0).1).length = n from HN.out.symm] at f3
          rw [← f3, ← List.map_cons (f := frOf ls x)] at g1
          exact HI.out.2.next HS.out g1 g2 g3 g4
        clear f1 f3 f6 hv
        go_wp2_with (go_at_call 54; (with_reducible refine HPU.out.mono ?_); rintro e w2 ⟨rfl, rs, h1, h2⟩; have H2 := Lib.hid (And.intro h1 h2); clear h1 h2)
        go_roundw
        case rel =>
          refine ⟨i + 1, rs, rfl, hic, ?_, H2.out.2⟩
          rw [startPs_succ, if_pos (by rw [← HN.out]; omega)]
          exact (H2.out.1.trans (HI.out.1.cons _)).trans (List.perm_append_comm (l₁ := [(i, 0)]) (l₂ := startPs x i))
        case measure => simp only [intOf]; omega
    · obtain rfl : i = x.cores := by omega
      have hmg : Hid (Mg x ps []) := (Mg.start x).perm HI.out.1
      go_wp2
      go_loopw [2] (fun v W => ∃ (A : Option Addr) (N c : Nat), v = .slice A N c ∧ N ≤ 2048 ∧ Hid (∃ ps done, done.length = N ∧ Mg x ps done ∧ InM w ls x s (Value.slice A N c).ownBlock W ps ∧ W.ownsRow (s + 1) 34 12 (.slice A N c) N (flatR (done.map (recAt x))))) (fun v _ => 2048 - lenOf v)
      case atStart => exact ⟨none, 0, 0, rfl, by omega, ps, [], rfl, hmg.out, HI.out.2, World.ownsRow_nil _ _ _ _⟩
      case round =>
        clear HI hmg HLr hic hi
        obtain ⟨A, N, c, rfl, hN, HI⟩ := hrel
        have hi2 := HI.out
        obtain ⟨ps, done, hd, hm, hI, how⟩ := hi2
        have HD := Lib.hid hd
        have HM := Lib.hid hm
        have HIM := Lib.hid hI
        have HOW := Lib.hid how
        have hf := hI.at_
        clear HI hd hm hI how
        cases ps with
        | nil =>
          obtain ⟨A2, c2, k1, _⟩ := hf.row
          have cW := box_cell k1
          clear k1 hf
          go_wp2
          go_ret
          refine ⟨A, c, done, by rw [HD.out]; rfl, HM.out.done, ?_, HIM.out.below⟩
          rw [HD.out, ← HS.out]
          exact own_low HOW.out (by omega)
        | cons a qs =>
          obtain ⟨A2, c2, k1, k2⟩ := hf.row
          rw [List.length_map, List.length_cons] at k1 k2
          obtain ⟨g2, rfl, hg2, hl2, cx, cx1, fx⟩ := fr_cell (k := 0) k2 (Nat.succ_pos _)
          have hv := HM.out.val a (by simp)
          obtain ⟨q, cap, f1, f2, f3, f4, f5, f6⟩ := (HH.out.below HIM.out.below).fr hv
          rw [show fAt ((a :: qs).map (frOf ls x)) 0 = frOf ls x a from rfl, f3] at cx1
          obtain ⟨n, hn⟩ : ∃ n, n = (x.rows a.1).length - a.2 := ⟨_, rfl⟩
          obtain ⟨o, ho⟩ : ∃ o, o = a.2 * 12 := ⟨_, rfl⟩
          rw [← hn, ← ho] at cx1
          rw [← ho] at f6
          have hn0 : 0 < n := by have := hv.2; omega
          have cW := box_cell k1
          obtain ⟨m, hmm⟩ : ∃ m, m = qs.length := ⟨_, rfl⟩
          rw [← hmm] at cW
          obtain ⟨r, hr⟩ : ∃ r, r = recAt x a := ⟨_, rfl⟩
          rw [← hr] at f6
          have r0 := f6 0 _ rfl
          rw [Nat.add_zero] at r0
          have r1 := f6 1 _ rfl
          have r2 := f6 2 _ rfl
          have r3 := f6 3 _ rfl
          have r4 := f6 4 _ rfl
          have r5 := f6 5 _ rfl
          have r6 := f6 6 _ rfl
          have r7 := f6 7 _ rfl
          have r8 := f6 8 _ rfl
          have r9 := f6 9 _ rfl
          have r10 := f6 10 _ rfl
          have r11 := f6 11 _ rfl
          have HQ := Lib.hid (And.intro f1 (And.intro f2 (And.intro f3 (And.intro f4 f5))))
          have HN := Lib.hid hn
          have HO := Lib.hid ho
          have HMM := Lib.hid hmm
          have HR := Lib.hid hr
          have HV := Lib.hid hv
          clear f1 f2 f3 f4 f5 f6 hn ho hmm hr hv k1 k2 hf cx hl2 fx
          go_wp2_with (at_builtin; refine wpList_append_rec2 rfl _ _ rfl (s + 1) _ (done.map (recAt x)) N (N + 1) (by rw [List.length_map]; exact HD.out) rfl rfl (HOW.out.alloc _) wr.heap.size r rfl (heap_alloc_new _ _) (by omega) (by rw [World.alloc_size']; have := HIM.out.lt s (.inl (Nat.le_refl _)); omega) ?_; intro A2 d2 W4 g4 g5 g6; have H4 := Lib.hid (And.intro g4 (And.intro g5 g6)); clear g4 g5 g6)
          have hgs : ∀ b, (Value.slice A N c).ownBlock = some b → s < b := fun b hb => (HOW.out.lt b hb).1
          have hlt4 : ∀ b, (Value.slice A2 (N + 1) d2).ownBlock = some b → b < W4.heap.size := fun b hb => (H4.out.1.lt b hb).2
          have hm4 := HIM.out.append HH.out HS.out (fun b hb => HM.out.val b hb) hgs H4.out.2.1 H4.out.2.2 hlt4
          have hf4 := hm4.at_
          have HM4 := Lib.hid hm4
          have HBL4 := Lib.hid hm4.below
          obtain ⟨A3, c3, k1, k2⟩ := hf4.row
          rw [List.length_map, List.length_cons, ← HMM.out] at k1 k2
          obtain ⟨g3, rfl, hg3, hl3, cy, cy1, fy⟩ := fr_cell (k := 0) k2 (Nat.succ_pos _)
          rw [show fAt ((a :: qs).map (frOf ls x)) 0 = frOf ls x a from rfl, HQ.out.2.2.1, ← HN.out, ← HO.out] at cy1
          obtain ⟨cc, hcc⟩ : ∃ cc, cc = cap - a.2 := ⟨_, rfl⟩
          rw [← hcc] at cy1
          have hccn : n ≤ cc := by have h1 := HQ.out.2.1; have h2 := HN.out; omega
          have HCC := Lib.hid hcc
          have HK1 := Lib.hid k1
          have cW4 := box_cell k1
          have fy1 : W4.frozen? ⟨g3, 1, none⟩ = false := fy _
          have hsg : ¬ s = g3 := fun e => hg3 (e ▸ .inl (Nat.le_refl _))
          have hgs3 : ¬ g3 = s := fun e => hsg e.symm
          have HG3 := Lib.hid hg3
          clear hgs hlt4 hm4 hf4 k1 k2 hl3 cy fy hcc hg3
          obtain ⟨n, rfl⟩ : ∃ k, n = k + 1 := ⟨n - 1, by omega⟩
          obtain ⟨cc, rfl⟩ : ∃ k, cc = k + 1 := ⟨cc - 1, by omega⟩
          obtain ⟨o5, ho5, ho6⟩ : ∃ o5, (if cc = 0 then some (⟨q, o, none⟩ : Addr) else some ⟨q, o + 12, none⟩) = some ⟨q, o5, none⟩ ∧ (1 ≤ n → o5 = o + 12) := by
            by_cases h0 : cc = 0
            · exact ⟨o, by rw [if_pos h0], fun h => by omega⟩
            · exact ⟨o + 12, by rw [if_neg h0], fun _ => rfl⟩
          have HO5 := Lib.hid ho5
          have HO6 := Lib.hid ho6
          clear ho5 ho6
          have hqs : q < s := by
            have h1 := HQ.out.1
            rw [HS.out]
            exact (HH.out.blkLt (Nat.lt_of_lt_of_le HV.out.1 h8.2) (q := q) (by rw [h1]; rfl)).2
          have hle := heap_least HIM.out.heap
          have HLE := Lib.hid hle
          have hnext : 1 ≤ n → Valid x (a.1, a.2 + 1) := fun h => ⟨HV.out.1, by show a.2 + 1 < (x.rows a.1).length; have := HN.out; omega⟩
          have HNEXT := Lib.hid hnext
          have hok5 : ∀ W, StaysB (KgM s (Value.slice A2 (N + 1) d2).ownBlock) s W4 W → FrOk W (KgM s (Value.slice A2 (N + 1) d2).ownBlock) ⟨a.1, q, o5, n, cc, (recAt x (a.1, a.2 + 1)).stamp⟩ ∧ q ≠ s := fun W hW => by
            refine ⟨⟨fun h1 => ?_, .inl (by show q ≤ s; omega)⟩, by omega⟩
            have hb := Below.of_stays HBL4.out hW fun b hb => ⟨.inl (by have := HS.out; omega), by have := HS.out; omega⟩
            obtain ⟨q', cap', f1, f2, f3, f4, f5, f6⟩ := (HH.out.below hb).fr (hnext h1)
            have h2 := HQ.out.1
            rw [show ls (a.1, a.2 + 1).1 = ls a.1 from rfl, h2] at f1
            simp only [Value.slice.injEq, Option.some.injEq, Addr.mk.injEq] at f1
            obtain ⟨⟨rfl, _⟩, _, rfl⟩ := f1
            have h3 := f6 0 _ rfl
            rw [show (a.1, a.2 + 1).2 * 12 + 0 = o5 by rw [HO6.out h1, HO.out]; show (a.2 + 1) * 12 + 0 = a.2 * 12 + 12; omega] at h3
            exact h3
          have hroot := FrAt.setRoot (e' := ⟨a.1, q, o5, n, cc, (recAt x (a.1, a.2 + 1)).stamp⟩) (e := frOf ls x a) (l := qs.map (frOf ls x)) HM4.out.at_ (g2 := g3) (c := c3) (by rw [List.length_map, ← HMM.out]; exact HK1.out) rfl HM4.out.lt hok5
          have HROOT := Lib.hid hroot
          have hfr5 : 1 ≤ n → (⟨a.1, q, o5, n, cc, (recAt x (a.1, a.2 + 1)).stamp⟩ : Fr) = frOf ls x (a.1, a.2 + 1) := fun h1 => by
            obtain ⟨q', cap', f1, f2, f3, f4, f5, f6⟩ := HH.out.fr (hnext h1)
            have h2 := HQ.out.1
            rw [show ls (a.1, a.2 + 1).1 = ls a.1 from rfl, h2] at f1
            simp only [Value.slice.injEq, Option.some.injEq, Addr.mk.injEq] at f1
            obtain ⟨⟨rfl, _⟩, _, rfl⟩ := f1
            rw [f3, HO6.out h1, HO.out]
            have e1 := HN.out
            have e2 := HCC.out
            rw [Fr.mk.injEq]
            refine ⟨rfl, rfl, ?_, ?_, ?_, rfl⟩
            · show a.2 * 12 + 12 = (a.2 + 1) * 12
              omega
            · show n = (x.rows a.1).length - (a.2 + 1)
              omega
            · show cc = cap - (a.2 + 1)
              omega
          have HFR5 := Lib.hid hfr5
          have hposq : ∀ e ∈ qs.map (frOf ls x), 1 ≤ e.n := fun e he => by
            obtain ⟨b, hb, rfl⟩ := List.mem_map.1 he
            have := (HM.out.val b (by simp [hb])).2
            show 1 ≤ (x.rows b.1).length - b.2
            omega
          have HPOSQ := Lib.hid hposq
          have hqlen : qs.length ≤ 30000 := by
            have h1 := nodup_le 8 (qs.map Prod.fst) (by have h2 := HM.out.nd; rw [List.map_cons, List.nodup_cons] at h2; exact h2.2) (fun k hk => by
              obtain ⟨b, hb, rfl⟩ := List.mem_map.1 hk
              have := (HM.out.val b (by simp [hb])).1
              omega)
            rw [List.length_map] at h1
            omega
          have HQLEN := Lib.hid hqlen
          clear hqs hle hnext hok5 hroot hfr5 hposq hqlen
          go_wp2
          go_region
          rw [HO5.out]
          have hb5 := below_drewN2 (W4.setCell ⟨g3, 1, none⟩ (.slice (some ⟨q, o5, none⟩) n cc)) 1
          have hR5 := HROOT.out
          have hG5 : ∀ b, KgM s (Value.slice A2 (N + 1) d2).ownBlock b → b < (W4.setCell ⟨g3, 1, none⟩ (.slice (some ⟨q, o5, none⟩) n cc)).heap.size := fun b hb => Nat.lt_of_lt_of_le (HM4.out.lt b hb) hR5.2.1.size
          have hF5 : FrAt ((W4.setCell ⟨g3, 1, none⟩ (.slice (some ⟨q, o5, none⟩) n cc)).drew) (KgM s (Value.slice A2 (N + 1) d2).ownBlock) s (⟨a.1, q, o5, n, cc, (recAt x (a.1, a.2 + 1)).stamp⟩ :: qs.map (frOf ls x)) := hR5.1.same hb5 hG5
          have hS5 : StaysB (KgM s (Value.slice A2 (N + 1) d2).ownBlock) s W4 ((W4.setCell ⟨g3, 1, none⟩ (.slice (some ⟨q, o5, none⟩) n cc)).drew) := hR5.2.1.trans' (Stays.belowB hb5 hG5)
          clear hb5 hR5 hG5
          generalize (W4.setCell ⟨g3, 1, none⟩ (.slice (some ⟨q, o5, none⟩) n cc)).drew = W5 at hF5 hS5 ⊢
          obtain ⟨A6, c6, k1, k2⟩ := hF5.row
          rw [List.length_cons, List.length_map, ← HMM.out] at k1 k2
          obtain ⟨g6, rfl, _, _, _, cy5, _⟩ := fr_cell (k := 0) k2 (Nat.succ_pos _)
          rw [fAt_cons0] at cy5
          have cW5 := box_cell k1
          have HF5 := Lib.hid hF5
          have HS5 := Lib.hid hS5
          clear k1 k2 hF5 hS5
          by_cases hn00 : n = 0
          · subst hn00
            have hcall := t_fhRemove (KgM s (Value.slice A2 (N + 1) d2).ownBlock) s ⟨a.1, q, o5, 0, cc, (recAt x (a.1, a.2 + 1)).stamp⟩ (qs.map (frOf ls x)) W5 HF5.out (DownInv.last (e := frOf ls x a) HIM.out.heap) HPOSQ.out (by rw [List.length_map]; have := HQLEN.out; omega) (fun b hb => Nat.lt_of_lt_of_le (HM4.out.lt b hb) HS5.out.size)
            have HCALL := Lib.hid hcall
            clear hcall
            go_wp2_with (go_at_call 55; (with_reducible refine HCALL.out.mono ?_); rintro e W6 ⟨⟨v6, rfl⟩, l6, h1, h2, h3, h4⟩; have H6 := Lib.hid (HM4.out.next HS.out h1 h2 h3 (HS5.out.trans' h4)); have HS6 := Lib.hid (HS5.out.trans' h4); clear h1 h2 h3 h4)
            obtain ⟨rs, h61, h62⟩ := H6.out
            have hmg := HM.out.drop HLE.out (by have := HN.out; omega)
            have hlen := valid_len h8.2 HH.out.len hmg.sort hmg.dv
            have hfin : ∃ ps done, done.length = N + 1 ∧ Mg x ps done ∧ InM w ls x s (Value.slice A2 (N + 1) d2).ownBlock W6 ps ∧ W6.ownsRow (s + 1) 34 12 (.slice A2 (N + 1) d2) (N + 1) (flatR (done.map (recAt x))) := by
              refine ⟨rs, done ++ [a], by rw [List.length_append, HD.out]; rfl, hmg.perm h61, h62, ?_⟩
              rw [List.map_append, List.map_cons, List.map_nil, ← HR.out]
              exact own_same H4.out.1 fun b hb => HS6.out.old b ⟨.inr hb, by have := (H4.out.1.lt b hb).1; omega⟩
            rw [List.length_append, HD.out, List.length_singleton] at hlen
            have HFIN := Lib.hid hfin
            clear hfin hmg h61 h62
            go_roundw
            case rel => exact ⟨A2, N + 1, d2, rfl, hlen, HFIN.out⟩
            case measure => simp only [lenOf]; omega
          · have hn1 : 1 ≤ n := by omega
            have he5 := HFR5.out hn1
            have hcall := t_fhFix (KgM s (Value.slice A2 (N + 1) d2).ownBlock) s (⟨a.1, q, o5, n, cc, (recAt x (a.1, a.2 + 1)).stamp⟩ :: qs.map (frOf ls x)) W5 HF5.out (DownInv.cons (e := frOf ls x a) HIM.out.heap) (Nat.succ_pos _) (fun e he => (List.mem_cons.1 he).elim (fun h => by rw [h]; exact hn1) (HPOSQ.out e)) (by rw [List.length_cons, List.length_map]; have := HQLEN.out; omega) (fun b hb => Nat.lt_of_lt_of_le (HM4.out.lt b hb) HS5.out.size)
            have HCALL := Lib.hid hcall
            have HE5 := Lib.hid he5
            have hnb : ((n : Int) == 0) = false := by simp; omega
            clear hcall he5
            go_wp2_with (go_at_call 56; (with_reducible refine HCALL.out.mono ?_); rintro e W6 ⟨rfl, l6, h1, h2, h3, h4⟩; have H6 := Lib.hid (HM4.out.next (qs := (a.1, a.2 + 1) :: qs) HS.out (by rw [List.map_cons, ← HE5.out]; exact h1) h2 h3 (HS5.out.trans' h4)); have HS6 := Lib.hid (HS5.out.trans' h4); clear h1 h2 h3 h4)
            obtain ⟨rs, h61, h62⟩ := H6.out
            have hmg := HM.out.next HX.out h8.2 HLE.out (HNEXT.out hn1).2
            have hlen := valid_len h8.2 HH.out.len hmg.sort hmg.dv
            have hfin : ∃ ps done, done.length = N + 1 ∧ Mg x ps done ∧ InM w ls x s (Value.slice A2 (N + 1) d2).ownBlock W6 ps ∧ W6.ownsRow (s + 1) 34 12 (.slice A2 (N + 1) d2) (N + 1) (flatR (done.map (recAt x))) := by
              refine ⟨rs, done ++ [a], by rw [List.length_append, HD.out]; rfl, hmg.perm h61, h62, ?_⟩
              rw [List.map_append, List.map_cons, List.map_nil, ← HR.out]
              exact own_same H4.out.1 fun b hb => HS6.out.old b ⟨.inr hb, by have := (H4.out.1.lt b hb).1; omega⟩
            rw [List.length_append, HD.out, List.length_singleton] at hlen
            have HFIN := Lib.hid hfin
            clear hfin hmg h61 h62
            go_roundw
            case rel => exact ⟨A2, N + 1, d2, rfl, hlen, HFIN.out⟩
            case measure => simp only [lenOf]; omega
end Go.Proofs.YtehckjkihaalfaaGreat
