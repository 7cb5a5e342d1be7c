/- Logs, in plain words: what is put, taken and merged. -/
import Derived.Test.YtehckjkihaalfaaGreatEM
namespace Go.Proofs.YtehckjkihaalfaaGreat
open Go.RowKit Go.Maps

def newP (cores most : Nat) : PLog := ⟨cores, most, fun _ => [], fun _ => 0⟩
theorem LogOk.new (cores most : Nat) : LogOk (newP cores most) := ⟨fun _ _ => List.Pairwise.nil, fun _ _ r hr => by simp [newP] at hr, fun _ _ => rfl⟩
theorem putL_cores (x : PLog) (k : Int) (r : R) : (putL x k r).cores = x.cores := by unfold putL; split <;> rfl
theorem putL_most (x : PLog) (k : Int) (r : R) : (putL x k r).most = x.most := by unfold putL; split <;> rfl
theorem putE_zero {x : PLog} {k : Int} {r : R} (h : putE x k r = 0) : 0 ≤ k ∧ k.toNat < x.cores ∧ checkB r = true ∧ x.last k.toNat < r.stamp := by
  unfold putE at h
  split at h
  · rename_i h1
    exact ⟨h1.1, by omega, h1.2.2.1, h1.2.2.2⟩
  · omega
theorem LogOk.put {x : PLog} (hx : LogOk x) (h8 : x.cores ≤ 8) (k : Int) (r : R) : LogOk (putL x k r) := by
  unfold putL
  split
  · rename_i h0
    obtain ⟨h1, h2, _, h4⟩ := putE_zero h0
    obtain ⟨j, hj⟩ : ∃ j, j = k.toNat := ⟨_, rfl⟩
    rw [← hj] at h2 h4 ⊢
    refine ⟨fun i hi => ?_, fun i hi s hs => ?_, fun i hi => ?_⟩
    · show Rising (setF x.rows j (x.rows j ++ [r]) i)
      by_cases e : i = j
      · subst e
        rw [setF_same]
        unfold Rising
        rw [List.pairwise_append]
        refine ⟨hx.rising i hi, List.pairwise_singleton _ _, fun a ha b hb => ?_⟩
        rw [List.mem_singleton] at hb
        subst hb
        have := hx.last i hi a ha
        omega
      · rw [setF_other _ _ e]
        exact hx.rising i hi
    · have hs' : s ∈ setF x.rows j (x.rows j ++ [r]) i := hs
      show s.stamp ≤ setF x.last j r.stamp i
      by_cases e : i = j
      · subst e
        rw [setF_same] at hs' ⊢
        rcases List.mem_append.1 hs' with hs' | hs'
        · have := hx.last i hi s hs'
          omega
        · rw [List.mem_singleton] at hs'
          subst hs'
          exact Int.le_refl _
      · rw [setF_other _ _ e] at hs' ⊢
        exact hx.last i hi s hs'
    · show setF x.rows j (x.rows j ++ [r]) i = []
      rw [setF_other _ _ (by have hi' : x.cores ≤ i := hi; omega)]
      exact hx.out i hi
  · exact hx
/-- Asked once, refused from then on. -/
def Seen (x : PLog) (a : Int × R) : Prop := putE x a.1 a.2 = 2
theorem putL_last (x : PLog) (k : Int) (r : R) (j : Nat) : x.last j ≤ (putL x k r).last j := by
  unfold putL
  split
  · rename_i h0
    obtain ⟨_, _, _, h4⟩ := putE_zero h0
    show x.last j ≤ setF x.last k.toNat r.stamp j
    by_cases e : j = k.toNat
    · subst e
      rw [setF_same]
      omega
    · rw [setF_other _ _ e]
      exact Int.le_refl _
  · exact Int.le_refl _
theorem seen_iff {x : PLog} {a : Int × R} : Seen x a ↔ ¬ (0 ≤ a.1 ∧ a.1 < x.cores ∧ checkB a.2 = true ∧ x.last a.1.toNat < a.2.stamp) := by
  unfold Seen putE
  constructor
  · intro h hh
    rw [if_pos hh] at h
    split at h <;> omega
  · intro h
    rw [if_neg h]
theorem Seen.mono {x y : PLog} {a : Int × R} (h : Seen x a) (hc : y.cores = x.cores) (hl : ∀ j, x.last j ≤ y.last j) : Seen y a := by
  rw [seen_iff] at h ⊢
  rintro ⟨h1, h2, h3, h4⟩
  exact h ⟨h1, by rw [← hc]; exact h2, h3, Int.lt_of_le_of_lt (hl _) h4⟩
/-- Behind so many puts. -/
structure PutsL (x : PLog) (l : List (Int × R)) (i : Nat) : Prop where
  cores : x.cores = 4
  most : x.most = 256
  ok : LogOk x
  len : ∀ k, (x.rows k).length ≤ i
  seen : ∀ j, j < i → ∀ a, l[j]? = some a → Seen x a
theorem PutsL.start (l : List (Int × R)) : PutsL (newP 4 256) l 0 := ⟨rfl, rfl, LogOk.new _ _, fun _ => Nat.le_refl _, fun j hj => by omega⟩
theorem PutsL.next {x : PLog} {l : List (Int × R)} {i : Nat} (h : PutsL x l i) (hi : i < 256) {k : Int} {r : R} (hl : l[i]? = some (k, r)) : PutsL (putL x k r) l (i + 1) := by
  refine ⟨(putL_cores x k r).trans h.cores, (putL_most x k r).trans h.most, h.ok.put (by rw [h.cores]; omega) k r, fun j => ?_, fun j hj a ha => ?_⟩
  · have := h.len j
    unfold putL
    split
    · show (setF x.rows k.toNat (x.rows k.toNat ++ [r]) j).length ≤ _
      by_cases e : j = k.toNat
      · subst e
        rw [setF_same, List.length_append, List.length_singleton]
        omega
      · rw [setF_other _ _ e]
        omega
    · omega
  · rcases (by omega : j < i ∨ j = i) with hj | rfl
    · exact (h.seen j hj a ha).mono (putL_cores x k r) (putL_last x k r)
    · rw [hl] at ha
      obtain rfl := Option.some.inj ha
      by_cases h0 : putE x k r = 0
      · rw [seen_iff]
        rintro ⟨_, _, _, h4⟩
        have h5 : (putL x k r).last k.toNat = r.stamp := by
          unfold putL
          rw [if_pos h0]
          exact setF_same _ _ _
        show False
        have h4' : (putL x k r).last k.toNat < r.stamp := h4
        omega
      · have h1 : putL x k r = x := by unfold putL; rw [if_neg h0]
        rw [h1]
        have h2 := h.len k.toNat
        have h3 := h.most
        unfold Seen
        show putE x k r = 2
        unfold putE at h0 ⊢
        split at h0
        · rename_i hc
          rw [if_pos (by omega)] at h0
          omega
        · rename_i hc
          rw [if_neg hc]
theorem Seen.stays {x : PLog} {a : Int × R} (h : Seen x a) : putL x a.1 a.2 = x := by
  unfold putL
  rw [if_neg (by unfold Seen at h; omega)]

/-- A merged row with the cores beside it. -/
def tLt (a b : Nat × R) : Prop := a.2.stamp < b.2.stamp ∨ (a.2.stamp = b.2.stamp ∧ a.1 < b.1)
structure IsTag (x : PLog) (L : List (Nat × R)) : Prop where
  sort : L.Pairwise tLt
  mem : ∀ a, a ∈ L ↔ a.1 < x.cores ∧ a.2 ∈ x.rows a.1
theorem IsTag.unique {x : PLog} {L M : List (Nat × R)} (h : IsTag x L) (k : IsTag x M) : L = M :=
  sorted_unique (fun _ => by unfold tLt; omega) (fun _ _ _ => by unfold tLt; omega) h.sort k.sort fun a => (h.mem a).trans (k.mem a).symm
def tagOf (x : PLog) (a : Nat × Nat) : Nat × R := (a.1, recAt x a)
theorem rAt_mem_iff {l : List R} {r : R} : r ∈ l ↔ ∃ i, i < l.length ∧ rAt l i = r := by
  constructor
  · intro h
    obtain ⟨i, hi, he⟩ := List.getElem_of_mem h
    exact ⟨i, hi, by unfold rAt; rw [List.getD_eq_getElem?_getD, List.getElem?_eq_getElem hi]; exact he⟩
  · rintro ⟨i, hi, rfl⟩
    exact rAt_mem hi
theorem IsMerge.tags {x : PLog} {done : List (Nat × Nat)} (h : IsMerge x done) : IsTag x (done.map (tagOf x)) := by
  refine ⟨?_, fun a => ?_⟩
  · rw [List.pairwise_map]
    exact h.sort
  · rw [List.mem_map]
    constructor
    · rintro ⟨p, hp, rfl⟩
      have hv := (h.mem p).1 hp
      exact ⟨hv.1, rAt_mem hv.2⟩
    · rintro ⟨h1, h2⟩
      obtain ⟨i, hi, he⟩ := rAt_mem_iff.1 h2
      exact ⟨(a.1, i), (h.mem _).2 ⟨h1, hi⟩, Prod.ext rfl he⟩
theorem IsTag.filter {x : PLog} {L : List (Nat × R)} (h : IsTag x L) (st : List Int) : IsTag (takeP x st) (L.filter fun a => !hasI st a.2.stamp) := by
  refine ⟨h.sort.filter _, fun a => ?_⟩
  rw [List.mem_filter, h.mem a]
  show _ ↔ a.1 < x.cores ∧ a.2 ∈ takeR st (x.rows a.1)
  unfold takeR delL
  rw [List.mem_filter, and_assoc]
/-- What is merged behind a Take is what was merged, without those taken. -/
theorem merge_take {x : PLog} {st : List Int} {d e : List (Nat × Nat)} (h : IsMerge x d) (k : IsMerge (takeP x st) e) : e.map (recAt (takeP x st)) = takeR st (d.map (recAt x)) := by
  have h1 := (h.tags.filter st).unique k.tags
  have h2 := congrArg (List.map Prod.snd) h1
  rw [List.map_map] at h2
  have h3 : (Prod.snd ∘ tagOf (takeP x st)) = recAt (takeP x st) := rfl
  rw [h3] at h2
  rw [← h2]
  unfold takeR delL
  rw [List.filter_map, List.filter_map, List.map_map]
  rfl
theorem merge_same {x : PLog} {d e : List (Nat × Nat)} (h : IsMerge x d) (k : IsMerge x e) : e.map (recAt x) = d.map (recAt x) := by rw [h.unique k]
/-- Every place, core by core. -/
def allPs (x : PLog) (i : Nat) : List (Nat × Nat) := (List.range i).flatMap fun c => (List.range (x.rows c).length).map fun p => (c, p)
theorem allPs_len (x : PLog) : ∀ i, (allPs x i).length = lenN x i
  | 0 => rfl
  | i + 1 => by
    unfold allPs lenN
    rw [List.range_succ, List.flatMap_append, List.length_append]
    have := allPs_len x i
    unfold allPs at this
    rw [this]
    simp
theorem allPs_mem {x : PLog} {i : Nat} {a : Nat × Nat} : a ∈ allPs x i ↔ a.1 < i ∧ a.2 < (x.rows a.1).length := by
  unfold allPs
  simp only [List.mem_flatMap, List.mem_range, List.mem_map]
  constructor
  · rintro ⟨c, h1, p, h2, rfl⟩
    exact ⟨h1, h2⟩
  · rintro ⟨h1, h2⟩
    exact ⟨a.1, h1, a.2, h2, rfl⟩
theorem allPs_nodup (x : PLog) : ∀ i, (allPs x i).Nodup
  | 0 => List.nodup_nil
  | i + 1 => by
    unfold allPs
    rw [List.range_succ, List.flatMap_append, List.nodup_append]
    refine ⟨allPs_nodup x i, ?_, fun a ha b hb => ?_⟩
    · simp only [List.flatMap_cons, List.flatMap_nil, List.append_nil]
      unfold List.Nodup
      rw [List.pairwise_map]
      exact List.nodup_range.imp fun hab e => hab (Prod.ext_iff.1 e).2
    · have h1 := (allPs_mem (x := x) (i := i)).1 ha
      simp only [List.flatMap_cons, List.flatMap_nil, List.append_nil, List.mem_map] at hb
      obtain ⟨p, _, rfl⟩ := hb
      intro e
      rw [e] at h1
      exact Nat.lt_irrefl _ h1.1
theorem IsMerge.len {x : PLog} {d : List (Nat × Nat)} (h : IsMerge x d) : d.length = lenN x x.cores := by
  rw [← allPs_len]
  have h1 : d.Nodup := Pairwise.nodup_of (fun _ => kLt_irrefl) h.sort
  have h2 := allPs_nodup x x.cores
  exact Nat.le_antisymm (nodup_le_of h1 fun a ha => allPs_mem.2 ((h.mem a).1 ha)) (nodup_le_of h2 fun a ha => (h.mem a).2 (allPs_mem.1 ha))
theorem takeN_len (x : PLog) (st : List Int) : ∀ i, takeN x st i + lenN (takeP x st) i = lenN x i
  | 0 => rfl
  | i + 1 => by
    have h1 := takeN_len x st i
    have h2 := takeR_len st (x.rows i)
    unfold takeN lenN
    show _ + (_ + (takeR st (x.rows i)).length) = _
    omega
theorem takeP_twice (x : PLog) (st : List Int) : takeP (takeP x st) st = takeP x st := by
  unfold takeP
  congr 1
  funext k
  exact takeR_twice st (x.rows k)
theorem takeN_twice (x : PLog) (st : List Int) : ∀ i, takeN (takeP x st) st i = 0
  | 0 => rfl
  | i + 1 => by
    unfold takeN
    rw [takeN_twice x st i]
    show 0 + ((takeR st (x.rows i)).length - (takeR st (takeR st (x.rows i))).length) = 0
    rw [takeR_twice]
    omega
/-- Every record, core by core. -/
def allTs (x : PLog) (i : Nat) : List (Nat × R) := (List.range i).flatMap fun c => (x.rows c).map fun r => (c, r)
theorem allTs_len (x : PLog) : ∀ i, (allTs x i).length = lenN x i
  | 0 => rfl
  | i + 1 => by
    unfold allTs lenN
    rw [List.range_succ, List.flatMap_append, List.length_append]
    have := allTs_len x i
    unfold allTs at this
    rw [this]
    simp
theorem allTs_mem {x : PLog} {i : Nat} {a : Nat × R} : a ∈ allTs x i ↔ a.1 < i ∧ a.2 ∈ x.rows a.1 := by
  unfold allTs
  simp only [List.mem_flatMap, List.mem_range, List.mem_map]
  constructor
  · rintro ⟨c, h1, p, h2, rfl⟩
    exact ⟨h1, h2⟩
  · rintro ⟨h1, h2⟩
    exact ⟨a.1, h1, a.2, h2, rfl⟩
theorem allTs_nodup {x : PLog} (hx : LogOk x) : ∀ i, i ≤ 8 → (allTs x i).Nodup
  | 0, _ => List.nodup_nil
  | i + 1, h8 => by
    unfold allTs
    rw [List.range_succ, List.flatMap_append, List.nodup_append]
    refine ⟨allTs_nodup hx i (by omega), ?_, fun a ha b hb => ?_⟩
    · simp only [List.flatMap_cons, List.flatMap_nil, List.append_nil]
      unfold List.Nodup
      rw [List.pairwise_map]
      exact (hx.rising i (by omega)).imp fun {a b} hab e => by
        have := (Prod.ext_iff.1 e).2
        simp only at this
        subst this
        omega
    · have h1 := (allTs_mem (x := x) (i := i)).1 ha
      simp only [List.flatMap_cons, List.flatMap_nil, List.append_nil, List.mem_map] at hb
      obtain ⟨p, _, rfl⟩ := hb
      intro e
      rw [e] at h1
      exact Nat.lt_irrefl _ h1.1
instance : DecidableEq R := fun a b => if h : eqR a b = true then .isTrue (eqR_iff.1 h) else .isFalse fun e => h (eqR_iff.2 e)
theorem IsTag.len {x : PLog} {L : List (Nat × R)} (h : IsTag x L) (hx : LogOk x) (h8 : x.cores ≤ 8) : L.length = lenN x x.cores := by
  rw [← allTs_len]
  have h1 : L.Nodup := Pairwise.nodup_of (r := tLt) (fun _ => by unfold tLt; omega) h.sort
  exact Nat.le_antisymm (nodup_le_of h1 fun a ha => allTs_mem.2 ((h.mem a).1 ha)) (nodup_le_of (allTs_nodup hx x.cores h8) fun a ha => (h.mem a).2 (allTs_mem.1 ha))
/-- What Take answers. -/
theorem take_count {x : PLog} {st : List Int} {d : List (Nat × Nat)} (hx : LogOk x) (h8 : x.cores ≤ 8) (h : IsMerge x d) : takeN x st x.cores + (takeR st (d.map (recAt x))).length = d.length := by
  have h1 := takeN_len x st x.cores
  have h2 := (h.tags.filter st).len (hx.take st) h8
  have h3 : (takeR st (d.map (recAt x))).length = ((d.map (tagOf x)).filter fun a => !hasI st a.2.stamp).length := by
    unfold takeR delL
    rw [List.filter_map, List.filter_map, List.length_map, List.length_map]
    rfl
  have h4 := h.tags.len hx h8
  rw [List.length_map] at h4
  rw [h3, h2, h4]
  exact h1
end Go.Proofs.YtehckjkihaalfaaGreat

/- Upto, walked. -/
namespace Go.Proofs.YtehckjkihaalfaaGreat
open Go.RowKit Go.Maps

/-- What is merged rises, though not strictly. -/
theorem merged_le {x : PLog} {d : List (Nat × Nat)} (h : IsMerge x d) {i j : Nat} (hij : i ≤ j) (hj : j < d.length) : (rAt (d.map (recAt x)) i).stamp ≤ (rAt (d.map (recAt x)) j).stamp := by
  have e : ∀ k, (hk : k < d.length) → rAt (d.map (recAt x)) k = recAt x d[k] := fun k hk => by
    unfold rAt
    rw [List.getD_eq_getElem?_getD, List.getElem?_map, List.getElem?_eq_getElem hk]
    rfl
  rw [e i (by omega), e j hj]
  rcases (by omega : i = j ∨ i < j) with rfl | hlt
  · exact Int.le_refl _
  · have := List.pairwise_iff_getElem.1 h.sort i j (by omega) hj hlt
    unfold kLt at this
    omega
/-- How many are up to a stamp: a beginning. -/
def UptoIs (l : List R) (s : Int) (m : Nat) : Prop := m ≤ l.length ∧ ∀ i, i < l.length → ((rAt l i).stamp ≤ s ↔ i < m)
theorem UptoIs.none {l : List R} {s : Int} (h : ∀ j, j < l.length → (fun r : R => decide (s < r.stamp)) (rAt l j) = false) : UptoIs l s l.length :=
  ⟨Nat.le_refl _, fun i hi => by
    have := h i hi
    simp only [decide_eq_false_iff_not] at this
    omega⟩
theorem UptoIs.some {x : PLog} {d : List (Nat × Nat)} (hm : IsMerge x d) {s : Int} {k : Nat} (hk : k < (d.map (recAt x)).length) (hp : (fun r : R => decide (s < r.stamp)) (rAt (d.map (recAt x)) k) = true) (h : ∀ j, j < k → (fun r : R => decide (s < r.stamp)) (rAt (d.map (recAt x)) j) = false) : UptoIs (d.map (recAt x)) s k := by
  refine ⟨Nat.le_of_lt hk, fun i hi => ?_⟩
  simp only [decide_eq_true_eq] at hp
  rw [List.length_map] at hi hk
  constructor
  · intro h1
    apply Classical.byContradiction
    intro h2
    have := merged_le hm (by omega : k ≤ i) hi
    omega
  · intro h1
    have := h i h1
    simp only [decide_eq_false_iff_not] at this
    omega
theorem merged_ok {w : World} {P : Nat} {ls : Nat → Value} {x : PLog} (h : LogAt w P ls x) {d : List (Nat × Nat)} (hm : IsMerge x d) : ∀ r ∈ d.map (recAt x), RecOk r := fun r hr => by
  obtain ⟨a, ha, rfl⟩ := List.mem_map.1 hr
  obtain ⟨h1, h2⟩ := (hm.mem a).1 ha
  exact h.ok a.1 (by have := h.cores8; omega) _ (rAt_mem h2)
set_option maxRecDepth 100000 in
set_option maxHeartbeats 4000000 in
theorem t_uptoLog (P : Nat) (ls : Nat → Value) (x : PLog) (s : Int) (w : World) (h : LogAt w P ls x) (hx : LogOk x) :
    Calls Tryz.prog 18 #[.pointer (some ⟨P, 0, none⟩), .int .u64 s] w fun e w' => ∃ A m c done, e = .returned (.slice A m c) ∧ IsMerge x done ∧ UptoIs (done.map (recAt x)) s m ∧ w'.ownsRow w.heap.size 34 12 (.slice A m c) m (flatR ((done.map (recAt x)).take m)) ∧ Below w.heap.size w w' := by
  have HL := Lib.hid (h.below (below_a1' w (.cells #[.int .u64 s] 31)))
  have HBX : Hid ((w.alloc (.cells #[.int .u64 s] 31)).heap[w.heap.size]? = some (.cells #[.int .u64 s] 31 (0, 0))) := heap_alloc_new _ _
  have HX := Lib.hid hx
  have HB0 : Hid (Below w.heap.size w (w.alloc (.cells #[.int .u64 s] 31))) := below_a1' w _
  have hlen := h.len
  have h8 := h.cores8
  have HLEN : Hid (∀ d, IsMerge x d → d.length ≤ 2048) := fun d hd => valid_len h8.2 hlen hd.sort fun a ha => (hd.mem a).1 ha
  clear h hx hlen
  have hsz : (w.alloc (.cells #[.int .u64 s] 31)).heap.size = w.heap.size + 1 := by simp
  have HSZ := Lib.hid hsz
  clear hsz
  go_enter Tryz.func18, Tryz.ntmps18
  go_wp2_with (go_at_call 14; (with_reducible refine (t_merge P ls x _ HL.out HX.out).mono ?_); rintro e w1 ⟨A, c, done, rfl, h1, h2, h3⟩; have HM := Lib.hid h1; have HW := Lib.hid h2; have HB1 := Lib.hid h3; clear h1 h2 h3)
  obtain ⟨n, hn⟩ : ∃ n, n = done.length := ⟨_, rfl⟩
  have hn2 := HLEN.out done HM.out
  rw [← hn] at HW hn2 ⊢
  have HN : Hid ((done.map (recAt x)).length = n) := by show _ = _; rw [List.length_map, hn]
  have HR := Lib.hid (recs_of_row HW.out HN.out (merged_ok HL.out HM.out))
  have hcall := t_indexUpto A n c (done.map (recAt x)) w1 HR.out HN.out (by omega) w.heap.size s ((HB1.out.block _ (lt_heap HBX.out)).trans HBX.out)
  have HC := Lib.hid hcall
  clear hcall hn
  have hcs : ∀ i, IdxIs (fun r => decide (s < r.stamp)) (done.map (recAt x)) i → (i = -1 ∧ Hid (∀ j, j < (done.map (recAt x)).length → (fun r => decide (s < r.stamp)) (rAt (done.map (recAt x)) j) = false)) ∨
      ∃ (k g : Nat), i = (k : Int) ∧ A = some ⟨g, 0, none⟩ ∧ (k : Int) ≤ (c : Int) ∧ ¬ ((k : Int) < 0) ∧ k ≤ n ∧ Hid (UptoIs (done.map (recAt x)) s k) := fun i hi => by
    rcases hi.cases with h1 | ⟨k, rfl, hne, hf⟩
    · exact .inl h1
    · obtain ⟨hk, hp, hlt⟩ := hf.out
      have hU : Hid (UptoIs (done.map (recAt x)) s k) := UptoIs.some HM.out hk hp hlt
      rw [HN.out] at hk
      have hcap : n ≤ c := row_cap HW.out
      have hg : ∃ g, A = some ⟨g, 0, none⟩ := by
        rcases HW.out.2 with ⟨h', h0⟩ | ⟨g, cap, cur, h', h1, _⟩
        · omega
        · simp only [Value.slice.injEq] at h'
          exact ⟨g, h'.1⟩
      obtain ⟨g, hg⟩ := hg
      exact .inr ⟨k, g, rfl, hg, by omega, by omega, by omega, hU⟩
  have HCS := Lib.hid hcs
  clear hcs
  go_wp2_with (go_at_call 61; (with_reducible refine HC.out.mono ?_); rintro e w2 ⟨i, rfl, hi, hb⟩; have H2 := Lib.hid hb; clear hb; rcases HCS.out i hi with ⟨rfl, hno⟩ | ⟨k, g, rfl, rfl, hkc, hkn, hk0, hU⟩)
  · go_ret
    refine ⟨A, n, c, done, rfl, HM.out, HN.out ▸ UptoIs.none hno.out, ?_, HB0.out.trans ((HB1.out.mono (by rw [HSZ.out]; omega)).trans (H2.out.mono ?_))⟩
    · rw [List.take_of_length_le (by rw [HN.out]; exact Nat.le_refl _)]
      exact own_low (row_below HW.out H2.out) (by rw [HSZ.out]; omega)
    · have := HB1.out.size
      rw [HSZ.out] at this
      omega
  · go_ret
    refine ⟨some ⟨g, 0, none⟩, k, c, done, rfl, HM.out, hU.out, ?_, HB0.out.trans ((HB1.out.mono (by rw [HSZ.out]; omega)).trans (H2.out.mono ?_))⟩
    · rw [← flatR_take]
      exact own_take (own_low (row_below HW.out H2.out) (by rw [HSZ.out]; omega)) hk0
    · have := HB1.out.size
      rw [HSZ.out] at this
      omega
end Go.Proofs.YtehckjkihaalfaaGreat
