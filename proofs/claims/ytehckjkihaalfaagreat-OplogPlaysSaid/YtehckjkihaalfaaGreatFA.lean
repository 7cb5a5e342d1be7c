/- What a document's record may be, and how its rows are merged: in plain words. -/
import Derived.Test.YtehckjkihaalfaaGreatDB
import Derived.Test.YtehckjkihaalfaaGreatES
import Derived.Test.YtehckjkihaalfaaGreatEZ
namespace Go.Proofs.YtehckjkihaalfaaGreat
open Go.RowKit Go.Maps

theorem plain_eq (s : ByteArray) (k : Nat) : plainTo s k = pplainTo s k := rfl
theorem name_eq (s : ByteArray) : nameB s = pnameB s := rfl
theorem empty_eq (s : ByteArray) : s.toList.isEmpty = (s.size == 0) := by
  rw [ByteArray.toList_eq]
  cases h : s.data.toList with
  | nil =>
    have : s.size = 0 := by rw [Lib.size_eq, h]; rfl
    rw [this]
    rfl
  | cons a l =>
    have : s.size = l.length + 1 := by rw [Lib.size_eq, h]; rfl
    rw [this]
    rfl
theorem fit_if {p : Prop} [Decidable p] (a b : Bool) : fitB (decide p) a b = if p then a else b := by
  unfold fitB
  by_cases h : p <;> simp [h]
theorem rino_eq (v : Int) : rinoB v = inoB v := by
  unfold rinoB inoB
  rw [Bool.decide_and]
theorem entry_eq (a : Int) : (1 ≤ a ∧ a ≤ 4) ↔ (a = 1 ∨ a = 2 ∨ a = 3 ∨ a = 4) := by omega
theorem may_check (r : R) : mayB r = checkB r := by
  unfold mayB checkB kEntry kKind kMove kSized kData
  simp only [fit_if, entry_eq, empty_eq, name_eq, rino_eq, Bool.decide_and]
/-- Behind all that may stand ahead of it. -/
def insR (x : Nat × R) : List (Nat × R) → List (Nat × R)
  | [] => [x]
  | a :: l => if a.2.stamp ≤ x.2.stamp then a :: insR x l else x :: a :: l
/-- How many may stand ahead. -/
def aheadR (x : R) : List R → Nat
  | [] => 0
  | a :: l => if a.stamp ≤ x.stamp then aheadR x l + 1 else 0
theorem aheadR_le (x : R) : ∀ l, aheadR x l ≤ l.length
  | [] => Nat.le_refl _
  | a :: l => by
    unfold aheadR
    split
    · have := aheadR_le x l
      rw [List.length_cons]
      omega
    · exact Nat.zero_le _
theorem insR_eq (x : Nat × R) : ∀ l : List (Nat × R), (insR x l).map Prod.snd = (l.map Prod.snd).take (aheadR x.2 (l.map Prod.snd)) ++ [x.2] ++ (l.map Prod.snd).drop (aheadR x.2 (l.map Prod.snd))
  | [] => rfl
  | a :: l => by
    unfold insR
    rw [List.map_cons]
    unfold aheadR
    by_cases h : a.2.stamp ≤ x.2.stamp
    · rw [if_pos h, if_pos h, List.map_cons, insR_eq x l, List.take_succ_cons, List.drop_succ_cons]
      rfl
    · rw [if_neg h, if_neg h]
      rfl
theorem insR_mem {x a : Nat × R} : ∀ {l : List (Nat × R)}, a ∈ insR x l ↔ a = x ∨ a ∈ l
  | [] => by simp [insR]
  | b :: l => by
    unfold insR
    split
    · rw [List.mem_cons, insR_mem, List.mem_cons]
      constructor
      · rintro (h | h | h) <;> simp [h]
      · rintro (h | h | h) <;> simp [h]
    · simp
theorem insR_sort {x : Nat × R} : ∀ {l : List (Nat × R)}, l.Pairwise tLt → (∀ a ∈ l, a.2.stamp = x.2.stamp → a.1 < x.1) → (insR x l).Pairwise tLt
  | [], _, _ => List.pairwise_singleton _ _
  | b :: l, h, hx => by
    rw [List.pairwise_cons] at h
    unfold insR
    split
    · rename_i hb
      rw [List.pairwise_cons]
      refine ⟨fun a ha => ?_, insR_sort h.2 fun a ha => hx a (List.mem_cons_of_mem _ ha)⟩
      rcases insR_mem.1 ha with rfl | ha
      · have := hx b (by simp)
        unfold tLt
        omega
      · exact h.1 a ha
    · rename_i hb
      rw [List.pairwise_cons]
      refine ⟨fun a ha => ?_, List.pairwise_cons.2 h⟩
      have h1 : x.2.stamp < b.2.stamp := by omega
      rcases List.mem_cons.1 ha with rfl | ha
      · exact .inl h1
      · have := h.1 a ha
        unfold tLt at *
        omega
/-- The rows merged, up to a core and a place. -/
def insTo (x : PLog) (c : Nat) (T : List (Nat × R)) : Nat → List (Nat × R)
  | 0 => T
  | i + 1 => insR (c, rAt (x.rows c) i) (insTo x c T i)
def mergeTo (x : PLog) : Nat → List (Nat × R)
  | 0 => []
  | c + 1 => insTo x c (mergeTo x c) (x.rows c).length
structure TagTo (x : PLog) (c i : Nat) (T : List (Nat × R)) : Prop where
  sort : T.Pairwise tLt
  mem : ∀ a, a ∈ T ↔ (a.1 < c ∧ a.2 ∈ x.rows a.1) ∨ (a.1 = c ∧ ∃ j, j < i ∧ a.2 = rAt (x.rows c) j)
theorem TagTo.next {x : PLog} (hx : LogOk x) {c i : Nat} (hc : c < 8) {T : List (Nat × R)} (h : TagTo x c i T) (hi : i < (x.rows c).length) : TagTo x c (i + 1) (insR (c, rAt (x.rows c) i) T) := by
  refine ⟨insR_sort h.sort fun a ha he => ?_, fun a => ?_⟩
  · rcases (h.mem a).1 ha with ⟨h1, _⟩ | ⟨h1, j, hj, h2⟩
    · exact h1
    · exfalso
      have := rising_at (hx.rising c hc) hj hi
      rw [h2] at he
      have he' : (rAt (x.rows c) j).stamp = (rAt (x.rows c) i).stamp := he
      omega
  · rw [insR_mem, h.mem a]
    constructor
    · rintro (rfl | h1 | ⟨h1, j, hj, h2⟩)
      · exact .inr ⟨rfl, i, Nat.lt_succ_self _, rfl⟩
      · exact .inl h1
      · exact .inr ⟨h1, j, by omega, h2⟩
    · rintro (h1 | ⟨h1, j, hj, h2⟩)
      · exact .inr (.inl h1)
      · rcases (by omega : j < i ∨ j = i) with hj | rfl
        · exact .inr (.inr ⟨h1, j, hj, h2⟩)
        · exact .inl (Prod.ext h1 h2)
theorem TagTo.row {x : PLog} {c : Nat} {T : List (Nat × R)} (h : TagTo x c (x.rows c).length T) : TagTo x (c + 1) 0 T := by
  refine ⟨h.sort, fun a => (h.mem a).trans ⟨?_, ?_⟩⟩
  · rintro (⟨h1, h2⟩ | ⟨h1, j, hj, h2⟩)
    · exact .inl ⟨by omega, h2⟩
    · exact .inl ⟨by omega, by rw [h1, h2]; exact rAt_mem hj⟩
  · rintro (⟨h1, h2⟩ | ⟨_, j, hj, _⟩)
    · rcases (by omega : a.1 < c ∨ a.1 = c) with h3 | h3
      · exact .inl ⟨h3, h2⟩
      · obtain ⟨j, hj, he⟩ := rAt_mem_iff.1 h2
        rw [h3] at hj he
        exact .inr ⟨h3, j, hj, he.symm⟩
    · omega
theorem TagTo.zero (x : PLog) : TagTo x 0 0 [] := ⟨List.Pairwise.nil, fun a => ⟨fun h => by simp at h, fun h => by rcases h with ⟨h, _⟩ | ⟨_, j, h, _⟩ <;> omega⟩⟩
theorem TagTo.done {x : PLog} {T : List (Nat × R)} (h : TagTo x x.cores 0 T) : IsTag x T := ⟨h.sort, fun a => (h.mem a).trans ⟨fun h => by
  rcases h with h | ⟨_, j, hj, _⟩
  · exact h
  · omega, .inl⟩⟩
theorem insTo_tag {x : PLog} (hx : LogOk x) {c : Nat} (hc : c < 8) {T : List (Nat × R)} (h : TagTo x c 0 T) : ∀ i, i ≤ (x.rows c).length → TagTo x c i (insTo x c T i)
  | 0, _ => h
  | i + 1, hi => (insTo_tag hx hc h i (by omega)).next hx hc hi
theorem mergeTo_tag {x : PLog} (hx : LogOk x) : ∀ c, c ≤ 8 → TagTo x c 0 (mergeTo x c)
  | 0, _ => TagTo.zero x
  | c + 1, hc => (insTo_tag hx (by omega) (mergeTo_tag hx c (by omega)) _ (Nat.le_refl _)).row
/-- The document merges as the log does. -/
theorem merge_doc {x : PLog} (hx : LogOk x) (h8 : x.cores ≤ 8) {d : List (Nat × Nat)} (h : IsMerge x d) : (mergeTo x x.cores).map Prod.snd = d.map (recAt x) := by
  have h1 := congrArg (List.map Prod.snd) ((mergeTo_tag hx x.cores h8).done.unique h.tags)
  rw [List.map_map] at h1
  exact h1
/-- What is up to a stamp. -/
theorem upto_doc {l : List R} {s : Int} {m : Nat} (h : UptoIs l s m) : l.filter (fun r => decide (r.stamp ≤ s)) = l.take m := by
  induction l generalizing m with
  | nil => simp
  | cons a l ih =>
    obtain ⟨h1, h2⟩ := h
    cases m with
    | zero =>
      rw [List.take_zero, List.filter_eq_nil_iff]
      intro r hr hd
      obtain ⟨k, hk, rfl⟩ := rAt_mem_iff.1 hr
      have := (h2 k hk).1 (by simpa using hd)
      omega
    | succ m =>
      have h0 := (h2 0 (by simp)).2 (by omega)
      have h0' : a.stamp ≤ s := h0
      rw [List.filter_cons, if_pos (by simpa using h0'), List.take_succ_cons, ih ⟨by simpa using h1, fun i hi => ?_⟩]
      have := h2 (i + 1) (by simpa using hi)
      have e : rAt (a :: l) (i + 1) = rAt l i := by
        unfold rAt
        rfl
      rw [e] at this
      rw [this]
      omega
end Go.Proofs.YtehckjkihaalfaaGreat

/- The document's log in memory. -/
namespace Go.Proofs.YtehckjkihaalfaaGreat
open Go.RowKit Go.Maps

/-- How it lies. -/
structure DD where
  bL : Nat
  cL : Nat
  bT : Nat
  cT : Nat
  vs : Nat → Value
def rowV (n : Nat) (vs : Nat → Value) : List Value := (List.range n).map vs
def lastV (x : PLog) : List Value := (List.range x.cores).map fun k => Value.int .u64 (x.last k)
theorem rowV_get {n k : Nat} (vs : Nat → Value) (h : k < n) : (rowV n vs)[k]? = some (vs k) := by
  unfold rowV
  simp [h]
theorem rowV_set (n k : Nat) (vs : Nat → Value) (v : Value) : (rowV n vs).set k v = rowV n (setF vs k v) := by
  unfold rowV setF
  apply List.ext_getElem (by simp)
  intro j h1 h2
  simp only [List.getElem_set, List.getElem_map, List.getElem_range]
  by_cases h : k = j
  · subst h
    simp
  · rw [if_neg h, if_neg (fun e => h e.symm)]
theorem rowV_len (n : Nat) (vs : Nat → Value) : (rowV n vs).length = n := by simp [rowV]
/-- In block Q; G: its blocks, and more. -/
structure DocAt (w : World) (Q : Nat) (D : DD) (G : Nat → Prop) (x : PLog) : Prop where
  blk : w.heap[Q]? = some (.cells #[.int .i64 (x.most : Int), .slice (some ⟨D.bL, 0, none⟩) x.cores D.cL, .slice (some ⟨D.bT, 0, none⟩) x.cores D.cT] 99 (0, 0))
  rowL : w.ownsRow 0 37 1 (.slice (some ⟨D.bL, 0, none⟩) x.cores D.cL) x.cores (rowV x.cores D.vs)
  rowT : w.ownsRow 0 31 1 (.slice (some ⟨D.bT, 0, none⟩) x.cores D.cT) x.cores (rowV x.cores fun k => .int .u64 (x.last k))
  gQ : G Q
  gL : G D.bL ∧ D.bL ≠ Q
  gT : G D.bT ∧ D.bT ≠ Q
  lt : ∀ b, G b → b < w.heap.size
  row : ∀ k, k < x.cores → ∃ A c, D.vs k = .slice A (x.rows k).length c ∧ RecsAt w A (x.rows k) ∧ (x.rows k ≠ [] → ∀ b o, A = some ⟨b, o, none⟩ → G b ∧ b ≠ Q)
  cores8 : 1 ≤ x.cores ∧ x.cores ≤ 8
  len : ∀ k, (x.rows k).length ≤ 256
  most256 : x.most ≤ 256
section
variable {w W : World} {Q k : Nat} {D : DD} {G G' : Nat → Prop} {x : PLog}
theorem recs_same {A : Option Addr} {l : List R} (h : RecsAt w A l) (hsz : w.heap.size ≤ W.heap.size) (hs : l ≠ [] → ∀ b o, A = some ⟨b, o, none⟩ → W.heap[b]? = w.heap[b]?) : RecsAt W A l := ⟨fun hn => by
  obtain ⟨b, o, h1, h2, h3⟩ := h.at_ hn
  exact ⟨b, o, h1, Nat.lt_of_lt_of_le h2 hsz, fun k r hk i v hv => (World.cell?_of_block (a := ⟨b, _, none⟩) (hs hn b o h1)).trans (h3 k r hk i v hv)⟩, h.ok⟩
theorem DocAt.same (h : DocAt w Q D G x) (hsz : w.heap.size ≤ W.heap.size) (hs : ∀ b, G b → W.heap[b]? = w.heap[b]?) : DocAt W Q D G x :=
  ⟨(hs Q h.gQ).trans h.blk, own_block h.rowL fun q hq => by have e : D.bL = q := Option.some.inj hq; exact e ▸ hs _ h.gL.1, own_block h.rowT fun q hq => by have e : D.bT = q := Option.some.inj hq; exact e ▸ hs _ h.gT.1, h.gQ, h.gL, h.gT, fun b hb => Nat.lt_of_lt_of_le (h.lt b hb) hsz, fun k hk => by
    obtain ⟨A, c, h1, h2, h3⟩ := h.row k hk
    exact ⟨A, c, h1, recs_same h2 hsz fun hn b o e => hs b (h3 hn b o e).1, h3⟩, h.cores8, h.len, h.most256⟩
theorem DocAt.below (h : DocAt w Q D G x) (hb : Below w.heap.size w W) : DocAt W Q D G x := h.same hb.size fun b hg => hb.block b (h.lt b hg)
theorem DocAt.c0 (h : DocAt w Q D G x) : w.cell? ⟨Q, 0, none⟩ = some (.int .i64 (x.most : Int)) := by simp only [World.cell?, h.blk]; rfl
theorem DocAt.c1 (h : DocAt w Q D G x) : w.cell? ⟨Q, 1, none⟩ = some (.slice (some ⟨D.bL, 0, none⟩) x.cores D.cL) := by simp only [World.cell?, h.blk]; rfl
theorem DocAt.c2 (h : DocAt w Q D G x) : w.cell? ⟨Q, 2, none⟩ = some (.slice (some ⟨D.bT, 0, none⟩) x.cores D.cT) := by simp only [World.cell?, h.blk]; rfl
theorem DocAt.frozen (h : DocAt w Q D G x) (j : Nat) : w.frozen? ⟨Q, j, none⟩ = false := by simp [World.frozen?, h.blk]
theorem DocAt.cL (h : DocAt w Q D G x) (hk : k < x.cores) : w.cell? ⟨D.bL, k, none⟩ = some (D.vs k) := by
  rw [h.rowL.cellAt k (by omega)]
  exact rowV_get _ hk
theorem DocAt.cT (h : DocAt w Q D G x) (hk : k < x.cores) : w.cell? ⟨D.bT, k, none⟩ = some (.int .u64 (x.last k)) := by
  rw [h.rowT.cellAt k (by omega)]
  exact rowV_get (fun k => Value.int .u64 (x.last k)) hk
end
set_option maxRecDepth 100000 in
set_option maxHeartbeats 4000000 in
theorem t_docHas (Q : Nat) (D : DD) (G : Nat → Prop) (x : PLog) (k : Int) (b : Bool) (hb : decide (0 ≤ k ∧ k < x.cores) = b) (w : World) (h : DocAt w Q D G x) :
    Calls Tryz.prog 63 #[.pointer (some ⟨Q, 0, none⟩), .int .i64 k] w fun e w' => e = .returned (.bool b) ∧ w = w' := by
  have HB := Lib.hid hb
  have c1 := h.c1
  clear hb h
  by_cases h0 : 0 ≤ k <;> by_cases h1 : k < x.cores
  all_goals
    go_enter Tryz.func63, Tryz.ntmps63
    go_wp2
    go_ret
    exact ⟨by rw [← HB.out]; simp [h0, h1], rfl⟩
set_option maxRecDepth 100000 in
set_option maxHeartbeats 4000000 in
theorem t_doc23May (c m : Int) (b : Bool) (hb : decide (1 ≤ c ∧ c ≤ 8 ∧ 1 ≤ m ∧ m ≤ 256) = b) (w : World) :
    Calls Tryz.prog 23 #[.int .i64 c, .int .i64 m] w fun e w' => e = .returned (.bool b) ∧ w = w' := by
  have HB := Lib.hid hb
  clear hb
  by_cases h0 : 1 ≤ c <;> by_cases h1 : c ≤ 8 <;> by_cases h2 : 1 ≤ m <;> by_cases h3 : m ≤ 256
  all_goals
    go_enter Tryz.func23, Tryz.ntmps23
    go_wp2
    go_ret
    exact ⟨by rw [← HB.out]; simp [h0, h1, h2, h3], rfl⟩
end Go.Proofs.YtehckjkihaalfaaGreat

/- The document's log, walked: New, set. -/
namespace Go.Proofs.YtehckjkihaalfaaGreat
open Go.RowKit Go.Maps

theorem infoSR : ∃ i, Tryz.prog.info? 37 = some i ∧ i.zero = some (.slice none 0 0) ∧ i.size = 1 ∧ i.bytes = 24 := by
  have : (Tryz.prog.info? 37).map (fun i => (i.zero, i.size, i.bytes)) = some (some (.slice none 0 0), 1, 24) := by kernel_rfl
  obtain ⟨i, hi, he⟩ := Option.map_eq_some_iff.1 this
  simp only [Prod.mk.injEq] at he
  exact ⟨i, hi, he.1, he.2.1, he.2.2⟩
theorem infoU : ∃ i, Tryz.prog.info? 31 = some i ∧ i.zero = some (.int .u64 0) ∧ i.size = 1 ∧ i.bytes = 8 := by
  have : (Tryz.prog.info? 31).map (fun i => (i.zero, i.size, i.bytes)) = some (some (.int .u64 0), 1, 8) := by kernel_rfl
  obtain ⟨i, hi, he⟩ := Option.map_eq_some_iff.1 this
  simp only [Prod.mk.injEq] at he
  exact ⟨i, hi, he.1, he.2.1, he.2.2⟩
theorem below_none {w w' : World} (h : w.grownBy w' none) : Below w.heap.size w w' := ⟨h.os, h.tape, h.output, h.size, fun b hb => h.block b hb (by simp)⟩
theorem rowV_start (n : Nat) (v : Value) : (madeCells #[v] (n * 1)).toList = rowV n fun _ => v := by
  have : (madeCells #[v] (n * 1)).toList = List.replicate (n * 1) v := toList_madeCells_one v (n * 1)
  rw [this]
  unfold rowV
  apply List.ext_getElem (by simp)
  intro j h1 h2
  simp
theorem DocAt.start {w : World} {n m bL cL bT cT : Nat} (hn : 1 ≤ n ∧ n ≤ 8) (hm : m ≤ 256) (hL : w.ownsRow 0 37 1 (.slice (some ⟨bL, 0, none⟩) n cL) n (rowV n fun _ => .slice none 0 0)) (hT : w.ownsRow 0 31 1 (.slice (some ⟨bT, 0, none⟩) n cT) n (rowV n fun _ => .int .u64 0)) :
    DocAt (w.alloc (.cells #[.int .i64 (m : Int), .slice (some ⟨bL, 0, none⟩) n cL, .slice (some ⟨bT, 0, none⟩) n cT] 99)) w.heap.size ⟨bL, cL, bT, cT, fun _ => .slice none 0 0⟩ (fun b => b = w.heap.size ∨ b = bL ∨ b = bT) (newP n m) := by
  have h1 := (hL.lt bL rfl).2
  have h2 := (hT.lt bT rfl).2
  exact ⟨heap_alloc_new _ _, hL.alloc _, hT.alloc _, .inl rfl, ⟨.inr (.inl rfl), by show bL ≠ _; omega⟩, ⟨.inr (.inr rfl), by show bT ≠ _; omega⟩, fun b hb => by rw [World.alloc_size']; omega, fun k hk => ⟨none, 0, rfl, ⟨fun h => absurd rfl h, fun r hr => by cases hr⟩, fun h => absurd rfl h⟩, hn, fun k => Nat.zero_le _, hm⟩
set_option maxRecDepth 100000 in
set_option maxHeartbeats 4000000 in
theorem t_docNew (n m : Nat) (hn : 1 ≤ n ∧ n ≤ 8) (hm : 1 ≤ m ∧ m ≤ 256) (w : World) :
    Calls Tryz.prog 24 #[.int .i64 (n : Int), .int .i64 (m : Int)] w fun e w' => ∃ Q, e = .returned (.pointer (some ⟨Q, 0, none⟩)) ∧ ∃ D G, DocAt w' Q D G (newP n m) ∧ (∀ b, G b → w.heap.size ≤ b) ∧ Below w.heap.size w w' := by
  obtain ⟨i0, hi0, hz0, hz1, hz2⟩ := infoSR
  obtain ⟨i1, hi1, hy0, hy1, hy2⟩ := infoU
  have HNN := Lib.hid hn
  go_enter Tryz.func24, Tryz.ntmps24
  go_upto_region 1 with fail
  refine wp_region_rel RelB (phi [isV (.int .i64 (m : Int)), isV (.int .i64 (n : Int)), (fun v W => ∃ b c, v = .slice (some ⟨b, 0, none⟩) n c ∧ w.heap.size ≤ b ∧ W.ownsRow 0 37 1 (.slice (some ⟨b, 0, none⟩) n c) n (rowV n fun _ => .slice none 0 0)), isV (.int .i64 (n : Int)), (fun v W => ∃ b c, v = .slice (some ⟨b, 0, none⟩) n c ∧ w.heap.size ≤ b ∧ W.ownsRow 0 31 1 (.slice (some ⟨b, 0, none⟩) n c) n (rowV n fun _ => .int .u64 0)), (fun v W => ∃ bL cL bT cT, v = .agg #[.int .i64 (m : Int), .slice (some ⟨bL, 0, none⟩) n cL, .slice (some ⟨bT, 0, none⟩) n cT] ∧ w.heap.size ≤ bL ∧ w.heap.size ≤ bT ∧ W.ownsRow 0 37 1 (.slice (some ⟨bL, 0, none⟩) n cL) n (rowV n fun _ => .slice none 0 0) ∧ W.ownsRow 0 31 1 (.slice (some ⟨bT, 0, none⟩) n cT) n (rowV n fun _ => .int .u64 0)), (fun v W => ∃ Q D G, v = .pointer (some ⟨Q, 0, none⟩) ∧ DocAt W Q D G (newP n m) ∧ ∀ b, G b → w.heap.size ≤ b), (fun v W => ∃ Q D G, v = .pointer (some ⟨Q, 0, none⟩) ∧ DocAt W Q D G (newP n m) ∧ ∀ b, G b → w.heap.size ≤ b)]) (by kernel_rfl) (by kernel_rfl) (by kernel_rfl) (RelB.of (below_drew _)) (fun _ _ _ a b => a.trans b) ?_ ?_ ?_
  · refine stays_phiR ?_
    simp only [List.forall_mem_cons]
    exact ⟨fun _ _ _ h _ => h, fun _ _ _ h _ => h, fun _ _ _ h hb => by obtain ⟨b, c, h1, h2, h3⟩ := h; exact ⟨b, c, h1, h2, own_block h3 fun q hq => Below.block hb q (h3.lt q hq).2⟩, fun _ _ _ h _ => h, fun _ _ _ h hb => by obtain ⟨b, c, h1, h2, h3⟩ := h; exact ⟨b, c, h1, h2, own_block h3 fun q hq => Below.block hb q (h3.lt q hq).2⟩, fun _ _ _ h hb => by obtain ⟨bL, cL, bT, cT, h1, h2, h3, h4, h5⟩ := h; exact ⟨bL, cL, bT, cT, h1, h2, h3, own_block h4 fun q hq => Below.block hb q (h4.lt q hq).2, own_block h5 fun q hq => Below.block hb q (h5.lt q hq).2⟩, fun _ _ _ h hb => by obtain ⟨Q, D, G, h1, h2, h3⟩ := h; exact ⟨Q, D, G, h1, h2.below hb, h3⟩, fun _ _ _ h hb => by obtain ⟨Q, D, G, h1, h2, h3⟩ := h; exact ⟨Q, D, G, h1, h2.below hb, h3⟩, fun _ h => absurd h (by simp)⟩
  · refine ⟨?_, ?_, ?_, ?_, ?_, ?_, ?_, ?_, trivial⟩
    · refine opR_mk rfl fun aa W2 hB hp hq K hK => ?_
      have e1 : aa.tmps[1]?.getD undef = .int .i64 (m : Int) := hp 1 (by kernel_rfl)
      clear hp hq
      go_simp
      exact hK _ _ (RelB.refl _) rfl
    · refine opR_mk rfl fun aa W2 hB hp hq K hK => ?_
      have e0 : aa.tmps[0]?.getD undef = .int .i64 (n : Int) := hp 0 (by kernel_rfl)
      clear hp hq
      go_simp
      exact hK _ _ (RelB.refl _) rfl
    · refine opR_mk rfl fun aa W2 hB hp hq K hK => ?_
      have e6 : aa.tmps[6]?.getD undef = .int .i64 (n : Int) := hq 1 _ (by kernel_rfl) rfl
      clear hp hq
      have hx : aa.eval (.tmp 6) = .int .i64 (n : Int) := by simpa [Act.eval] using e6
      obtain ⟨w', hrun, r1, r2⟩ := run_makeSlice_full (P := Tryz.prog) (w := W2) 0 97 37 i0 (.slice none 0 0) 1 Tryz.underlying97 hi0 hz0 hz1 .i64 .i64 n (by omega) (by rw [hz2]; omega) (by unfold maxLen; omega) (Nat.zero_le _)
      rw [show (.slice none 0 0 : Value).cells = #[.slice none 0 0] from rfl, rowV_start] at r1
      unfold Oper.wp
      simp [execOp, hx, hrun, Result.andThen]
      exact hK _ _ (RelB.of (below_none r2)) ⟨W2.heap.size, n, rfl, Below.size hB, r1⟩
    · refine opR_mk rfl fun aa W2 hB hp hq K hK => ?_
      have e0 : aa.tmps[0]?.getD undef = .int .i64 (n : Int) := hp 0 (by kernel_rfl)
      clear hp hq
      go_simp
      exact hK _ _ (RelB.refl _) rfl
    · refine opR_mk rfl fun aa W2 hB hp hq K hK => ?_
      have e8 : aa.tmps[8]?.getD undef = .int .i64 (n : Int) := hq 3 _ (by kernel_rfl) rfl
      clear hp hq
      have hx : aa.eval (.tmp 8) = .int .i64 (n : Int) := by simpa [Act.eval] using e8
      obtain ⟨w', hrun, r1, r2⟩ := run_makeSlice_full (P := Tryz.prog) (w := W2) 0 23 31 i1 (.int .u64 0) 1 Tryz.underlying23 hi1 hy0 hy1 .i64 .i64 n (by omega) (by rw [hy2]; omega) (by unfold maxLen; omega) (Nat.zero_le _)
      rw [show (.int .u64 0 : Value).cells = #[.int .u64 0] from rfl, rowV_start] at r1
      unfold Oper.wp
      simp [execOp, hx, hrun, Result.andThen]
      exact hK _ _ (RelB.of (below_none r2)) ⟨W2.heap.size, n, rfl, Below.size hB, r1⟩
    · refine opR_mk rfl fun aa W2 hB hp hq K hK => ?_
      have e5 : aa.tmps[5]?.getD undef = .int .i64 (m : Int) := hq 0 _ (by kernel_rfl) rfl
      obtain ⟨bL, cL, e7, hb7, hr7⟩ := hq 2 _ (by kernel_rfl) rfl
      have e7 : aa.tmps[7]?.getD undef = .slice (some ⟨bL, 0, none⟩) n cL := e7
      obtain ⟨bT, cT, e9, hb9, hr9⟩ := hq 4 _ (by kernel_rfl) rfl
      have e9 : aa.tmps[9]?.getD undef = .slice (some ⟨bT, 0, none⟩) n cT := e9
      clear hp hq
      go_simp
      exact hK _ _ (RelB.refl _) ⟨bL, cL, bT, cT, rfl, hb7, hb9, hr7, hr9⟩
    · refine opR_mk rfl fun aa W2 hB hp hq K hK => ?_
      obtain ⟨bL, cL, bT, cT, e10, hb7, hb9, hr7, hr9⟩ := hq 5 _ (by kernel_rfl) rfl
      have e10 : aa.tmps[10]?.getD undef = .agg #[.int .i64 (m : Int), .slice (some ⟨bL, 0, none⟩) n cL, .slice (some ⟨bT, 0, none⟩) n cT] := e10
      clear hp hq
      go_simp
      exact hK _ _ (RelB.of (below_a1' W2 _)) ⟨W2.heap.size, _, _, rfl, DocAt.start HNN.out hm.2 hr7 hr9, fun b hb => by have := Below.size hB; rcases hb with rfl | rfl | rfl <;> omega⟩
    · refine opR_mk rfl fun aa W2 hB hp hq K hK => ?_
      obtain ⟨Q, D, G, e11, h2, h3⟩ := hq 6 _ (by kernel_rfl) rfl
      have e11 : aa.tmps[11]?.getD undef = .pointer (some ⟨Q, 0, none⟩) := e11
      clear hp hq
      go_simp
      exact hK _ _ (RelB.refl _) ⟨Q, D, G, rfl, h2, h3⟩
  · intro vs W3 hB3 hv3 _
    obtain ⟨Q, D, G, v7, h2, h3⟩ := hv3 7 _ rfl rfl
    have v7 : vs 7 = .pointer (some ⟨Q, 0, none⟩) := v7
    have HD := Lib.hid h2
    have HG := Lib.hid h3
    have HB3 := Lib.hid hB3
    clear hB3 hv3 h2 h3
    simp only [List.take_succ_cons, List.take_zero, putAll, Act.put, List.setIfInBounds_toArray, List.set_cons_succ, List.set_cons_zero, Nat.zero_add, Nat.reduceAdd, v7]
    go_wp2
    go_ret
    exact ⟨Q, rfl, D, G, HD.out, HG.out, HB3.out⟩
theorem own_some {w : World} {base size n : Nat} {e : TypeId} {v : Value} {xs : List Value} (h : w.ownsRow base e size v n xs) (hn : 1 ≤ n) : ∃ g c, v = .slice (some ⟨g, 0, none⟩) n c ∧ base ≤ g := by
  rcases h.2 with ⟨_, h2⟩ | ⟨g, cap, cur, h1, h2, _⟩
  · omega
  · exact ⟨g, cap, h1, h2⟩
theorem DocAt.setL {w w1 : World} {Q k g c1 n c : Nat} {D : DD} {G : Nat → Prop} {x : PLog} {A : Option Addr} {l : List R} (h : DocAt w Q D G x) (hk : k < x.cores) (ho : w1.ownsRow w.heap.size 37 1 (.slice (some ⟨g, 0, none⟩) x.cores c1) x.cores (rowV x.cores D.vs)) (hg : w.grownBy w1 none)
    (hl : RecsAt w A l) (hn : l.length = n) (hn2 : n ≤ 256) (hA : l ≠ [] → ∀ b o, A = some ⟨b, o, none⟩ → b ≠ Q ∧ b < w.heap.size) :
    DocAt ((w1.setCell ⟨g, k, none⟩ (.slice A n c)).setCell ⟨Q, 1, none⟩ (.slice (some ⟨g, 0, none⟩) x.cores c1)) Q ⟨g, c1, D.bT, D.cT, setF D.vs k (.slice A n c)⟩ (fun b => G b ∨ b = g ∨ (l ≠ [] ∧ ∃ o, A = some ⟨b, o, none⟩)) { x with rows := setF x.rows k l } ∧
      w.grownBy ((w1.setCell ⟨g, k, none⟩ (.slice A n c)).setCell ⟨Q, 1, none⟩ (.slice (some ⟨g, 0, none⟩) x.cores c1)) (some Q) := by
  have hgl := ho.lt g rfl
  have hQl := h.lt Q h.gQ
  have hw1 : ∀ b, b < w.heap.size → w1.heap[b]? = w.heap[b]? := fun b hb => hg.block b hb (by simp)
  have hold : ∀ b, b < w.heap.size → b ≠ Q → ((w1.setCell ⟨g, k, none⟩ (.slice A n c)).setCell ⟨Q, 1, none⟩ (.slice (some ⟨g, 0, none⟩) x.cores c1)).heap[b]? = w.heap[b]? := fun b hb hne => by
    rw [heap_set_ne _ _ _ _ _ hne, heap_set_ne _ _ _ _ _ (by omega)]
    exact hw1 b hb
  have hsz : w.heap.size ≤ ((w1.setCell ⟨g, k, none⟩ (.slice A n c)).setCell ⟨Q, 1, none⟩ (.slice (some ⟨g, 0, none⟩) x.cores c1)).heap.size := by simpa using hg.size
  refine ⟨⟨?_, ?_, own_block h.rowT fun q hq => ?_, .inl h.gQ, ⟨.inr (.inl rfl), by show g ≠ Q; omega⟩, ⟨.inl h.gT.1, h.gT.2⟩, fun b hb => ?_, fun j hj => ?_, h.cores8, fun j => ?_, h.most256⟩, hg.os, hg.tape, hg.output, hsz, fun b hb hne => hold b hb (fun e => hne (by rw [e]))⟩
  · have h1 : (w1.setCell ⟨g, k, none⟩ (.slice A n c)).heap[Q]? = some (.cells #[.int .i64 (x.most : Int), .slice (some ⟨D.bL, 0, none⟩) x.cores D.cL, .slice (some ⟨D.bT, 0, none⟩) x.cores D.cT] 99 (0, 0)) := by
      rw [heap_set_ne _ _ _ _ _ (by omega)]
      exact (hw1 Q hQl).trans h.blk
    exact pheap_set _ Q 1 _ _ _ h1
  · have h1 := (ho.stored k (.slice A n c)).1
    rw [rowV_set] at h1
    exact own_low (own_block h1 fun q hq => heap_set_ne _ _ _ _ _ (by have e : g = q := Option.some.inj hq; omega)) (Nat.zero_le _)
  · have e : D.bT = q := Option.some.inj hq
    subst e
    exact hold _ (h.lt _ h.gT.1) h.gT.2
  · rcases hb with hb | rfl | ⟨hne, o, hb⟩
    · exact Nat.lt_of_lt_of_le (h.lt b hb) hsz
    · simpa using hgl.2
    · exact Nat.lt_of_lt_of_le (hA hne b o hb).2 hsz
  · by_cases e : j = k
    · subst e
      refine ⟨A, c, ?_, ?_, fun hne b o hb => ?_⟩
      · show setF D.vs j (.slice A n c) j = .slice A (setF x.rows j l j).length c
        rw [setF_same, setF_same, hn]
      · show RecsAt _ A (setF x.rows j l j)
        rw [setF_same]
        exact recs_same hl hsz fun hne b o hb => hold b (hA hne b o hb).2 (hA hne b o hb).1
      · have hne' : setF x.rows j l j ≠ [] := hne
        rw [setF_same] at hne'
        exact ⟨.inr (.inr ⟨hne', o, hb⟩), (hA hne' b o hb).1⟩
    · obtain ⟨A', c', h1, h2, h3⟩ := h.row j hj
      refine ⟨A', c', ?_, ?_, fun hne b o hb => ?_⟩
      · show setF D.vs k (.slice A n c) j = .slice A' (setF x.rows k l j).length c'
        rw [setF_other _ _ e, setF_other _ _ e]
        exact h1
      · show RecsAt _ A' (setF x.rows k l j)
        rw [setF_other _ _ e]
        exact recs_same h2 hsz fun hne b o hb => hold b (h.lt b (h3 hne b o hb).1) (h3 hne b o hb).2
      · have hne' : setF x.rows k l j ≠ [] := hne
        rw [setF_other _ _ e] at hne'
        exact ⟨.inl (h3 hne' b o hb).1, (h3 hne' b o hb).2⟩
  · show (setF x.rows k l j).length ≤ 256
    by_cases e : j = k
    · subst e
      rw [setF_same]
      omega
    · rw [setF_other _ _ e]
      exact h.len j
set_option maxRecDepth 100000 in
set_option maxHeartbeats 4000000 in
theorem t_docSet (Q : Nat) (D : DD) (G : Nat → Prop) (x : PLog) (k : Nat) (hk : k < x.cores) (A : Option Addr) (n c : Nat) (l : List R) (w : World) (h : DocAt w Q D G x) (hl : RecsAt w A l) (hn : l.length = n) (hn2 : n ≤ 256) (hA : l ≠ [] → ∀ b o, A = some ⟨b, o, none⟩ → b ≠ Q ∧ b < w.heap.size) :
    Calls Tryz.prog 65 #[.pointer (some ⟨Q, 0, none⟩), .int .i64 (k : Int), .slice A n c] w fun e w' => e = .returned (.tuple #[]) ∧ ∃ D' G', DocAt w' Q D' G' { x with rows := setF x.rows k l } ∧ w.grownBy w' (some Q) ∧ (∀ b, G' b → G b ∨ w.heap.size ≤ b ∨ (l ≠ [] ∧ ∃ o, A = some ⟨b, o, none⟩)) := by
  have hk8 : (k : Int) < 8 := by have := h.cores8; omega
  have hkc : (k : Int) < (x.cores : Int) := by omega
  have c1 := h.c1
  have h8 := h.cores8
  have HH := Lib.hid h
  have HL := Lib.hid hl
  have HN := Lib.hid hn
  have HA := Lib.hid hA
  have h1c : ∀ u ∈ rowV x.cores D.vs, u.oneCell' = true := fun u hu => by
    obtain ⟨j, hj, rfl⟩ := List.mem_map.1 hu
    obtain ⟨A', c', h1, _⟩ := h.row j (List.mem_range.1 hj)
    rw [h1]
    rfl
  have H1C := Lib.hid h1c
  obtain ⟨i0, hi0, hz0, hz1, hz2⟩ := infoSR
  clear h hl hn hA h1c
  go_enter Tryz.func65, Tryz.ntmps65
  go_wp2_with (at_builtin; refine wpList_append_own _ rfl _ _ 97 rfl w.heap.size 37 i0 (.slice none 0 0) 1 24 Tryz.underlying97 hi0 hz0 hz1 hz2 rfl (by decide) (.slice none 0 0) 0 [] rfl (World.ownsRow_nil _ _ _ _) ⟨D.bL, 0, none⟩ x.cores D.cL (rowV x.cores D.vs) rfl (by rw [rowV_len]; omega) (fun j u hu => by rw [Addr.add_mid, Nat.zero_add]; have hj : j < x.cores := (by have := (List.getElem?_eq_some_iff.1 hu).1; rw [rowV_len] at this; exact this); rw [rowV_get _ hj] at hu; rw [← Option.some.inj hu]; exact HH.out.cL hj) H1C.out (by unfold maxLen; omega) (by omega) (Nat.le_refl _) ?_; intro v1 w1 h2 h3 h4; replace h3 : w.grownBy w1 none := h3; obtain ⟨g, c1', rfl, hgl⟩ := own_some h2 (by omega); rw [Nat.zero_add, List.nil_append] at h2; have HO := Lib.hid h2; have HG := Lib.hid h3; have hQg : ¬ Q = g := (by have := HH.out.lt Q HH.out.gQ; omega); have hgQ : ¬ g = Q := (fun e => hQg e.symm); have cg := h2.cellAt k (by omega); rw [rowV_get _ hk] at cg; have fg := h2.frozenAt k; have cq := (grown_cell (j := 1) h3 (HH.out.lt Q HH.out.gQ) (by simp)).trans HH.out.c1; have fq : w1.frozen? ⟨Q, 1, none⟩ = false := (World.frozen?_of_block (a := ⟨Q, 1, none⟩) (h3.block Q (HH.out.lt Q HH.out.gQ) (by simp))).trans (HH.out.frozen 1); clear h2 h3 h4)
  go_end0
  have hset := DocAt.setL HH.out hk HO.out HG.out HL.out HN.out hn2 HA.out (c := c)
  refine ⟨rfl, _, _, hset.1, hset.2, fun b hb => ?_⟩
  rcases hb with hb | rfl | hb
  · exact .inl hb
  · exact .inr (.inl hgl)
  · exact .inr (.inr hb)
end Go.Proofs.YtehckjkihaalfaaGreat

/- A drawn region in which one operation turns memory, and the last one is a call that waits for all others. -/
namespace Go.Proofs.YtehckjkihaalfaaGreat
open Go.RowKit Go.Maps

variable {Q : Exit → Act → World → Prop}
/-- The last operation waits for every other one; each yields. -/
def lastOkC (ops : Array Oper) (N : Nat) : Bool :=
  (ops.size == N + 1 && (match ops[N]? with
    | some o => o.dst.isSome && o.guard.isNone && (List.range N).all fun i => (reachUp ops N (backs o)).contains i
    | none => false)) && (List.range N).all fun i => match ops[i]? with | some o => o.dst.isSome | none => false
theorem lastOkC_spec {ops : Array Oper} {N : Nat} (h : lastOkC ops N = true) : ops.size = N + 1 ∧ ∃ o, ops[N]? = some o ∧ o.dst.isSome = true ∧ o.guard = none ∧
    (∀ Lp : Nat → Prop, (∀ e ∈ o.after, Region.binds .any e = true → Lp e.on) → (∀ i o, ops[i]? = some o → Lp i → ∀ e ∈ o.after, Region.binds .any e = true → Lp e.on) → ∀ i, i < N → Lp i) ∧ ∀ i o', i < N → ops[i]? = some o' → o'.dst.isSome = true := by
  unfold lastOkC at h
  simp only [Bool.and_eq_true, beq_iff_eq, List.all_eq_true, List.mem_range] at h
  obtain ⟨⟨h1, h2⟩, h3⟩ := h
  refine ⟨h1, ?_⟩
  cases ho : ops[N]? with
  | none => rw [ho] at h2; cases h2
  | some o =>
    rw [ho] at h2
    simp only [Bool.and_eq_true, List.all_eq_true, List.mem_range, Option.isNone_iff_eq_none] at h2
    refine ⟨o, rfl, h2.1.1, h2.1.2, fun Lp k1 k2 i hi => ?_, fun i o' hi ho' => ?_⟩
    · have h4 := h2.2 i hi
      refine reach_all Lp k2 N (backs o) (fun j hj => ?_) i (by simpa using h4)
      obtain ⟨e, he, rfl, hb⟩ := mem_backs hj
      exact k1 e he hb
    · have := h3 i hi
      rw [ho'] at this
      exact this
theorem wp_region_midC {ops : Array Oper} {id : Nat} {a0 : Act} {w0 : World} (N p : Nat) (D : Nat → Bool) (Rel RelP RelA : World → World → Prop) (Φ : Nat → Value → World → Prop) (Fin : Value → World → Prop)
    (hm : Tryz.prog.follows .mixedOrders = true) (hok : regionOk ops a0.tmps.size = true) (hlo : lastOkC ops N = true)
    (hpN : p < N) (hdrew : Rel w0 w0.drew) (htrans : ∀ W W' W'', Rel W W' → Rel W' W'' → Rel W W'')
    (hA : ∀ W W', Rel W W' → RelA W W') (hPA : ∀ W W', RelP W W' → RelA W W') (hAA : ∀ W W' W'', RelA W W' → RelA W' W'' → RelA W W'')
    (hmono : ∀ i v W W', Φ i v W → Rel W W' → Φ i v W') (hmonoP : ∀ i v W W', i ≠ p → D i = false → Φ i v W → RelP W W' → Φ i v W')
    (hops : AllOps (fun i o => if i = p then OpDoesP ops a0 w0 Rel RelP Φ Q i o else OpDoesAD ops a0 w0 D RelA Rel Φ Q i o) 0 (ops.toList.take N))
    (hlast : ∀ oN, ops[N]? = some oN → ∀ a W, RelA w0 W → (∀ k, (ops.toList.all fun o => o.dst != some k) = true → a.tmps[k]?.getD undef = slot a0 k) → (∀ i o, i < N → D i = false → ops[i]? = some o → Φ i (dstV a o) W) →
      ∀ K : Act → World → Prop, (∀ v W', Fin v W' → K (a.put oN.dst v) W') → oN.wp Tryz.prog a W K Q)
    (hend : ∀ (vs : Nat → Value) W, Fin (vs N) W → (∀ i, i < N → ∃ W0, Φ i (vs i) W0) → Q .normal (putAll ops.toList 0 vs a0) W) :
    (Code.region id ops true).wp Tryz.prog Q a0 w0 := by
  obtain ⟨hsz1, oN, hoN, hdN, hgN, hwait, hdst⟩ := lastOkC_spec hlo
  let Inv : Array Bool → Act → World → Prop := fun listed a W => a.defers = a0.defers ∧ a.tmps.size = a0.tmps.size ∧
    (∀ k, (∀ j o, ops[j]? = some o → o.dst = some k → listed.getD j false = false) → slot a k = slot a0 k) ∧ listed.size = ops.size ∧
    (∀ i o, ops[i]? = some o → listed.getD i false = true → ∀ e ∈ o.after, Region.binds .any e = true → listed.getD e.on false = true) ∧
    (listed.getD N false = false → (RelA w0 W ∧ (listed.getD p false = false → Rel w0 W)) ∧ ∀ i o, ops[i]? = some o → listed.getD i false = true → (D i = false ∨ listed.getD p false = false → Φ i (valOf a o) W) ∧ ∃ W0, Φ i (valOf a o) W0) ∧
    (listed.getD N false = true → Fin (valOf a oN) W ∧ ∀ i o, i < N → ops[i]? = some o → ∃ W0, Φ i (valOf a o) W0)
  have getD_set : ∀ (listed : Array Bool) (i j : Nat), i < listed.size → (listed.setIfInBounds i true).getD j false = if j = i then true else listed.getD j false := fun listed i j hi => by
    by_cases hji : j = i
    · subst hji; simp [Array.getD, hi]
    · rw [if_neg hji, Array.getD_eq_getD_getElem?, Array.getD_eq_getD_getElem?, Array.getElem?_setIfInBounds_ne (fun e => hji e.symm)]
  have main : ∀ (fuel : Nat) (listed : Array Bool) (a : Act) (W : World), unlisted listed ≤ fuel → Inv listed a W → wpAny Tryz.prog .any ops Q fuel listed a W := by
    have done : ∀ (listed : Array Bool) (a : Act) (W : World), Inv listed a W → Region.ready .any ops listed = [] → Q .normal a W := by
      intro listed a W ⟨hdf, hsz, hoth, hls, _, _, hfin⟩ hr
      have all : ∀ i, i < ops.size → listed.getD i false = true := by
        intro i
        induction i using Nat.strongRecOn with
        | _ i ih =>
          intro hi
          cases hl : listed.getD i false with
          | true => rfl
          | false =>
            exfalso
            have : i ∈ Region.ready .any ops listed := mem_ready.2 ⟨by rw [← hl]; simp [Array.getD, hls, hi], ops[i], Array.getElem?_eq_getElem hi, fun e he hbd => by
              have := (regionOk_spec hok (Array.getElem?_eq_getElem hi)).1 e he hbd
              exact ih e.on this (by omega)⟩
            rw [hr] at this
            cases this
      obtain ⟨hF, hphi⟩ := hfin (all N (by omega))
      let vs : Nat → Value := fun i => match ops[i]?.bind (·.dst) with | some d => slot a d | none => undef
      have hFv : Fin (vs N) W := by
        obtain ⟨dN, hd⟩ := Option.isSome_iff_exists.1 hdN
        unfold valOf keyOf' at hF
        rw [hd] at hF
        simpa [vs, hoN, hd] using hF
      have hq := hend vs W hFv (fun i hi => by
        have ho := Array.getElem?_eq_getElem (xs := ops) (i := i) (by omega)
        obtain ⟨W0, h0⟩ := hphi i _ hi ho
        have hsm := hdst i _ hi ho
        unfold valOf keyOf' at h0
        refine ⟨W0, ?_⟩
        cases hd : (ops[i]'(by omega)).dst with
        | none => rw [hd] at hsm; cases hsm
        | some d => rw [hd] at h0; simpa [vs, ho, hd] using h0)
      have he : putAll ops.toList 0 vs a0 = a := by
        obtain ⟨p1, p2⟩ := putAll_size ops.toList 0 vs a0
        refine act_ext (p1.trans hsz.symm) (p2.trans hdf.symm) fun k => ?_
        by_cases hk : ∃ j : Nat, ∃ o, ops[j]? = some o ∧ o.dst = some k
        · obtain ⟨j, o, hj, hd⟩ := hk
          obtain ⟨_, hin, huniq⟩ := regionOk_spec hok hj
          rw [putAll_dst ops.toList 0 vs a0 j o k (by simpa using hj) hd (hin k hd) (fun j' o' h1 h2 => (huniq j' o' k (by simpa using h1) hd h2).symm)]
          simp [vs, hj, hd]
        · rw [putAll_other _ _ _ _ _ (fun o ho e => by
            obtain ⟨j, hj, rfl⟩ := List.getElem_of_mem ho
            exact hk ⟨j, ops.toList[j], by simp, e⟩)]
          exact (hoth k (fun j o hj hd => absurd ⟨j, o, hj, hd⟩ hk)).symm
      rw [← he]; exact hq
    have step : ∀ (listed : Array Bool) (a : Act) (W : World), Inv listed a W → ∀ i ∈ Region.ready .any ops listed, ∀ K : Act → World → Prop, (∀ a' W', Inv (listed.setIfInBounds i true) a' W' → K a' W') → wpOp Tryz.prog ops Q i K a W := by
      intro listed a W ⟨hdf, hsz, hoth, hls, haf, hrel, hfin⟩ i hi K hK
      obtain ⟨hun, o, ho, haft⟩ := mem_ready.1 hi
      have hil : i < ops.size := (Array.getElem?_eq_some_iff.1 ho).1
      obtain ⟨hback, hin, huniq⟩ := regionOk_spec hok ho
      have hun' : listed.getD i false = false := by
        cases hh : listed.getD i false with
        | false => rfl
        | true => simp [Array.getD, hls, hil] at hun hh; rw [hun] at hh; cases hh
      have hNf : listed.getD N false = false := by
        cases hh : listed.getD N false with
        | false => rfl
        | true =>
          exfalso
          by_cases hiN : i = N
          · subst hiN
            rw [hun'] at hh
            cases hh
          · have := hwait (fun i => listed.getD i false = true) (fun e he hb => haf N oN hoN hh e he hb) (fun i o ho hl e he hb => haf i o ho hl e he hb) i (by omega)
            rw [hun'] at this
            cases this
      obtain ⟨⟨hB, hB0⟩, hphi⟩ := hrel hNf
      have hslots : ∀ k, (ops.toList.all fun o => o.dst != some k) = true → slot a k = slot a0 k := fun k hk => by
        rw [List.all_eq_true] at hk
        exact hoth k (fun j oj hj hd => by
          have := hk oj (List.mem_of_getElem? (i := j) (by simpa using hj))
          rw [hd] at this; simp at this)
      have hafN : ∀ (j : Nat) (oj : Oper), ops[j]? = some oj → (listed.setIfInBounds i true).getD j false = true → ∀ e ∈ oj.after, Region.binds .any e = true → (listed.setIfInBounds i true).getD e.on false = true := fun j oj hj hlj e he hb => by
        rw [getD_set listed i j (by omega)] at hlj
        rw [getD_set listed i e.on (by omega)]
        split
        · rfl
        · by_cases hji : j = i
          · subst hji
            rw [ho] at hj; cases hj
            exact haft e he hb
          · rw [if_neg hji] at hlj
            exact haf j oj hj hlj e he hb
      unfold wpOp
      rw [ho]
      by_cases hiN : i = N
      · subst hiN
        rw [hoN] at ho
        cases ho
        have hall : ∀ j, j < i → listed.getD j false = true := fun j hj => hwait (fun i => listed.getD i false = true) (fun e he hb => haft e he hb) (fun i o ho hl e he hb => haf i o ho hl e he hb) j hj
        have key := hlast oN hoN a W hB (fun k hk => (eval_slot a k).symm.trans (hslots k hk)) (fun j oj hj hD hoj => by rw [← valOf_dst]; exact (hphi j oj hoj (hall j hj)).1 (.inl hD)) K (fun v W' hF => hK _ W' ⟨(defers_put _ _ _).trans hdf, (size_put _ _ _).trans hsz, fun k hk => by
            have hne : ¬ oN.dst = some k := fun e => by
              have := hk i oN hoN e
              rw [getD_set listed i i (by omega), if_pos rfl] at this
              cases this
            rw [slot_put, if_neg (fun hh => hne hh.1)]
            refine hoth k fun j oj hj hd => ?_
            have := hk j oj hj hd
            rw [getD_set listed i j (by omega)] at this
            split at this
            · cases this
            · exact this, by simpa using hls, hafN, (fun h => absurd h (by rw [getD_set listed i i (by omega), if_pos rfl]; simp)), fun _ => ⟨by
              obtain ⟨dN, hd⟩ := Option.isSome_iff_exists.1 hdN
              unfold valOf keyOf'
              rw [hd]
              simp only
              rw [slot_put, if_pos ⟨rfl, by rw [hsz]; exact hin dN hd⟩]
              exact hF, fun j oj hj hoj => by
              obtain ⟨W0, h0⟩ := (hphi j oj hoj (hall j hj)).2
              refine ⟨W0, ?_⟩
              have hjd := hdst j oj hj hoj
              have hval : valOf (a.put oN.dst v) oj = valOf a oj := by
                unfold valOf keyOf'
                cases hd : oj.dst with
                | none => rw [hd] at hjd; cases hjd
                | some d =>
                  simp only
                  have hne : ¬ oN.dst = some d := fun e => by
                    have := huniq j oj d hoj e hd
                    omega
                  rw [slot_put, if_neg (fun hh => hne hh.1)]
              rw [hval]
              exact h0⟩⟩)
        show if Region.wanted oN (yielded ops a.tmps) = true then _ else _
        rw [if_pos (by simp [Region.wanted, hgN])]
        exact .inl key
      · have hiN2 : i < N := by omega
        have hod := hdst i o hiN2 ho
        have hdo := hops.get (k := i) (o := o) (by rw [List.getElem?_take_of_lt hiN2]; simpa using ho)
        rw [Nat.zero_add] at hdo
        have key : if Region.wanted o (yielded ops a.tmps) = true then o.wp Tryz.prog a W K Q else K (a.put o.dst undef) W := by
          have hgo : ∀ (v : Value) (W' : World), RelA W W' → (i ≠ p → Rel W W') → (∀ j u, j ≠ i → (D j = false ∨ i ≠ p) → Φ j u W → Φ j u W') → Φ i (match o.dst with | some _ => v | none => valOf a o) W' → K (a.put o.dst v) W' := fun v W' hbA hbR hkeep hv => hK _ _ ⟨(defers_put _ _ _).trans hdf, (size_put _ _ _).trans hsz, fun k hk => ?_, by simpa using hls, hafN, fun _ => ⟨⟨hAA _ _ _ hB hbA, fun hp => ?_⟩, fun j oj hj hlj => ?_⟩, fun h => ?_⟩
          · by_cases hip : i = p
            · subst hip
              rw [if_pos rfl] at hdo
              exact hdo a W (hB0 hun') hslots (fun e he hb oe hoe => (hphi e.on oe hoe (haft e he hb)).1 (.inr hun')) K (fun v W' hP hv => hgo v W' (hPA _ _ hP) (fun h => absurd rfl h) (fun j u hj hc h => hmonoP j u W W' hj (hc.elim (fun e => e) (fun e => absurd rfl e)) h hP) hv)
            · rw [if_neg hip] at hdo
              exact hdo a W hB hslots (fun e he hb hD oe hoe => (hphi e.on oe hoe (haft e he hb)).1 (.inl hD)) K (fun v W' hR hv => hgo v W' (hA _ _ hR) (fun _ => hR) (fun j u _ _ h => hmono j u W W' h hR) hv)
          · have hne : ¬ o.dst = some k := fun e => by
              have := hk i o ho e
              rw [getD_set listed i i (by omega), if_pos rfl] at this
              cases this
            rw [slot_put, if_neg (fun hh => hne hh.1)]
            refine hoth k (fun j o hj hd => ?_)
            have := hk j o hj hd
            rw [getD_set listed i j (by omega)] at this
            by_cases hji : j = i
            · subst hji; rw [ho] at hj; cases hj; exact absurd hd hne
            · rwa [if_neg hji] at this
          · rw [getD_set listed i p (by omega)] at hp
            by_cases hip : p = i
            · rw [if_pos hip] at hp; cases hp
            · rw [if_neg hip] at hp
              exact htrans _ _ _ (hB0 hp) (hbR (fun e => hip e.symm))
          · rw [getD_set listed i j (by omega)] at hlj
            by_cases hji : j = i
            · subst hji
              rw [ho] at hj; cases hj
              have hval : valOf (a.put o.dst v) o = (match o.dst with | some _ => v | none => valOf a o) := by
                unfold valOf keyOf'
                cases hd : o.dst with
                | none => rw [hd] at hod; cases hod
                | some d =>
                  simp only
                  rw [slot_put, if_pos ⟨rfl, by rw [hsz]; exact hin d hd⟩]
              rw [hval]
              exact ⟨fun _ => hv, W', hv⟩
            · rw [if_neg hji] at hlj
              have hjN : j < N := by
                have h1 := (Array.getElem?_eq_some_iff.1 hj).1
                by_cases e : j = N
                · subst e
                  rw [hNf] at hlj
                  cases hlj
                · omega
              have hjd := hdst j oj hjN hj
              have hval : valOf (a.put o.dst v) oj = valOf a oj := by
                unfold valOf keyOf'
                cases hd : oj.dst with
                | none => rw [hd] at hjd; cases hjd
                | some d =>
                  simp only
                  have hne : ¬ o.dst = some d := fun e => hji (huniq j oj d hj e hd).symm
                  rw [slot_put, if_neg (fun hh => hne hh.1)]
              rw [hval]
              obtain ⟨h1, h2⟩ := hphi j oj hj hlj
              refine ⟨fun hc => ?_, h2⟩
              by_cases hD : D j = false
              · exact hkeep j _ hji (.inl hD) (h1 (.inl hD))
              · have hc2 := hc.elim (fun e => absurd e hD) (fun e => e)
                rw [getD_set listed i p (by omega)] at hc2
                have hip : i ≠ p := fun e => by rw [if_pos e.symm] at hc2; cases hc2
                rw [if_neg (fun e => hip e.symm)] at hc2
                exact hkeep j _ hji (.inr hip) (h1 (.inr hc2))
          · exfalso
            rw [getD_set listed i N (by omega), if_neg (by omega), hNf] at h
            cases h
        show if Region.wanted o (yielded ops a.tmps) = true then _ else _
        split
        · rename_i hw
          rw [if_pos hw] at key
          exact .inl key
        · rename_i hw
          rw [if_neg hw] at key
          exact key
    intro fuel
    induction fuel with
    | zero =>
      intro listed a W hf hI
      have hr : Region.ready .any ops listed = [] := by
        cases hr : Region.ready .any ops listed with
        | nil => rfl
        | cons i l =>
          exfalso
          have hi : i ∈ Region.ready .any ops listed := by rw [hr]; simp
          have := unlisted_set (mem_ready.1 hi).1
          omega
      exact ⟨hr, done listed a W hI hr⟩
    | succ fuel ih =>
      intro listed a W hf hI
      refine ⟨done listed a W hI, fun i hi => step listed a W hI i hi _ (fun a' W' hI' => ih _ a' W' ?_ hI')⟩
      have := unlisted_set (mem_ready.1 hi).1
      omega
  refine wp_region_any hm (main _ _ _ _ ?_ ?_)
  · unfold unlisted
    rw [Array.toList_replicate, List.countP_replicate]
    split <;> omega
  · refine ⟨rfl, rfl, fun _ _ => rfl, by simp, fun i o ho hl => ?_, fun _ => ⟨⟨hA _ _ hdrew, fun _ => hdrew⟩, fun i o ho hl => ?_⟩, fun h => ?_⟩
    · have hil : i < ops.size := (Array.getElem?_eq_some_iff.1 ho).1
      simp [Array.getD, hil] at hl
    · have hil : i < ops.size := (Array.getElem?_eq_some_iff.1 ho).1
      simp [Array.getD, hil] at hl
    · have hil : N < ops.size := by omega
      simp [Array.getD, hil] at h
end Go.Proofs.YtehckjkihaalfaaGreat
