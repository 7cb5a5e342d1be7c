/- Closures of many inodes: plain; rows of yes and no. -/
import Derived.Test.YtehckjkihaalfaaGreatCK
import Derived.OwnWalk
namespace Go.Proofs.YtehckjkihaalfaaGreat
open Go.RowKit Go.Maps

theorem writesB_or {r : R} {inos : List Int} : writesB r inos = true ↔ ∃ x ∈ inos, writesB r [x] = true := by
  unfold writesB
  constructor
  · intro h
    obtain ⟨p, hp, h1⟩ := List.any_eq_true.1 h
    unfold writesPt hasI at h1
    rw [Bool.and_eq_true] at h1
    obtain ⟨x, hx, h2⟩ := List.any_eq_true.1 h1.2
    refine ⟨x, hx, List.any_eq_true.2 ⟨p, hp, ?_⟩⟩
    unfold writesPt hasI
    rw [h1.1, Bool.true_and]
    simpa using h2
  · rintro ⟨x, hx, h⟩
    obtain ⟨p, hp, h1⟩ := List.any_eq_true.1 h
    refine List.any_eq_true.2 ⟨p, hp, ?_⟩
    unfold writesPt hasI at h1 ⊢
    rw [Bool.and_eq_true] at h1 ⊢
    refine ⟨h1.1, List.any_eq_true.2 ⟨x, hx, ?_⟩⟩
    simpa using h1.2
theorem inC_or {l : List R} {inos : List Int} {k : Nat} : InC l inos k ↔ ∃ x ∈ inos, InC l [x] k := by
  constructor
  · intro h
    induction h with
    | own hk hw =>
      obtain ⟨x, hx, h1⟩ := writesB_or.1 hw
      exact ⟨x, hx, .own hk h1⟩
    | on _ hk ih =>
      obtain ⟨x, hx, h1⟩ := ih
      exact ⟨x, hx, .on h1 hk⟩
  · rintro ⟨x, hx, h⟩
    induction h with
    | own hk hw => exact .own hk (writesB_or.2 ⟨x, hx, hw⟩)
    | on _ hk ih => exact .on ih hk
theorem inC_none {l : List R} {k : Nat} : ¬ InC l [] k := fun h => by
  obtain ⟨x, hx, _⟩ := inC_or.1 h
  simp at hx
theorem inB_none {l : List R} {k : Nat} (hk : k < l.length) : inB l [] l.length k = false := by
  rw [Bool.eq_false_iff]
  exact fun h => inC_none ((inB_iff hk).1 h)
theorem places_none (l : List R) : placesL l [] = [] := by
  unfold placesL
  rw [List.filter_eq_nil_iff]
  intro k hk
  rw [inB_none (List.mem_range.1 hk)]
  simp
theorem pick_none (l : List R) : pickL l [] true = [] := by
  unfold pickL pickTo
  rw [List.map_eq_nil_iff, List.filter_eq_nil_iff]
  intro k hk
  rw [inB_none (List.mem_range.1 hk)]
  simp
theorem pick_rest (l : List R) : pickL l [] false = l := by
  unfold pickL pickTo
  have e : (List.range l.length).filter (fun k => inB l [] l.length k == false) = List.range l.length := by
    rw [List.filter_eq_self]
    intro k hk
    rw [inB_none (List.mem_range.1 hk)]
    rfl
  rw [e]
  apply List.ext_getElem (by simp)
  intro i h1 h2
  rw [List.getElem_map, List.getElem_range]
  exact rAt_get (List.getElem?_eq_getElem h2)
/-- One of the first i inodes has a place in its closure. -/
def manyB (l : List R) (inos : List Int) (i k : Nat) : Bool := (inos.take i).any fun x => inB l [x] l.length k
theorem many_all {l : List R} {inos : List Int} : (List.range l.length).filter (manyB l inos inos.length) = placesL l inos := by
  unfold placesL
  refine List.filter_congr fun k hk => ?_
  have hk := List.mem_range.1 hk
  unfold manyB
  rw [List.take_length, Bool.eq_iff_iff, inB_iff hk, inC_or, List.any_eq_true]
  constructor
  · rintro ⟨x, hx, h⟩
    exact ⟨x, hx, (inB_iff hk).1 h⟩
  · rintro ⟨x, hx, h⟩
    exact ⟨x, hx, (inB_iff hk).2 h⟩
theorem many_succ {l : List R} {inos : List Int} {i k : Nat} {x : Int} (hx : inos[i]? = some x) (hk : k < l.length) : manyB l inos (i + 1) k = (manyB l inos i k || decide (k ∈ placesL l [x])) := by
  unfold manyB
  rw [List.take_add_one, hx, List.any_append]
  congr 1
  rw [Bool.eq_iff_iff, decide_eq_true_eq, mem_places, ← inB_iff hk]
  simp
/-- A row of yes and no. -/
def boolV (n : Nat) (f : Nat → Bool) : List Value := (List.range n).map fun k => .bool (f k)
theorem boolV_set (n k : Nat) (f : Nat → Bool) (b : Bool) : (boolV n f).set k (.bool b) = boolV n fun j => if j = k then b else f j := by
  unfold boolV
  apply List.ext_getElem (by simp)
  intro j h1 h2
  simp only [List.getElem_set, List.getElem_map, List.getElem_range]
  by_cases h : k = j
  · subst h
    simp
  · rw [if_neg h, if_neg (fun e => h e.symm)]
theorem boolV_congr {n : Nat} {f g : Nat → Bool} (h : ∀ k, k < n → f k = g k) : boolV n f = boolV n g := by
  unfold boolV
  refine List.map_congr_left fun k hk => ?_
  rw [h k (List.mem_range.1 hk)]
theorem boolV_start (n : Nat) : (madeCells (Value.bool false).cells (n * 1)).toList = boolV n fun _ => false := by
  have : (madeCells (Value.bool false).cells (n * 1)).toList = List.replicate (n * 1) (.bool false) := toList_madeCells_one (.bool false) (n * 1)
  rw [this]
  unfold boolV
  apply List.ext_getElem (by simp)
  intro j h1 h2
  simp
/-- In block g. -/
def BoolsAt (w : World) (base g n : Nat) (f : Nat → Bool) : Prop := w.ownsRow base 4 1 (.slice (some ⟨g, 0, none⟩) n n) n (boolV n f)
section
variable {w w' : World} {base g n k : Nat} {f : Nat → Bool}
theorem BoolsAt.cell (h : BoolsAt w base g n f) (hk : k < n) : w.cell? ⟨g, k, none⟩ = some (.bool (f k)) := by
  rw [World.ownsRow.cellAt h k (by omega)]
  unfold boolV
  simp [hk]
theorem BoolsAt.frozen (h : BoolsAt w base g n f) : w.frozen? ⟨g, k, none⟩ = false := World.ownsRow.frozenAt h k
theorem BoolsAt.lt (h : BoolsAt w base g n f) : base ≤ g ∧ g < w.heap.size := World.ownsRow.lt h g rfl
theorem BoolsAt.below (h : BoolsAt w base g n f) (hb : Below w.heap.size w w') : BoolsAt w' base g n f := row_below h hb
theorem BoolsAt.set (h : BoolsAt w base g n f) (b : Bool) : BoolsAt (w.setCell ⟨g, k, none⟩ (.bool b)) base g n (fun j => if j = k then b else f j) ∧ w.grownBy (w.setCell ⟨g, k, none⟩ (.bool b)) (some g) := by
  obtain ⟨h1, h2⟩ := World.ownsRow.stored h k (.bool b)
  rw [boolV_set] at h1
  exact ⟨h1, h2⟩
theorem BoolsAt.congr (h : BoolsAt w base g n f) {f' : Nat → Bool} (hf : ∀ k, k < n → f k = f' k) : BoolsAt w base g n f' := by
  unfold BoolsAt at h ⊢
  rw [← boolV_congr hf]
  exact h
end
theorem infoB : ∃ i, Tryz.prog.info? 4 = some i ∧ i.zero = some (.bool false) ∧ i.size = 1 ∧ i.bytes = 1 := by
  have : (Tryz.prog.info? 4).map (fun i => (i.zero, i.size, i.bytes)) = some (some (.bool false), 1, 1) := by kernel_rfl
  obtain ⟨i, hi, he⟩ := Option.map_eq_some_iff.1 this
  simp only [Prod.mk.injEq] at he
  exact ⟨i, hi, he.1, he.2.1, he.2.2⟩
set_option maxRecDepth 100000 in
set_option maxHeartbeats 4000000 in
theorem t_long25 (A : Option Addr) (c n : Nat) (l : List R) (w : World) (hl : RecsAt w A l) (hn : l.length = n) (hnc : n ≤ c) (hn2 : n ≤ maxLen) :
    Calls Tryz.prog 36 #[.slice A n c] w fun e w' => ∃ b : Bool, e = .returned (.bool b) ∧ (b = false → n ≤ 60) ∧ Below w.heap.size w w' := by
  have HN := Lib.hid hn
  have HL := Lib.hid hl
  clear hl hn
  go_enter Tryz.func36, Tryz.ntmps36
  go_wp2
  go_loopw [3, 4] (fun v x wr => ∃ (i : Nat) (m : Int), v = .int .i64 m ∧ x = .int .i64 (i : Int) ∧ i ≤ n ∧ i ≤ 100 ∧ Hid (Below w.heap.size w wr)) (fun _ x _ => n - (intOf x).toNat)
  case atStart => exact ⟨0, 0, rfl, rfl, Nat.zero_le _, Nat.zero_le _, Below.refl _ _⟩
  case round =>
    obtain ⟨i, m, rfl, rfl, hi, hi1, HW⟩ := hrel
    by_cases he : i < n ∧ i < 100
    · obtain ⟨he, he1⟩ := he
      obtain ⟨x, hx⟩ : ∃ x, l[i]? = some x := ⟨l[i]'(by rw [HN.out]; omega), List.getElem?_eq_getElem _⟩
      obtain ⟨b, o, rfl, hbl, hc⟩ := (HL.out.below HW.out).at_ (fun e => by rw [e] at hx; simp at hx)
      have c3 := hc i x hx 3 _ rfl
      have c7 := hc i x hx 7 _ rfl
      have c11 := hc i x hx 11 _ rfl
      have hy := HL.out.ok x (List.mem_of_getElem? hx)
      clear hc hx hbl
      clear hy
      go_wp2
      go_quiet (fail)
      generalize hw2 : wr.drewN _ = w2
      have HB2 : Hid (Below w.heap.size w w2) := by rw [← hw2]; exact pbelow_drewN HW.out _
      clear hw2
      go_wp2
      go_roundw
      case rel => exact ⟨i + 1, _, rfl, rfl, he, by omega, HB2⟩
      case measure => simp only [intOf]; omega
    · by_cases h60 : 60 < n <;> by_cases hm : 8192 < m <;> by_cases hin : i < n
      all_goals
        try have h100 : ¬ i < 100 := fun e => he ⟨hin, e⟩
        go_wp2
        all_goals
          go_ret
          first
            | exact .inr ⟨rfl, HW.out⟩
            | exact .inl ⟨rfl, by omega, HW.out⟩
            | exact ⟨true, rfl, (fun h => by cases h), HW.out⟩
            | exact .inl ⟨congrArg (fun b => Ending.returned (.bool b)) (show decide (60 < (n : Int)) = false from decide_eq_false (by omega)), by omega, HW.out⟩
end Go.Proofs.YtehckjkihaalfaaGreat
