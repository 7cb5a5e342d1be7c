/- LinearStrict, plain: calls numbered as they go along; who precedes whom; the order of commits. -/
import Derived.Test.YtpcnolkdnmolgaaGreatDoorProg
import Derived.WalkKit
namespace Go.Proofs.YtpcnolkdnmolgaaGreatDoor
theorem zz {p : Prop} (h : p) : Go.RowKit.Hid p := h
section
structure NS where
 n : Nat
 now : Int → Option Nat
 out : List Int
def optI (o : Option Nat) : Int := match o with | some k => (k : Int) | none => -1
def stepN (s : NS) (e : Int × Int) : NS :=
 if e.2 = 1 then ⟨s.n + 1, fun c => if c = e.1 then some s.n else s.now c, s.out ++ [(s.n : Int)]⟩
 else if e.2 = 3 then ⟨s.n, fun c => if c = e.1 then none else s.now c, s.out ++ [optI (s.now e.1)]⟩
 else ⟨s.n, s.now, s.out ++ [optI (s.now e.1)]⟩
theorem snoc_ind {α : Type} {p : List α → Prop} (h0 : p []) (h1 : ∀ l e, p l → p (l ++ [e])) (l : List α) : p l := by
 have : ∀ l : List α, p l.reverse := fun l => by
  induction l with
  | nil => exact h0
  | cons a l ih => rw [List.reverse_cons]; exact h1 _ _ ih
 have h := this l.reverse
 rwa [List.reverse_reverse] at h
def numS (l : List (Int × Int)) : NS := l.foldl stepN ⟨0, fun _ => none, []⟩
def numL (l : List (Int × Int)) : List Int := (numS l).out
theorem numS_snoc (l : List (Int × Int)) (e : Int × Int) : numS (l ++ [e]) = stepN (numS l) e := by
 unfold numS
 rw [List.foldl_append]
 rfl
theorem stepN_out (s : NS) (e : Int × Int) : ∃ v, (stepN s e).out = s.out ++ [v] ∧ v = if e.2 = 1 then (s.n : Int) else optI (s.now e.1) := by
 unfold stepN
 split
 · exact ⟨_, rfl, rfl⟩
 · split <;> exact ⟨_, rfl, rfl⟩
structure NOk (s : NS) (E : List (Int × Int)) : Prop where
 beg : ∀ (i j : Nat) (v : Int), E[i]? = some (1, v) → E[j]? = some (1, v) → i = j
 has : ∀ (i : Nat) (k v : Int), E[i]? = some (k, v) → 0 ≤ v → ∃ b : Nat, b ≤ i ∧ E[b]? = some (1, v)
 over : ∀ (i j : Nat) (k v : Int), E[i]? = some (3, v) → 0 ≤ v → E[j]? = some (k, v) → j ≤ i
 lt : ∀ (i : Nat) (k v : Int), E[i]? = some (k, v) → v < s.n
 cur : ∀ c m, s.now c = some m → m < s.n ∧ (∃ b : Nat, E[b]? = some (1, (m : Int))) ∧ ∀ i : Nat, E[i]? ≠ some (3, (m : Int))
 one : ∀ c c' m, s.now c = some m → s.now c' = some m → c = c'
theorem get_snoc {α : Type} {E : List α} {e : α} {i : Nat} {x : α} (h : (E ++ [e])[i]? = some x) : (i < E.length ∧ E[i]? = some x) ∨ (i = E.length ∧ x = e) := by
 by_cases hi : i < E.length
 · rw [List.getElem?_append_left hi] at h
   exact .inl ⟨hi, h⟩
 · rw [List.getElem?_append_right (by omega)] at h
   have h0 : i - E.length = 0 := by
    by_cases c : i - E.length = 0
    · exact c
    · rw [List.getElem?_eq_none (by simp; omega)] at h
      cases h
   rw [h0] at h
   refine .inr ⟨by omega, ?_⟩
   simpa using h.symm
theorem get_lt {α : Type} {E : List α} {i : Nat} {x : α} (h : E[i]? = some x) : i < E.length := (List.getElem?_eq_some_iff.1 h).1
theorem get_old {α : Type} {E : List α} {e : α} {i : Nat} {x : α} (h : E[i]? = some x) : (E ++ [e])[i]? = some x := by
 rw [List.getElem?_append_left (get_lt h)]
 exact h
theorem get_new {α : Type} {E : List α} {e : α} : (E ++ [e])[E.length]? = some e := by simp
theorem NOk.step {s : NS} {E : List (Int × Int)} (h : NOk s E) (e : Int × Int) : NOk (stepN s e) (E ++ [(e.2, if e.2 = 1 then (s.n : Int) else optI (s.now e.1))]) := by
 obtain ⟨c, k⟩ := e
 by_cases h1 : k = 1
 · subst h1
   have hst : stepN s (c, 1) = ⟨s.n + 1, fun x => if x = c then some s.n else s.now x, s.out ++ [(s.n : Int)]⟩ := rfl
   rw [hst]
   show NOk _ (E ++ [((1 : Int), (s.n : Int))])
   refine ⟨?_, ?_, ?_, ?_, ?_, ?_⟩
   · intro i j v hi hj
     rcases get_snoc hi with ⟨a1, a2⟩ | ⟨a1, a2⟩ <;> rcases get_snoc hj with ⟨b1, b2⟩ | ⟨b1, b2⟩
     · exact h.beg i j v a2 b2
     · cases b2; have := h.lt _ _ _ a2; omega
     · cases a2; have := h.lt _ _ _ b2; omega
     · omega
   · intro i q v hi hv
     rcases get_snoc hi with ⟨a1, a2⟩ | ⟨a1, a2⟩
     · obtain ⟨b, b1, b2⟩ := h.has i q v a2 hv
       exact ⟨b, b1, get_old b2⟩
     · cases a2
       exact ⟨E.length, by omega, get_new⟩
   · intro i j q v hi hv hj
     rcases get_snoc hi with ⟨a1, a2⟩ | ⟨a1, a2⟩ <;> rcases get_snoc hj with ⟨b1, b2⟩ | ⟨b1, b2⟩
     · exact h.over i j q v a2 hv b2
     · cases b2; have := h.lt _ _ _ a2; omega
     · cases a2
     · omega
   · intro i q v hi
     rcases get_snoc hi with ⟨a1, a2⟩ | ⟨a1, a2⟩
     · have := h.lt _ _ _ a2
       simp only [Int.natCast_add]; omega
     · cases a2
       simp only [Int.natCast_add]; omega
   · intro x m hm
     dsimp only at hm ⊢
     by_cases hx : x = c
     · rw [if_pos hx] at hm
       cases hm
       refine ⟨by omega, ⟨_, get_new⟩, fun i hi => ?_⟩
       rcases get_snoc hi with ⟨a1, a2⟩ | ⟨a1, a2⟩
       · have := h.lt _ _ _ a2; omega
       · cases a2
     · rw [if_neg hx] at hm
       obtain ⟨m1, ⟨b, m2⟩, m3⟩ := h.cur x m hm
       refine ⟨by omega, ⟨b, get_old m2⟩, fun i hi => ?_⟩
       rcases get_snoc hi with ⟨a1, a2⟩ | ⟨a1, a2⟩
       · exact m3 i a2
       · cases a2
   · intro x x' m hm hm'
     dsimp only at hm hm'
     by_cases hx : x = c <;> by_cases hx' : x' = c
     · rw [hx, hx']
     · rw [if_pos hx] at hm
       rw [if_neg hx'] at hm'
       cases hm
       have := (h.cur x' _ hm').1
       omega
     · rw [if_neg hx] at hm
       rw [if_pos hx'] at hm'
       cases hm'
       have := (h.cur x _ hm).1
       omega
     · rw [if_neg hx] at hm
       rw [if_neg hx'] at hm'
       exact h.one _ _ _ hm hm'
 · rw [if_neg h1]
   obtain ⟨v0, hv0⟩ : ∃ v, optI (s.now c) = v := ⟨_, rfl⟩
   have hcur : 0 ≤ v0 → ∃ m : Nat, s.now c = some m ∧ v0 = m := fun h0 => by
    cases hc : s.now c with
    | none => rw [hc] at hv0; have : v0 = -1 := hv0.symm; omega
    | some m => rw [hc] at hv0; exact ⟨m, rfl, hv0.symm⟩
   rw [show optI (s.now (c, k).1) = v0 from hv0]
   have hlt : v0 < s.n := by
    by_cases h0 : 0 ≤ v0
    · obtain ⟨m, hm, rfl⟩ := hcur h0
      have := (h.cur c m hm).1
      omega
    · omega
   have base : (∀ (i j : Nat) (v : Int), (E ++ [(k, v0)])[i]? = some (1, v) → (E ++ [(k, v0)])[j]? = some (1, v) → i = j) ∧ (∀ (i : Nat) (q v : Int), (E ++ [(k, v0)])[i]? = some (q, v) → 0 ≤ v → ∃ b : Nat, b ≤ i ∧ (E ++ [(k, v0)])[b]? = some (1, v)) ∧ (∀ (i j : Nat) (q v : Int), (E ++ [(k, v0)])[i]? = some (3, v) → 0 ≤ v → (E ++ [(k, v0)])[j]? = some (q, v) → j ≤ i) ∧ (∀ (i : Nat) (q v : Int), (E ++ [(k, v0)])[i]? = some (q, v) → v < s.n) := by
    refine ⟨?_, ?_, ?_, ?_⟩
    · intro i j v hi hj
      rcases get_snoc hi with ⟨a1, a2⟩ | ⟨a1, a2⟩ <;> rcases get_snoc hj with ⟨b1, b2⟩ | ⟨b1, b2⟩
      · exact h.beg i j v a2 b2
      · injection b2 with b2 _; exact absurd b2.symm h1
      · injection a2 with a2 _; exact absurd a2.symm h1
      · omega
    · intro i q v hi hv
      rcases get_snoc hi with ⟨a1, a2⟩ | ⟨a1, a2⟩
      · obtain ⟨b, b1, b2⟩ := h.has i q v a2 hv
        exact ⟨b, b1, get_old b2⟩
      · cases a2
        obtain ⟨m, hm, rfl⟩ := hcur hv
        obtain ⟨_, ⟨b, m2⟩, _⟩ := h.cur c m hm
        exact ⟨b, by have := get_lt m2; omega, get_old m2⟩
    · intro i j q v hi hv hj
      rcases get_snoc hi with ⟨a1, a2⟩ | ⟨a1, a2⟩ <;> rcases get_snoc hj with ⟨b1, b2⟩ | ⟨b1, b2⟩
      · exact h.over i j q v a2 hv b2
      · cases b2
        obtain ⟨m, hm, rfl⟩ := hcur hv
        exact absurd a2 ((h.cur c m hm).2.2 i)
      · omega
      · omega
    · intro i q v hi
      rcases get_snoc hi with ⟨a1, a2⟩ | ⟨a1, a2⟩
      · exact h.lt _ _ _ a2
      · cases a2; exact hlt
   obtain ⟨g1, g2, g3, g4⟩ := base
   by_cases h3 : k = 3
   · subst h3
     have hst : stepN s (c, 3) = ⟨s.n, fun x => if x = c then none else s.now x, s.out ++ [optI (s.now c)]⟩ := rfl
     rw [hst]
     refine ⟨g1, g2, g3, g4, ?_, ?_⟩
     · intro x m hm
       dsimp only at hm ⊢
       by_cases hx : x = c
       · rw [if_pos hx] at hm; cases hm
       · rw [if_neg hx] at hm
         obtain ⟨m1, ⟨b, m2⟩, m3⟩ := h.cur x m hm
         refine ⟨m1, ⟨b, get_old m2⟩, fun i hi => ?_⟩
         rcases get_snoc hi with ⟨a1, a2⟩ | ⟨a1, a2⟩
         · exact m3 i a2
         · injection a2 with _ a2
           obtain ⟨m', hm', e⟩ := hcur (by omega)
           have : m = m' := by omega
           subst this
           exact hx (h.one x c m hm hm')
     · intro x x' m hm hm'
       dsimp only at hm hm'
       by_cases hx : x = c
       · rw [if_pos hx] at hm; cases hm
       · by_cases hx' : x' = c
         · rw [if_pos hx'] at hm'; cases hm'
         · rw [if_neg hx] at hm
           rw [if_neg hx'] at hm'
           exact h.one _ _ _ hm hm'
   · have hst : stepN s (c, k) = ⟨s.n, s.now, s.out ++ [optI (s.now c)]⟩ := by
      unfold stepN
      rw [if_neg h1, if_neg h3]
     rw [hst]
     refine ⟨g1, g2, g3, g4, ?_, h.one⟩
     intro x m hm
     obtain ⟨m1, ⟨b, m2⟩, m3⟩ := h.cur x m hm
     refine ⟨m1, ⟨b, get_old m2⟩, fun i hi => ?_⟩
     rcases get_snoc hi with ⟨a1, a2⟩ | ⟨a1, a2⟩
     · exact m3 i a2
     · injection a2 with a2 _; exact h3 a2.symm
def kn (l : List (Int × Int)) : List (Int × Int) := (l.map fun e => e.2).zip (numL l)
theorem numL_len (l : List (Int × Int)) : (numL l).length = l.length := by
 unfold numL
 refine snoc_ind (p := fun l => (numS l).out.length = l.length) rfl (fun l e ih => ?_) l
 rw [numS_snoc]
 obtain ⟨v, hv, _⟩ := stepN_out (numS l) e
 rw [hv]
 simp [ih]
theorem kn_snoc (l : List (Int × Int)) (e : Int × Int) : kn (l ++ [e]) = kn l ++ [(e.2, if e.2 = 1 then ((numS l).n : Int) else optI ((numS l).now e.1))] := by
 unfold kn
 obtain ⟨v, hv, hv2⟩ := stepN_out (numS l) e
 have : numL (l ++ [e]) = numL l ++ [v] := by unfold numL; rw [numS_snoc, hv]
 rw [this, List.map_append, List.zip_append (by simp [numL_len]), hv2]
 rfl
theorem kn_ok (l : List (Int × Int)) : NOk (numS l) (kn l) := by
 refine snoc_ind (p := fun l => NOk (numS l) (kn l)) ?_ ?_ l
 · exact ⟨fun i _ _ h => by simp [kn] at h, fun i _ _ h => by simp [kn] at h, fun i _ _ _ h => by simp [kn] at h, fun i _ _ h => by simp [kn] at h, fun c m h => (by cases h), fun c c' m h => (by cases h)⟩
 · intro l e ih
   rw [kn_snoc, numS_snoc]
   exact ih.step e
def precB (a b : Int) : Bool → List (Int × Int) → Bool
 | _, [] => false
 | d, (k, v) :: l => if v < 0 then precB a b d l else if k = 3 ∧ v = a then precB a b true l else if k = 1 ∧ v = b ∧ d = true then true else precB a b d l
def PrecE (E : List (Int × Int)) (a b : Int) : Prop := ∃ i j : Nat, i < j ∧ E[i]? = some (3, a) ∧ E[j]? = some (1, b) ∧ 0 ≤ a ∧ 0 ≤ b
theorem precB_iff (a b : Int) : ∀ (E : List (Int × Int)) (d : Bool), precB a b d E = true ↔ (d = true ∧ 0 ≤ b ∧ ∃ j : Nat, E[j]? = some (1, b)) ∨ PrecE E a b
 | [], d => by
  constructor
  · intro h; cases h
  · rintro (⟨_, _, j, h⟩ | ⟨i, j, _, h, _⟩) <;> simp at h
 | (k, v) :: E, d => by
  have ih := precB_iff a b E
  unfold precB
  by_cases h0 : v < 0
  · rw [if_pos h0, ih]
    constructor
    · rintro (⟨h1, hb, j, h2⟩ | ⟨i, j, h1, h2, h3, h4⟩)
      · exact .inl ⟨h1, hb, j + 1, h2⟩
      · exact .inr ⟨i + 1, j + 1, by omega, h2, h3, h4⟩
    · rintro (⟨h1, hb, j, h2⟩ | ⟨i, j, h1, h2, h3, h4, h5⟩)
      · cases j with
        | zero => injection h2 with h2; injection h2 with _ h2; omega
        | succ j => exact .inl ⟨h1, hb, j, h2⟩
      · cases j with
        | zero => omega
        | succ j =>
         cases i with
         | zero => injection h2 with h2; injection h2 with _ h2; omega
         | succ i => exact .inr ⟨i, j, by omega, h2, h3, h4, h5⟩
  · rw [if_neg h0]
    by_cases h3 : k = 3 ∧ v = a
    · rw [if_pos h3, ih]
      obtain ⟨rfl, rfl⟩ := h3
      constructor
      · rintro (⟨_, hb, j, h2⟩ | ⟨i, j, h1, h2, h3, h4⟩)
        · exact .inr ⟨0, j + 1, by omega, rfl, h2, by omega, hb⟩
        · exact .inr ⟨i + 1, j + 1, by omega, h2, h3, h4⟩
      · rintro (⟨h1, hb, j, h2⟩ | ⟨i, j, h1, h2, h3, h4, h5⟩)
        · cases j with
          | zero => injection h2 with h2; injection h2 with h2 _; omega
          | succ j => exact .inl ⟨rfl, hb, j, h2⟩
        · cases j with
          | zero => omega
          | succ j => exact .inl ⟨rfl, h5, j, h3⟩
    · rw [if_neg h3]
      by_cases h1 : k = 1 ∧ v = b ∧ d = true
      · rw [if_pos h1]
        obtain ⟨rfl, rfl, rfl⟩ := h1
        exact ⟨fun _ => .inl ⟨rfl, by omega, 0, rfl⟩, fun _ => rfl⟩
      · rw [if_neg h1, ih]
        constructor
        · rintro (⟨h1, hb, j, h2⟩ | ⟨i, j, h1, h2, h3, h4⟩)
          · exact .inl ⟨h1, hb, j + 1, h2⟩
          · exact .inr ⟨i + 1, j + 1, by omega, h2, h3, h4⟩
        · rintro (⟨h4, hb, j, h2⟩ | ⟨i, j, h4, h2, h5, h6, h7⟩)
          · cases j with
            | zero => injection h2 with h2; injection h2 with h2 h8; exact absurd ⟨h2, h8, h4⟩ h1
            | succ j => exact .inl ⟨h4, hb, j, h2⟩
          · cases j with
            | zero => omega
            | succ j =>
             cases i with
             | zero => injection h2 with h2; injection h2 with h2 h8; exact absurd ⟨h2, h8⟩ h3
             | succ i => exact .inr ⟨i, j, by omega, h2, h5, h6, h7⟩
def precL (a b : Int) (l : List (Int × Int)) : Bool := precB a b false (kn l)
theorem precL_iff (a b : Int) (l : List (Int × Int)) : precL a b l = true ↔ PrecE (kn l) a b := by
 unfold precL
 rw [precB_iff]
 simp
section
variable {s : NS} {E : List (Int × Int)} {x y z : Int}
theorem prec_irr (h : NOk s E) : ¬ PrecE E x x := fun ⟨i, j, h1, h2, h3, h4, _⟩ => by
 have := h.over i j _ _ h2 h4 h3
 omega
theorem prec_asym (h : NOk s E) : PrecE E x y → ¬ PrecE E y x := fun ⟨i, j, h1, h2, h3, h4, h5⟩ ⟨i', j', g1, g2, g3, _, _⟩ => by
 have a := h.over i j' _ _ h2 h4 g3
 have b := h.over i' j _ _ g2 h5 h3
 omega
theorem prec_trans (h : NOk s E) : PrecE E x y → PrecE E y z → PrecE E x z := fun ⟨i, j, h1, h2, h3, h4, h5⟩ ⟨i', j', g1, g2, g3, g4, g5⟩ => by
 have b := h.over i' j _ _ g2 h5 h3
 exact ⟨i, j', by omega, h2, g3, h4, g5⟩
end
def thoseL (k : Int) (E : List (Int × Int)) : List Int := E.filterMap fun e => if e.1 = k ∧ 0 ≤ e.2 then some e.2 else none
theorem those_mem {k v : Int} {E : List (Int × Int)} : v ∈ thoseL k E ↔ 0 ≤ v ∧ ∃ i : Nat, E[i]? = some (k, v) := by
 unfold thoseL
 rw [List.mem_filterMap]
 constructor
 · rintro ⟨⟨k', v'⟩, h1, h2⟩
   dsimp only at h2
   split at h2
   · rename_i h
     obtain ⟨rfl, h3⟩ := h
     cases h2
     exact ⟨h3, List.mem_iff_getElem?.1 h1⟩
   · cases h2
 · rintro ⟨h0, i, h⟩
   exact ⟨(k, v), List.mem_of_getElem? h, by simp [h0]⟩
def placeL (n : Int) (l : List Int) : Nat := l.findIdx fun x => x == n
theorem place_lt {n : Int} {l : List Int} : placeL n l < l.length ↔ n ∈ l := by
 unfold placeL
 rw [List.findIdx_lt_length]
 constructor
 · rintro ⟨x, h1, h2⟩
   have : x = n := by simpa using h2
   exact this ▸ h1
 · intro h
   exact ⟨n, h, by simp⟩
theorem order_place {s : NS} {E : List (Int × Int)} {x y : Int} (h : NOk s E) (hp : PrecE E x y) (hx : x ∈ thoseL 2 E) (_hy : y ∈ thoseL 2 E) : placeL x (thoseL 2 E) < placeL y (thoseL 2 E) := by
 obtain ⟨i, j, h1, h2, h3, h4, h5⟩ := hp
 have e : thoseL 2 E = thoseL 2 (E.take i) ++ thoseL 2 (E.drop i) := by
  unfold thoseL
  rw [← List.filterMap_append, List.take_append_drop]
 have hx1 : x ∈ thoseL 2 (E.take i) := by
  obtain ⟨_, p, hp⟩ := those_mem.1 hx
  have hle := h.over i p _ _ h2 h4 hp
  have hne : p ≠ i := fun e => by
   rw [e, h2] at hp
   injection hp with hp
   injection hp with hp _
   omega
  exact those_mem.2 ⟨h4, p, by rw [List.getElem?_take_of_lt (by omega)]; exact hp⟩
 have hy1 : y ∉ thoseL 2 (E.take i) := fun hm => by
  obtain ⟨_, p, hp⟩ := those_mem.1 hm
  have hpi : p < i := by
   have := get_lt hp
   rw [List.length_take] at this
   omega
  rw [List.getElem?_take_of_lt hpi] at hp
  obtain ⟨b, b1, b2⟩ := h.has p _ _ hp h5
  have := h.beg b j y b2 h3
  omega
 have a1 : placeL x (thoseL 2 E) < (thoseL 2 (E.take i)).length := by
  unfold placeL
  rw [e, List.findIdx_append]
  have h9 := place_lt.2 hx1
  unfold placeL at h9
  rw [if_pos h9]
  exact h9
 have a2 : (thoseL 2 (E.take i)).length ≤ placeL y (thoseL 2 E) := by
  unfold placeL
  rw [e, List.findIdx_append]
  have h9 : ¬ List.findIdx (fun x => x == y) (thoseL 2 (E.take i)) < (thoseL 2 (E.take i)).length := fun c => hy1 (place_lt.1 c)
  rw [if_neg h9]
  omega
 omega
def pendL (E : List (Int × Int)) : List Int := (thoseL 1 E).filter fun k => !(thoseL 3 E).contains k
theorem pend_prec {E : List (Int × Int)} {x y : Int} (h : x ∈ pendL E) : ¬ PrecE E x y := fun ⟨i, _, _, h2, _, h4, _⟩ => by
 unfold pendL at h
 rw [List.mem_filter] at h
 have h3 : x ∈ thoseL 3 E := those_mem.2 ⟨h4, i, h2⟩
 have := h.2
 simp at this
 exact this h3
end
end Go.Proofs.YtpcnolkdnmolgaaGreatDoor
