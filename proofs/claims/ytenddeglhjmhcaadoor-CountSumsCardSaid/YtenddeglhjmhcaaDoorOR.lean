/- Drawn regions (XRJ, the head of XRK, XBR, XBZ in one text, for seats without the tree). -/
import Derived.Test.YtenddeglhjmhcaaDoorRA
import Derived.Orders
import Derived.OrdersHeld
import Derived.Deep.RegionHeld3
namespace Go.Proofs.YtenddeglhjmhcaaDoor
open Go.RowKit
theorem ptrans {a b c : World} (h : Below a.heap.size a b) (k : Below b.heap.size b c) : Below a.heap.size a c := h.trans (k.mono h.size)
end Go.Proofs.YtenddeglhjmhcaaDoor

namespace Go.Proofs.YtenddeglhjmhcaaDoor
open Go.RowKit

def putAll : List Oper → Nat → (Nat → Value) → Act → Act
  | [], _, _, a => a
  | o :: l, i, vs, a => putAll l (i + 1) vs (a.put o.dst (vs i))
def AllOps (G : Nat → Oper → Prop) : Nat → List Oper → Prop
  | _, [] => True
  | i, o :: l => G i o ∧ AllOps G (i + 1) l
theorem AllOps.get {G : Nat → Oper → Prop} : ∀ {l : List Oper} {i : Nat}, AllOps G i l → ∀ {k : Nat} {o : Oper}, l[k]? = some o → G (i + k) o
  | [], _, _, _, _, h => by simp at h
  | x :: l, i, h, 0, o, hk => by simp at hk; subst hk; exact h.1
  | x :: l, i, h, k + 1, o, hk => by
    have := AllOps.get (l := l) h.2 (k := k) (o := o) (by simpa using hk)
    rwa [show i + (k + 1) = i + 1 + k by omega]

def slot (a : Act) (k : Nat) : Value := a.tmps.getD k undef
theorem slot_put (a : Act) (d : Option Tmp) (v : Value) (k : Nat) : slot (a.put d v) k = if d = some k ∧ k < a.tmps.size then v else slot a k := by
  unfold slot
  cases d with
  | none => simp [Act.put]
  | some d =>
    simp only [Act.put, Option.some.injEq]
    by_cases h : d = k
    · subst h
      by_cases hk : d < a.tmps.size
      · simp [hk, Array.getD]
      · simp [hk, Array.getD]
    · simp only [h, false_and, if_false]
      rw [Array.getD_eq_getD_getElem?, Array.getD_eq_getD_getElem?, Array.getElem?_setIfInBounds_ne h]
theorem size_put (a : Act) (d : Option Tmp) (v : Value) : (a.put d v).tmps.size = a.tmps.size := by cases d <;> simp [Act.put]
theorem defers_put (a : Act) (d : Option Tmp) (v : Value) : (a.put d v).defers = a.defers := by cases d <;> simp [Act.put]
theorem putAll_size : ∀ (l : List Oper) (i : Nat) (vs : Nat → Value) (a : Act), (putAll l i vs a).tmps.size = a.tmps.size ∧ (putAll l i vs a).defers = a.defers
  | [], _, _, _ => ⟨rfl, rfl⟩
  | o :: l, i, vs, a => by
    obtain ⟨h1, h2⟩ := putAll_size l (i + 1) vs (a.put o.dst (vs i))
    exact ⟨h1.trans (size_put _ _ _), h2.trans (defers_put _ _ _)⟩
theorem putAll_other : ∀ (l : List Oper) (i : Nat) (vs : Nat → Value) (a : Act) (k : Nat), (∀ o ∈ l, o.dst ≠ some k) → slot (putAll l i vs a) k = slot a k
  | [], _, _, _, _, _ => rfl
  | o :: l, i, vs, a, k, h => by
    show slot (putAll l (i + 1) vs (a.put o.dst (vs i))) k = _
    rw [putAll_other l (i + 1) vs _ k (fun o' ho => h o' (List.mem_cons_of_mem _ ho)), slot_put, if_neg (fun hh => h o (by simp) hh.1)]
theorem putAll_dst : ∀ (l : List Oper) (i : Nat) (vs : Nat → Value) (a : Act) (j : Nat) (o : Oper) (k : Nat), l[j]? = some o → o.dst = some k → k < a.tmps.size →
    (∀ j' o', l[j']? = some o' → o'.dst = some k → j' = j) → slot (putAll l i vs a) k = vs (i + j)
  | [], _, _, _, _, _, _, h, _, _, _ => by simp at h
  | x :: l, i, vs, a, 0, o, k, h, hd, hk, hu => by
    simp at h; subst h
    show slot (putAll l (i + 1) vs (a.put x.dst (vs i))) k = _
    rw [putAll_other l (i + 1) vs _ k (fun o' ho e => by
      obtain ⟨j', hj', rfl⟩ := List.getElem_of_mem ho
      have := hu (j' + 1) l[j'] (by simp [hj']) e
      omega), slot_put, if_pos ⟨hd, hk⟩]
    rfl
  | x :: l, i, vs, a, j + 1, o, k, h, hd, hk, hu => by
    show slot (putAll l (i + 1) vs (a.put x.dst (vs i))) k = _
    rw [putAll_dst l (i + 1) vs _ j o k (by simpa using h) hd (by rw [size_put]; exact hk) (fun j' o' h1 h2 => by
      have := hu (j' + 1) o' (by simpa using h1) h2
      omega)]
    rw [show i + 1 + j = i + (j + 1) by omega]
theorem act_ext {a b : Act} (h1 : a.tmps.size = b.tmps.size) (h2 : a.defers = b.defers) (h3 : ∀ k, slot a k = slot b k) : a = b := by
  cases a with | mk ta da => cases b with | mk tb db =>
  have e2 : da = db := h2
  subst e2
  have : ta = tb := by
    refine Array.ext h1 fun i hi hi' => ?_
    have := h3 i
    simp only [slot, Array.getD, hi, hi', dif_pos] at this
    exact this
  rw [this]

section
variable {Q : Exit → Act → World → Prop}
/-- What one operation is to do: from a state in which those that it waits for have done theirs. -/
def OpDoes (ops : Array Oper) (a0 : Act) (w0 : World) (Φ : Nat → Value → World → Prop) (Q : Exit → Act → World → Prop) (i : Nat) (o : Oper) : Prop :=
  o.guard = none ∧ ∀ a W, Below w0.heap.size w0 W → (∀ k, (ops.toList.all fun o => o.dst != some k) = true → a.eval (.tmp k) = slot a0 k) →
    (∀ e ∈ o.after, Region.binds .any e = true → ∀ oe d, ops[e.on]? = some oe → oe.dst = some d → Φ e.on (a.eval (.tmp d)) W) →
    ∀ K : Act → World → Prop, (∀ v W', Below W.heap.size W W' → Φ i v W' → K (a.put o.dst v) W') → o.wp Tryd.prog a W K Q

/-- The Bools of a region's form. -/
def regionOk (ops : Array Oper) (n : Nat) : Bool :=
  (List.range ops.size).all fun i => match ops[i]? with
    | none => true
    | some o => (o.after.toList.all fun e => !Region.binds .any e || decide (e.on < i)) && (match o.dst with | some d => decide (d < n) | none => true) &&
      (List.range ops.size).all fun j => match ops[j]? with
        | none => true
        | some o' => o.dst.isNone || o.dst != o'.dst || i == j
theorem regionOk_spec {ops : Array Oper} {n : Nat} (h : regionOk ops n = true) {i : Nat} {o : Oper} (hi : ops[i]? = some o) :
    (∀ e ∈ o.after, Region.binds .any e = true → e.on < i) ∧ (∀ d, o.dst = some d → d < n) ∧ ∀ j o' d, ops[j]? = some o' → o.dst = some d → o'.dst = some d → i = j := by
  unfold regionOk at h
  rw [List.all_eq_true] at h
  have hil : i < ops.size := (Array.getElem?_eq_some_iff.1 hi).1
  have h1 := h i (List.mem_range.2 hil)
  simp only [hi, Bool.and_eq_true, List.all_eq_true] at h1
  obtain ⟨⟨ha, hb⟩, hc⟩ := h1
  refine ⟨fun e he hbd => by simpa [hbd] using ha e (by simpa using he), fun d hd => by simpa [hd] using hb, fun j o' d hj hd hd' => ?_⟩
  have hjl : j < ops.size := (Array.getElem?_eq_some_iff.1 hj).1
  have h2 := hc j (List.mem_range.2 hjl)
  simp only [hj, hd, hd', Option.isNone_some, bne_self_eq_false, Bool.false_or, beq_iff_eq] at h2
  simpa using h2

def unlisted (listed : Array Bool) : Nat := listed.toList.countP (fun b => !b)
theorem unlisted_set {listed : Array Bool} {i : Nat} (hi : listed.getD i true = false) : unlisted (listed.setIfInBounds i true) + 1 = unlisted listed := by
  have hlt : i < listed.size := by
    by_cases h : i < listed.size
    · exact h
    · simp [Array.getD, h] at hi
  have hv : listed.toList[i]'(by simpa using hlt) = false := by simpa [Array.getD, hlt] using hi
  unfold unlisted
  rw [Array.toList_setIfInBounds]
  have := List.countP_set (p := fun b => !b) (l := listed.toList) (i := i) (a := true) (by simpa using hlt)
  rw [this]
  have e1 : ∀ b : Bool, b = false → (if (!b) = true then 1 else 0) = 1 := fun b hb => by rw [hb]; rfl
  have hpos : 0 < listed.toList.countP (fun b => !b) := List.countP_pos_iff.2 ⟨false, by rw [← hv]; exact List.getElem_mem _, rfl⟩
  have e2 := e1 _ hv
  have e3 : (if (!true) = true then 1 else 0) = 0 := rfl
  omega

theorem wp_region_all {ops : Array Oper} {id : Nat} {a0 : Act} {w0 : World} (Φ : Nat → Value → World → Prop)
    (hm : Tryd.prog.follows .mixedOrders = true) (hok : regionOk ops a0.tmps.size = true)
    (hmono : ∀ i v W W', Φ i v W → Below W.heap.size W W' → Φ i v W')
    (hops : AllOps (OpDoes ops a0 w0 Φ Q) 0 ops.toList)
    (hend : ∀ (vs : Nat → Value) W, Below w0.heap.size w0 W → (∀ i, i < ops.size → (ops[i]?.bind (·.dst)).isSome = true → Φ i (vs i) W) → Q .normal (putAll ops.toList 0 vs a0) W) :
    (Code.region id ops true).wp Tryd.prog Q a0 w0 := by
  -- what holds on the way
  let Inv : Array Bool → Act → World → Prop := fun listed a W => Below w0.heap.size w0 W ∧ a.defers = a0.defers ∧ a.tmps.size = a0.tmps.size ∧
    (∀ k, (∀ j o, ops[j]? = some o → o.dst = some k → listed.getD j false = false) → slot a k = slot a0 k) ∧
    (∀ i o d, ops[i]? = some o → listed.getD i false = true → o.dst = some d → Φ i (slot a d) W) ∧ listed.size = ops.size
  have getD_set : ∀ (listed : Array Bool) (i j : Nat), i < listed.size → (listed.setIfInBounds i true).getD j false = if j = i then true else listed.getD j false := fun listed i j hi => by
    by_cases hji : j = i
    · subst hji; simp [Array.getD, hi]
    · rw [if_neg hji, Array.getD_eq_getD_getElem?, Array.getD_eq_getD_getElem?, Array.getElem?_setIfInBounds_ne (fun e => hji e.symm)]
  have main : ∀ (fuel : Nat) (listed : Array Bool) (a : Act) (W : World), unlisted listed ≤ fuel → Inv listed a W → wpAny Tryd.prog .any ops Q fuel listed a W := by
    have done : ∀ (listed : Array Bool) (a : Act) (W : World), Inv listed a W → Region.ready .any ops listed = [] → Q .normal a W := by
      intro listed a W ⟨hB, hdf, hsz, hoth, hphi, hls⟩ hr
      have all : ∀ i, i < ops.size → listed.getD i false = true := by
        intro i
        induction i using Nat.strongRecOn with
        | _ i ih =>
          intro hi
          cases hl : listed.getD i false with
          | true => rfl
          | false =>
            exfalso
            have : i ∈ Region.ready .any ops listed := mem_ready.2 ⟨by rw [← hl]; simp [Array.getD, hls, hi], ops[i], Array.getElem?_eq_getElem hi, fun e he hbd => by
              have := (regionOk_spec hok (Array.getElem?_eq_getElem hi)).1 e he hbd
              exact ih e.on this (by omega)⟩
            rw [hr] at this
            cases this
      let vs : Nat → Value := fun i => match ops[i]?.bind (·.dst) with | some d => slot a d | none => undef
      have hq := hend vs W hB (fun i hi hs => by
        cases ho : ops[i]? with
        | none => simp [ho] at hs
        | some o =>
          cases hd : o.dst with
          | none => simp [ho, hd] at hs
          | some d =>
            have := hphi i o d ho (all i hi) hd
            simpa [vs, ho, hd] using this)
      have he : putAll ops.toList 0 vs a0 = a := by
        obtain ⟨p1, p2⟩ := putAll_size ops.toList 0 vs a0
        refine act_ext (p1.trans hsz.symm) (p2.trans hdf.symm) fun k => ?_
        by_cases hk : ∃ j : Nat, ∃ o, ops[j]? = some o ∧ o.dst = some k
        · obtain ⟨j, o, hj, hd⟩ := hk
          obtain ⟨_, hin, huniq⟩ := regionOk_spec hok hj
          rw [putAll_dst ops.toList 0 vs a0 j o k (by simpa using hj) hd (hin k hd) (fun j' o' h1 h2 => (huniq j' o' k (by simpa using h1) hd h2).symm)]
          simp [vs, hj, hd]
        · rw [putAll_other _ _ _ _ _ (fun o ho e => by
            obtain ⟨j, hj, rfl⟩ := List.getElem_of_mem ho
            exact hk ⟨j, ops.toList[j], by simp, e⟩)]
          exact (hoth k (fun j o hj hd => absurd ⟨j, o, hj, hd⟩ hk)).symm
      rw [← he]; exact hq
    have step : ∀ (listed : Array Bool) (a : Act) (W : World), Inv listed a W → ∀ i ∈ Region.ready .any ops listed, ∀ K : Act → World → Prop, (∀ a' W', Inv (listed.setIfInBounds i true) a' W' → K a' W') → wpOp Tryd.prog ops Q i K a W := by
      intro listed a W ⟨hB, hdf, hsz, hoth, hphi, hls⟩ i hi K hK
      obtain ⟨hun, o, ho, haft⟩ := mem_ready.1 hi
      have hil : i < ops.size := (Array.getElem?_eq_some_iff.1 ho).1
      obtain ⟨hg, hdo⟩ := hops.get (k := i) (o := o) (by simpa using ho)
      obtain ⟨hback, hin, huniq⟩ := regionOk_spec hok ho
      unfold wpOp
      rw [ho]
      simp only [Region.wanted, hg, if_true]
      left
      have hun' : listed.getD i false = false := by
        cases hh : listed.getD i false with
        | false => rfl
        | true => simp [Array.getD, hls, hil] at hun hh; rw [hun] at hh; cases hh
      refine hdo a W hB (fun k hk => ?_) (fun e he hb oe d hoe hd => hphi e.on oe d hoe (haft e he hb) hd) K (fun v W' hbW hv => hK _ _ ⟨ptrans hB hbW, (defers_put _ _ _).trans hdf, (size_put _ _ _).trans hsz, fun k hk => ?_, fun j oj d hj hlj hd => ?_, by simpa using hls⟩)
      · rw [List.all_eq_true] at hk
        exact hoth k (fun j oj hj hd => by
          have := hk oj (List.mem_of_getElem? (i := j) (by simpa using hj))
          rw [hd] at this; simp at this)
      · have hne : ¬ o.dst = some k := fun e => by
          have := hk i o ho e
          rw [getD_set listed i i (by omega), if_pos rfl] at this
          cases this
        rw [slot_put, if_neg (fun hh => hne hh.1)]
        refine hoth k (fun j oj hj hd => ?_)
        have := hk j oj hj hd
        rw [getD_set listed i j (by omega)] at this
        by_cases hji : j = i
        · subst hji; rw [ho] at hj; cases hj; exact absurd hd hne
        · rwa [if_neg hji] at this
      · rw [getD_set listed i j (by omega)] at hlj
        by_cases hji : j = i
        · subst hji
          rw [ho] at hj; cases hj
          rw [slot_put, if_pos ⟨hd, by rw [hsz]; exact hin d hd⟩]
          rw [show 0 + j = j by omega] at hv
          exact hv
        · rw [if_neg hji] at hlj
          have hne : ¬ o.dst = some d := fun e => hji (huniq j oj d hj e hd).symm
          rw [slot_put, if_neg (fun hh => hne hh.1)]
          exact hmono j _ W W' (hphi j oj d hj hlj hd) hbW
    intro fuel
    induction fuel with
    | zero =>
      intro listed a W hf hI
      have hr : Region.ready .any ops listed = [] := by
        cases hr : Region.ready .any ops listed with
        | nil => rfl
        | cons i l =>
          exfalso
          have hi : i ∈ Region.ready .any ops listed := by rw [hr]; simp
          have := unlisted_set (mem_ready.1 hi).1
          omega
      exact ⟨hr, done listed a W hI hr⟩
    | succ fuel ih =>
      intro listed a W hf hI
      refine ⟨done listed a W hI, fun i hi => step listed a W hI i hi _ (fun a' W' hI' => ih _ a' W' ?_ hI')⟩
      have := unlisted_set (mem_ready.1 hi).1
      omega
  refine wp_region_any hm (main _ _ _ _ ?_ ?_)
  · unfold unlisted
    rw [Array.toList_replicate, List.countP_replicate]
    split <;> omega
  · refine ⟨⟨rfl, rfl, rfl, Nat.le_refl _, fun _ _ => rfl⟩, rfl, rfl, fun _ _ => rfl, fun i o d ho hl _ => ?_, by simp⟩
    have hil : i < ops.size := (Array.getElem?_eq_some_iff.1 ho).1
    simp [Array.getD, hil] at hl
/-- The Bools of a region whose operations from m on come last, in their order. -/
def frontOk (ops : Array Oper) (m : Nat) : Bool :=
  decide (m ≤ ops.size) &&
  ((List.range m).all fun i => (List.range (m + 1)).any fun k => decide (i < k) && match ops[k]? with | some o => o.after.toList.any (fun e => e.on == i && Region.binds .any e) | none => false) &&
  (List.range ops.size).all fun j => decide (j ≤ m) || match ops[j]? with | some o => o.after.toList.any (fun e => e.on == j - 1 && Region.binds .any e) | none => false
theorem frontOk_spec {ops : Array Oper} {m : Nat} (h : frontOk ops m = true) : m ≤ ops.size ∧
    (∀ i, i < m → ∃ k, i < k ∧ k ≤ m ∧ ∃ o, ops[k]? = some o ∧ ∃ e ∈ o.after, e.on = i ∧ Region.binds .any e = true) ∧
    (∀ j o, m < j → ops[j]? = some o → ∃ e ∈ o.after, e.on = j - 1 ∧ Region.binds .any e = true) := by
  unfold frontOk at h
  simp only [Bool.and_eq_true, List.all_eq_true, decide_eq_true_eq] at h
  obtain ⟨⟨h1, h2⟩, h3⟩ := h
  refine ⟨h1, fun i hi => ?_, fun j o hj ho => ?_⟩
  · have := h2 i (List.mem_range.2 hi)
    rw [List.any_eq_true] at this
    obtain ⟨k, hk, hk2⟩ := this
    have hkm := List.mem_range.1 hk
    rw [Bool.and_eq_true] at hk2
    obtain ⟨a, b⟩ := hk2
    cases ho : ops[k]? with
    | none => rw [ho] at b; simp at b
    | some o =>
      rw [ho] at b
      simp only [List.any_eq_true, Bool.and_eq_true, beq_iff_eq] at b
      obtain ⟨e, he, q1, q2⟩ := b
      exact ⟨k, by simpa using a, by omega, o, ho, e, by simpa using he, q1, q2⟩
  · have := h3 j (List.mem_range.2 (Array.getElem?_eq_some_iff.1 ho).1)
    rw [ho] at this
    simp only [Bool.or_eq_true, decide_eq_true_eq, List.any_eq_true, Bool.and_eq_true, beq_iff_eq] at this
    rcases this with h | ⟨e, he, q1, q2⟩
    · omega
    · exact ⟨e, by simpa using he, q1, q2⟩
def frontL (m n : Nat) : Array Bool := ((List.range n).map fun i => decide (i < m)).toArray
/-- The last ones, one behind the other. -/
theorem wpAny_one {ops : Array Oper} {listed : Array Bool} {fuel i : Nat} {o : Oper} {a : Act} {W : World} (hr : Region.ready .any ops listed = [i]) (ho : ops[i]? = some o) (hg : o.guard = none)
    (h : ∀ K : Act → World → Prop, (∀ a' W', wpAny Tryd.prog .any ops Q fuel (listed.setIfInBounds i true) a' W' → K a' W') → o.wp Tryd.prog a W K Q) : wpAny Tryd.prog .any ops Q (fuel + 1) listed a W := by
  refine ⟨fun h0 => (by rw [hr] at h0; cases h0), fun j hj => ?_⟩
  rw [hr] at hj
  simp only [List.mem_singleton] at hj
  subst hj
  unfold wpOp
  rw [ho]
  simp only [Region.wanted, hg, if_true]
  exact .inl (h _ (fun _ _ h => h))
theorem wpAny_end {ops : Array Oper} {listed : Array Bool} {a : Act} {W : World} (hr : Region.ready .any ops listed = []) (h : Q .normal a W) : wpAny Tryd.prog .any ops Q 0 listed a W := ⟨hr, h⟩

theorem wp_region_front {ops : Array Oper} {id : Nat} {a0 : Act} {w0 : World} (m : Nat) (Φ : Nat → Value → World → Prop)
    (hm : Tryd.prog.follows .mixedOrders = true) (hok : regionOk ops a0.tmps.size = true) (hfr : frontOk ops m = true)
    (hmono : ∀ i v W W', Φ i v W → Below W.heap.size W W' → Φ i v W')
    (hops : AllOps (OpDoes ops a0 w0 Φ Q) 0 (ops.toList.take m))
    (hend : ∀ (vs : Nat → Value) W, Below w0.heap.size w0 W → (∀ i, i < m → (ops[i]?.bind (·.dst)).isSome = true → Φ i (vs i) W) → wpAny Tryd.prog .any ops Q (ops.size - m) (frontL m ops.size) (putAll (ops.toList.take m) 0 vs a0) W) :
    (Code.region id ops true).wp Tryd.prog Q a0 w0 := by
  obtain ⟨fm, f1, f2⟩ := frontOk_spec hfr
  let Inv : Array Bool → Act → World → Prop := fun listed a W => Below w0.heap.size w0 W ∧ a.defers = a0.defers ∧ a.tmps.size = a0.tmps.size ∧
    (∀ k, (∀ j o, ops[j]? = some o → o.dst = some k → listed.getD j false = false) → slot a k = slot a0 k) ∧
    (∀ i o d, ops[i]? = some o → listed.getD i false = true → o.dst = some d → Φ i (slot a d) W) ∧ listed.size = ops.size ∧
    (∀ j, m ≤ j → listed.getD j false = false) ∧ (∀ i o, ops[i]? = some o → listed.getD i false = true → ∀ e ∈ o.after, Region.binds .any e = true → listed.getD e.on false = true)
  have getD_set : ∀ (listed : Array Bool) (i j : Nat), i < listed.size → (listed.setIfInBounds i true).getD j false = if j = i then true else listed.getD j false := fun listed i j hi => by
    by_cases hji : j = i
    · subst hji; simp [Array.getD, hi]
    · rw [if_neg hji, Array.getD_eq_getD_getElem?, Array.getD_eq_getD_getElem?, Array.getElem?_setIfInBounds_ne (fun e => hji e.symm)]
  have done : ∀ (listed : Array Bool) (a : Act) (W : World), Inv listed a W → (∀ i, i < m → listed.getD i false = true) → ∀ fuel, fuel = unlisted listed → wpAny Tryd.prog .any ops Q fuel listed a W := by
    intro listed a W ⟨hB, hdf, hsz, hoth, hphi, hls, hlate, _⟩ all fuel hfuel
    have hle : listed = frontL m ops.size := by
      refine Array.ext (by simp [frontL, hls]) fun i hi hi' => ?_
      have h2 : listed.getD i false = listed[i] := by simp [Array.getD, hi]
      rw [← h2]
      by_cases him : i < m
      · rw [all i him]; simp [frontL, him]
      · rw [hlate i (by omega)]; simp [frontL, him]
    have hun : unlisted listed = ops.size - m := by
      rw [hle]
      unfold unlisted frontL
      rw [List.toList_toArray, List.countP_map]
      have : ∀ n, List.countP ((fun b => !b) ∘ fun i => decide (i < m)) (List.range n) = n - m := by
        intro n
        induction n with
        | zero => simp
        | succ n ih =>
          rw [List.range_succ, List.countP_append, ih]
          by_cases hnm : n < m
          · simp [hnm]; omega
          · simp [hnm]; omega
      exact this _
    let vs : Nat → Value := fun i => match ops[i]?.bind (·.dst) with | some d => slot a d | none => undef
    have hq := hend vs W hB (fun i hi hs => by
      cases ho : ops[i]? with
      | none => simp [ho] at hs
      | some o =>
        cases hd : o.dst with
        | none => simp [ho, hd] at hs
        | some d =>
          have := hphi i o d ho (all i hi) hd
          simpa [vs, ho, hd] using this)
    have he : putAll (ops.toList.take m) 0 vs a0 = a := by
      obtain ⟨p1, p2⟩ := putAll_size (ops.toList.take m) 0 vs a0
      refine act_ext (p1.trans hsz.symm) (p2.trans hdf.symm) fun k => ?_
      have tk : ∀ j o, (ops.toList.take m)[j]? = some o → j < m ∧ ops[j]? = some o := fun j o h => by
        rw [List.getElem?_take] at h
        split at h
        · exact ⟨by assumption, by simpa using h⟩
        · cases h
      by_cases hk : ∃ j : Nat, ∃ o, j < m ∧ ops[j]? = some o ∧ o.dst = some k
      · obtain ⟨j, o, hjm, hj, hd⟩ := hk
        obtain ⟨_, hin, huniq⟩ := regionOk_spec hok hj
        rw [putAll_dst (ops.toList.take m) 0 vs a0 j o k (by rw [List.getElem?_take, if_pos hjm]; simpa using hj) hd (hin k hd) (fun j' o' h1 h2 => (huniq j' o' k (tk j' o' h1).2 hd h2).symm)]
        simp [vs, hj, hd]
      · rw [putAll_other _ _ _ _ _ (fun o ho e => by
          obtain ⟨j, hj⟩ := List.getElem?_of_mem ho
          obtain ⟨q1, q2⟩ := tk j o hj
          exact hk ⟨j, o, q1, q2, e⟩)]
        exact (hoth k (fun j o hj hd => by
          by_cases hjm : j < m
          · exact absurd ⟨j, o, hjm, hj, hd⟩ hk
          · exact hlate j (by omega))).symm
    rw [hfuel, hun, hle, ← he]; exact hq
  have early : ∀ (listed : Array Bool) (a : Act) (W : World), Inv listed a W → (¬ ∀ i, i < m → listed.getD i false = true) → ∀ i ∈ Region.ready .any ops listed, i < m := by
    intro listed a W ⟨_, _, _, _, _, _, hlate, hcl⟩ hnot i hi
    obtain ⟨_, o, ho, haft⟩ := mem_ready.1 hi
    refine Decidable.byContradiction fun him => hnot ?_
    by_cases hie : i = m
    · subst hie
      -- all ahead are listed
      have : ∀ d, ∀ j, j + d = i → j < i → listed.getD j false = true := by
        intro d
        induction d using Nat.strongRecOn with
        | _ d ih =>
          intro j hjd hj
          obtain ⟨k, k1, k2, ok, hok', e, he, e1, e2⟩ := f1 j hj
          by_cases hki : k = i
          · subst hki
            rw [ho] at hok'; cases hok'
            have := haft e he e2
            rwa [e1] at this
          · have hk := ih (i - k) (by omega) k (by omega) (by omega)
            have := hcl k ok hok' hk e he e2
            rwa [e1] at this
      exact fun j hj => this (i - j) j (by omega) hj
    · exfalso
      obtain ⟨e, he, e1, e2⟩ := f2 i o (by omega) ho
      have := haft e he e2
      rw [e1, hlate (i - 1) (by omega)] at this
      cases this
  have main : ∀ (fuel : Nat) (listed : Array Bool) (a : Act) (W : World), fuel = unlisted listed → Inv listed a W → wpAny Tryd.prog .any ops Q fuel listed a W := by
    have step : ∀ (listed : Array Bool) (a : Act) (W : World), Inv listed a W → ∀ i ∈ Region.ready .any ops listed, i < m → ∀ K : Act → World → Prop, (∀ a' W', Inv (listed.setIfInBounds i true) a' W' → K a' W') → wpOp Tryd.prog ops Q i K a W := by
      intro listed a W ⟨hB, hdf, hsz, hoth, hphi, hls, hlate, hcl⟩ i hi him K hK
      obtain ⟨hun, o, ho, haft⟩ := mem_ready.1 hi
      have hil : i < ops.size := (Array.getElem?_eq_some_iff.1 ho).1
      obtain ⟨hg, hdo⟩ := hops.get (k := i) (o := o) (by rw [List.getElem?_take, if_pos him]; simpa using ho)
      obtain ⟨hback, hin, huniq⟩ := regionOk_spec hok ho
      unfold wpOp
      rw [ho]
      simp only [Region.wanted, hg, if_true]
      left
      refine hdo a W hB (fun k hk => ?_) (fun e he hb oe d hoe hd => hphi e.on oe d hoe (haft e he hb) hd) K (fun v W' hbW hv => hK _ _ ⟨ptrans hB hbW, (defers_put _ _ _).trans hdf, (size_put _ _ _).trans hsz, fun k hk => ?_, fun j oj d hj hlj hd => ?_, by simpa using hls, fun j hj => ?_, fun j oj hj hlj e he hb => ?_⟩)
      · rw [List.all_eq_true] at hk
        exact hoth k (fun j oj hj hd => by
          have := hk oj (List.mem_of_getElem? (i := j) (by simpa using hj))
          rw [hd] at this; simp at this)
      · have hne : ¬ o.dst = some k := fun e => by
          have := hk i o ho e
          rw [getD_set listed i i (by omega), if_pos rfl] at this
          cases this
        rw [slot_put, if_neg (fun hh => hne hh.1)]
        refine hoth k (fun j oj hj hd => ?_)
        have := hk j oj hj hd
        rw [getD_set listed i j (by omega)] at this
        by_cases hji : j = i
        · subst hji; rw [ho] at hj; cases hj; exact absurd hd hne
        · rwa [if_neg hji] at this
      · rw [getD_set listed i j (by omega)] at hlj
        by_cases hji : j = i
        · subst hji
          rw [ho] at hj; cases hj
          rw [slot_put, if_pos ⟨hd, by rw [hsz]; exact hin d hd⟩]
          rw [show 0 + j = j by omega] at hv
          exact hv
        · rw [if_neg hji] at hlj
          have hne : ¬ o.dst = some d := fun e => hji (huniq j oj d hj e hd).symm
          rw [slot_put, if_neg (fun hh => hne hh.1)]
          exact hmono j _ W W' (hphi j oj d hj hlj hd) hbW
      · rw [getD_set listed i j (by omega), if_neg (by omega)]; exact hlate j hj
      · rw [getD_set listed i j (by omega)] at hlj
        have : listed.getD e.on false = true := by
          by_cases hji : j = i
          · subst hji; rw [ho] at hj; cases hj; exact haft e he hb
          · rw [if_neg hji] at hlj; exact hcl j oj hj hlj e he hb
        rw [getD_set listed i e.on (by omega)]
        split
        · rfl
        · exact this
    intro fuel
    induction fuel with
    | zero =>
      intro listed a W hf hI
      refine done listed a W hI (fun i hi => ?_) 0 hf
      cases hh : listed.getD i false with
      | true => rfl
      | false =>
        exfalso
        have : listed.getD i true = false := by
          have hls := hI.2.2.2.2.2.1
          have : i < listed.size := by omega
          simpa [Array.getD, this] using hh
        have := unlisted_set this
        omega
    | succ fuel ih =>
      intro listed a W hf hI
      by_cases hall : ∀ i, i < m → listed.getD i false = true
      · exact done listed a W hI hall _ hf
      · refine ⟨fun hr => ?_, fun i hi => step listed a W hI i hi (early listed a W hI hall i hi) _ (fun a' W' hI' => ih _ a' W' ?_ hI')⟩
        · exfalso
          refine hall ?_
          intro i
          induction i using Nat.strongRecOn with
          | _ i ihi =>
            intro hi
            cases hl : listed.getD i false with
            | true => rfl
            | false =>
              exfalso
              have hls := hI.2.2.2.2.2.1
              have hio : i < ops.size := by omega
              have : i ∈ Region.ready .any ops listed := mem_ready.2 ⟨by rw [← hl]; simp [Array.getD, hls, hio], ops[i], Array.getElem?_eq_getElem hio, fun e he hbd => by
                have := (regionOk_spec hok (Array.getElem?_eq_getElem hio)).1 e he hbd
                exact ihi e.on this (by omega)⟩
              rw [hr] at this
              cases this
        · have := unlisted_set (mem_ready.1 hi).1
          omega
  refine wp_region_any hm (main _ _ _ _ ?_ ?_)
  · unfold unlisted
    rw [Array.toList_replicate, List.countP_replicate]
    simp
  · refine ⟨⟨rfl, rfl, rfl, Nat.le_refl _, fun _ _ => rfl⟩, rfl, rfl, fun _ _ => rfl, fun i o d ho hl _ => ?_, by simp, fun j _ => ?_, fun i o ho hl => ?_⟩
    · have hil : i < ops.size := (Array.getElem?_eq_some_iff.1 ho).1
      simp [Array.getD, hil] at hl
    · simp [Array.getD]
    · simp [Array.getD] at hl
end
end Go.Proofs.YtenddeglhjmhcaaDoor

namespace Go.Proofs.YtenddeglhjmhcaaDoor
open Go.RowKit Go.Maps
abbrev Ph := Value → World → Prop
def phi (l : List Ph) (i : Nat) (v : Value) (W : World) : Prop := (l.getD i (fun _ _ => True)) v W
theorem eval_slot (a : Act) (k : Nat) : a.eval (.tmp k) = a.tmps[k]?.getD undef := by
  show a.tmps.getD k undef = _
  rw [Array.getD_eq_getD_getElem?]
def isV (x : Value) : Ph := fun v _ => v = x
end Go.Proofs.YtenddeglhjmhcaaDoor

namespace Go.Proofs.YtenddeglhjmhcaaDoor
open Go.RowKit Go.Maps

variable {Q : Exit → Act → World → Prop}
/-- Where a store writes. -/
def ptrOf : Op → Option Tmp
  | .store _ (.tmp p) _ => some p
  | _ => none
/-- What an operation has yielded; of a store: where it wrote. -/
def keyOf' (o : Oper) : Option Tmp := match o.dst with | some d => some d | none => ptrOf o.op
def valOf (a : Act) (o : Oper) : Value := match keyOf' o with | some d => slot a d | none => undef
/-- The address of each store was yielded by an operation that it waits for. -/
def storesOk (ops : Array Oper) : Bool :=
  (List.range ops.size).all fun i => match ops[i]? with
    | none => true
    | some o => match o.dst with
      | some _ => true
      | none => match ptrOf o.op with
        | none => true
        | some p => o.after.toList.any fun e => Region.binds .any e && match ops[e.on]? with | some oe => oe.dst == some p | none => false
theorem storesOk_spec {ops : Array Oper} (h : storesOk ops = true) {i : Nat} {o : Oper} {p : Tmp} (hi : ops[i]? = some o) (hd : o.dst = none) (hp : ptrOf o.op = some p) :
    ∃ e ∈ o.after, Region.binds .any e = true ∧ ∃ oe, ops[e.on]? = some oe ∧ oe.dst = some p := by
  unfold storesOk at h
  rw [List.all_eq_true] at h
  have h1 := h i (List.mem_range.2 (Array.getElem?_eq_some_iff.1 hi).1)
  simp only [hi, hd, hp, List.any_eq_true, Bool.and_eq_true] at h1
  obtain ⟨e, he, hb, h2⟩ := h1
  refine ⟨e, by simpa using he, hb, ?_⟩
  cases ho : ops[e.on]? with
  | none => rw [ho] at h2; cases h2
  | some oe => rw [ho] at h2; exact ⟨oe, rfl, by simpa using h2⟩
/-- What one operation is to do, be it guarded. -/
def OpDoesR (ops : Array Oper) (a0 : Act) (w0 : World) (Rel : World → World → Prop) (Φ : Nat → Value → World → Prop) (Q : Exit → Act → World → Prop) (i : Nat) (o : Oper) : Prop :=
  ∀ a W, Rel w0 W → (∀ k, (ops.toList.all fun o => o.dst != some k) = true → slot a k = slot a0 k) →
    (∀ e ∈ o.after, Region.binds .any e = true → ∀ oe, ops[e.on]? = some oe → Φ e.on (valOf a oe) W) →
    ∀ K : Act → World → Prop, (∀ v W', Rel W W' → Φ i (match o.dst with | some _ => v | none => valOf a o) W' → K (a.put o.dst v) W') →
      if Region.wanted o (yielded ops a.tmps) = true then o.wp Tryd.prog a W K Q else K (a.put o.dst undef) W
theorem wp_region_rel {ops : Array Oper} {id : Nat} {a0 : Act} {w0 : World} (Rel : World → World → Prop) (Φ : Nat → Value → World → Prop)
    (hm : Tryd.prog.follows .mixedOrders = true) (hok : regionOk ops a0.tmps.size = true) (hst : storesOk ops = true)
    (hdrew : Rel w0 w0.drew) (htrans : ∀ W W' W'', Rel W W' → Rel W' W'' → Rel W W'')
    (hmono : ∀ i v W W', Φ i v W → Rel W W' → Φ i v W')
    (hops : AllOps (OpDoesR ops a0 w0 Rel Φ Q) 0 ops.toList)
    (hend : ∀ (vs : Nat → Value) W, Rel w0 W → (∀ i o, ops[i]? = some o → o.dst.isSome = true → Φ i (vs i) W) → (∀ i o p j oj, ops[i]? = some o → o.dst = none → ptrOf o.op = some p → ops[j]? = some oj → oj.dst = some p → Φ i (vs j) W) → Q .normal (putAll ops.toList 0 vs a0) W) :
    (Code.region id ops true).wp Tryd.prog Q a0 w0 := by
  let Inv : Array Bool → Act → World → Prop := fun listed a W => Rel w0 W ∧ a.defers = a0.defers ∧ a.tmps.size = a0.tmps.size ∧
    (∀ k, (∀ j o, ops[j]? = some o → o.dst = some k → listed.getD j false = false) → slot a k = slot a0 k) ∧
    (∀ i o, ops[i]? = some o → listed.getD i false = true → Φ i (valOf a o) W) ∧ listed.size = ops.size ∧
    (∀ i o, ops[i]? = some o → listed.getD i false = true → ∀ e ∈ o.after, Region.binds .any e = true → listed.getD e.on false = true)
  have getD_set : ∀ (listed : Array Bool) (i j : Nat), i < listed.size → (listed.setIfInBounds i true).getD j false = if j = i then true else listed.getD j false := fun listed i j hi => by
    by_cases hji : j = i
    · subst hji; simp [Array.getD, hi]
    · rw [if_neg hji, Array.getD_eq_getD_getElem?, Array.getD_eq_getD_getElem?, Array.getElem?_setIfInBounds_ne (fun e => hji e.symm)]
  have main : ∀ (fuel : Nat) (listed : Array Bool) (a : Act) (W : World), unlisted listed ≤ fuel → Inv listed a W → wpAny Tryd.prog .any ops Q fuel listed a W := by
    have done : ∀ (listed : Array Bool) (a : Act) (W : World), Inv listed a W → Region.ready .any ops listed = [] → Q .normal a W := by
      intro listed a W ⟨hB, hdf, hsz, hoth, hphi, hls, _⟩ hr
      have all : ∀ i, i < ops.size → listed.getD i false = true := by
        intro i
        induction i using Nat.strongRecOn with
        | _ i ih =>
          intro hi
          cases hl : listed.getD i false with
          | true => rfl
          | false =>
            exfalso
            have : i ∈ Region.ready .any ops listed := mem_ready.2 ⟨by rw [← hl]; simp [Array.getD, hls, hi], ops[i], Array.getElem?_eq_getElem hi, fun e he hbd => by
              have := (regionOk_spec hok (Array.getElem?_eq_getElem hi)).1 e he hbd
              exact ih e.on this (by omega)⟩
            rw [hr] at this
            cases this
      let vs : Nat → Value := fun i => match ops[i]?.bind (·.dst) with | some d => slot a d | none => undef
      have hq := hend vs W hB (fun i o ho hsm => by
        have := hphi i o ho (all i (Array.getElem?_eq_some_iff.1 ho).1)
        unfold valOf keyOf' at this
        cases hd : o.dst with
        | none => rw [hd] at hsm; cases hsm
        | some d => rw [hd] at this; simpa [vs, ho, hd] using this) (fun i o p j oj ho hd hp hj hjd => by
        have := hphi i o ho (all i (Array.getElem?_eq_some_iff.1 ho).1)
        unfold valOf keyOf' at this
        rw [hd] at this
        simp only [hp] at this
        simpa [vs, hj, hjd] using this)
      have he : putAll ops.toList 0 vs a0 = a := by
        obtain ⟨p1, p2⟩ := putAll_size ops.toList 0 vs a0
        refine act_ext (p1.trans hsz.symm) (p2.trans hdf.symm) fun k => ?_
        by_cases hk : ∃ j : Nat, ∃ o, ops[j]? = some o ∧ o.dst = some k
        · obtain ⟨j, o, hj, hd⟩ := hk
          obtain ⟨_, hin, huniq⟩ := regionOk_spec hok hj
          rw [putAll_dst ops.toList 0 vs a0 j o k (by simpa using hj) hd (hin k hd) (fun j' o' h1 h2 => (huniq j' o' k (by simpa using h1) hd h2).symm)]
          simp [vs, hj, hd]
        · rw [putAll_other _ _ _ _ _ (fun o ho e => by
            obtain ⟨j, hj, rfl⟩ := List.getElem_of_mem ho
            exact hk ⟨j, ops.toList[j], by simp, e⟩)]
          exact (hoth k (fun j o hj hd => absurd ⟨j, o, hj, hd⟩ hk)).symm
      rw [← he]; exact hq
    have step : ∀ (listed : Array Bool) (a : Act) (W : World), Inv listed a W → ∀ i ∈ Region.ready .any ops listed, ∀ K : Act → World → Prop, (∀ a' W', Inv (listed.setIfInBounds i true) a' W' → K a' W') → wpOp Tryd.prog ops Q i K a W := by
      intro listed a W ⟨hB, hdf, hsz, hoth, hphi, hls, haf⟩ i hi K hK
      obtain ⟨hun, o, ho, haft⟩ := mem_ready.1 hi
      have hil : i < ops.size := (Array.getElem?_eq_some_iff.1 ho).1
      have hdo := hops.get (k := i) (o := o) (by simpa using ho)
      obtain ⟨hback, hin, huniq⟩ := regionOk_spec hok ho
      unfold wpOp
      rw [ho]
      have hun' : listed.getD i false = false := by
        cases hh : listed.getD i false with
        | false => rfl
        | true => simp [Array.getD, hls, hil] at hun hh; rw [hun] at hh; cases hh
      have key := hdo a W hB (fun k hk => ?_) (fun e he hb oe hoe => hphi e.on oe hoe (haft e he hb)) K (fun v W' hbW hv => hK _ _ ⟨htrans _ _ _ hB hbW, (defers_put _ _ _).trans hdf, (size_put _ _ _).trans hsz, fun k hk => ?_, fun j oj hj hlj => ?_, by simpa using hls, fun j oj hj hlj e he hb => ?_⟩)
      · show if Region.wanted o (yielded ops a.tmps) = true then _ else _
        split
        · rename_i hw
          rw [if_pos hw] at key
          exact .inl key
        · rename_i hw
          rw [if_neg hw] at key
          exact key
      · rw [List.all_eq_true] at hk
        exact hoth k (fun j oj hj hd => by
          have := hk oj (List.mem_of_getElem? (i := j) (by simpa using hj))
          rw [hd] at this; simp at this)
      · have hne : ¬ o.dst = some k := fun e => by
          have := hk i o ho e
          rw [getD_set listed i i (by omega), if_pos rfl] at this
          cases this
        rw [slot_put, if_neg (fun hh => hne hh.1)]
        refine hoth k (fun j oj hj hd => ?_)
        have := hk j oj hj hd
        rw [getD_set listed i j (by omega)] at this
        by_cases hji : j = i
        · subst hji; rw [ho] at hj; cases hj; exact absurd hd hne
        · rwa [if_neg hji] at this
      · rw [getD_set listed i j (by omega)] at hlj
        by_cases hji : j = i
        · subst hji
          rw [ho] at hj; cases hj
          rw [show 0 + j = j by omega] at hv
          unfold valOf keyOf' at hv ⊢
          cases hd : o.dst with
          | none =>
            rw [hd] at hv
            simp only at hv ⊢
            cases hp : ptrOf o.op with
            | none => rw [hp] at hv; exact hv
            | some p =>
              rw [hp] at hv
              simp only at hv ⊢
              rw [slot_put, if_neg (fun hh => by cases hh.1)]
              exact hv
          | some d =>
            rw [hd] at hv
            simp only at hv ⊢
            rw [slot_put, if_pos ⟨rfl, by rw [hsz]; exact hin d hd⟩]
            exact hv
        · rw [if_neg hji] at hlj
          have h1 := hmono j _ W W' (hphi j oj hj hlj) hbW
          unfold valOf keyOf' at h1 ⊢
          cases hd : oj.dst with
          | none =>
            rw [hd] at h1
            simp only at h1 ⊢
            cases hp : ptrOf oj.op with
            | none => rw [hp] at h1; exact h1
            | some p =>
              rw [hp] at h1
              simp only at h1 ⊢
              obtain ⟨e, he, hb, oe, hoe, hed⟩ := storesOk_spec hst hj hd hp
              have hle := haf j oj hj hlj e he hb
              have hne : ¬ o.dst = some p := fun e' => by
                have := huniq e.on oe p hoe e' hed
                rw [← this, hun'] at hle
                cases hle
              rw [slot_put, if_neg (fun hh => hne hh.1)]
              exact h1
          | some d =>
            rw [hd] at h1
            simp only at h1 ⊢
            have hne : ¬ o.dst = some d := fun e => hji (huniq j oj d hj e hd).symm
            rw [slot_put, if_neg (fun hh => hne hh.1)]
            exact h1
      · rw [getD_set listed i j (by omega)] at hlj
        rw [getD_set listed i e.on (by omega)]
        split
        · rfl
        · by_cases hji : j = i
          · subst hji
            rw [ho] at hj; cases hj
            exact haft e he hb
          · rw [if_neg hji] at hlj
            exact haf j oj hj hlj e he hb
    intro fuel
    induction fuel with
    | zero =>
      intro listed a W hf hI
      have hr : Region.ready .any ops listed = [] := by
        cases hr : Region.ready .any ops listed with
        | nil => rfl
        | cons i l =>
          exfalso
          have hi : i ∈ Region.ready .any ops listed := by rw [hr]; simp
          have := unlisted_set (mem_ready.1 hi).1
          omega
      exact ⟨hr, done listed a W hI hr⟩
    | succ fuel ih =>
      intro listed a W hf hI
      refine ⟨done listed a W hI, fun i hi => step listed a W hI i hi _ (fun a' W' hI' => ih _ a' W' ?_ hI')⟩
      have := unlisted_set (mem_ready.1 hi).1
      omega
  refine wp_region_any hm (main _ _ _ _ ?_ ?_)
  · unfold unlisted
    rw [Array.toList_replicate, List.countP_replicate]
    split <;> omega
  · refine ⟨hdrew, rfl, rfl, fun _ _ => rfl, fun i o ho hl => ?_, by simp, fun i o ho hl => ?_⟩
    · have hil : i < ops.size := (Array.getElem?_eq_some_iff.1 ho).1
      simp [Array.getD, hil] at hl
    · have hil : i < ops.size := (Array.getElem?_eq_some_iff.1 ho).1
      simp [Array.getD, hil] at hl
section
variable {ops : Array Oper} {a0 : Act} {w0 : World} {Rel : World → World → Prop} {Φ : Nat → Value → World → Prop} {i : Nat} {o : Oper}
/-- The value of an operation, as the walk spells it. -/
def dstV (a : Act) (o : Oper) : Value := match keyOf' o with | some d => a.tmps[d]?.getD undef | none => undef
theorem valOf_dst (a : Act) (o : Oper) : valOf a o = dstV a o := by
  unfold valOf dstV
  cases keyOf' o with
  | none => rfl
  | some d => exact eval_slot a d
theorem opR_any
    (h : ∀ a W, Rel w0 W → (∀ k, (ops.toList.all fun o => o.dst != some k) = true → a.tmps[k]?.getD undef = slot a0 k) →
      (∀ j oe, (o.after.toList.any fun e => e.on == j && Region.binds .any e) = true → ops[j]? = some oe → Φ j (dstV a oe) W) →
      ∀ K : Act → World → Prop, (∀ v W', Rel W W' → Φ i (match o.dst with | some _ => v | none => dstV a o) W' → K (a.put o.dst v) W') →
        if Region.wanted o (yielded ops a.tmps) = true then o.wp Tryd.prog a W K Q else K (a.put o.dst undef) W) : OpDoesR ops a0 w0 Rel Φ Q i o := by
  intro a W h1 h2 h3 K hK
  refine h a W h1 (fun k hk => (eval_slot a k).symm.trans (h2 k hk)) (fun j oe hj ho => ?_) K (fun v W' hr hp => hK v W' hr (by rw [valOf_dst]; exact hp))
  rw [List.any_eq_true] at hj
  obtain ⟨e, he, hb⟩ := hj
  simp only [Bool.and_eq_true, beq_iff_eq] at hb
  obtain ⟨rfl, hb⟩ := hb
  rw [← valOf_dst]
  exact h3 e (by simpa using he) hb oe ho
theorem opR_mk (hg : o.guard = none)
    (h : ∀ a W, Rel w0 W → (∀ k, (ops.toList.all fun o => o.dst != some k) = true → a.tmps[k]?.getD undef = slot a0 k) →
      (∀ j oe, (o.after.toList.any fun e => e.on == j && Region.binds .any e) = true → ops[j]? = some oe → Φ j (dstV a oe) W) →
      ∀ K : Act → World → Prop, (∀ v W', Rel W W' → Φ i (match o.dst with | some _ => v | none => dstV a o) W' → K (a.put o.dst v) W') → o.wp Tryd.prog a W K Q) : OpDoesR ops a0 w0 Rel Φ Q i o := by
  refine opR_any fun a W h1 h2 h3 K hK => ?_
  rw [if_pos (by simp [Region.wanted, hg])]
  exact h a W h1 h2 h3 K hK
theorem opR_guard {j d : Nat} {want c : Bool} {oj : Oper} (hod : o.dst.isSome = true) (hg : o.guard = some (j, want)) (haft : (o.after.toList.any fun e => e.on == j && Region.binds .any e) = true) (hj : ops[j]? = some oj) (hjd : oj.dst = some d)
    (hc : ∀ v W, Φ j v W → v = .bool c) (hrefl : ∀ W, Rel W W) (hskip : c ≠ want → ∀ W, Φ i undef W)
    (h : c = want → ∀ a W, Rel w0 W → (∀ k, (ops.toList.all fun o => o.dst != some k) = true → a.tmps[k]?.getD undef = slot a0 k) →
      (∀ j oe, (o.after.toList.any fun e => e.on == j && Region.binds .any e) = true → ops[j]? = some oe → Φ j (dstV a oe) W) →
      ∀ K : Act → World → Prop, (∀ v W', Rel W W' → Φ i (match o.dst with | some _ => v | none => dstV a o) W' → K (a.put o.dst v) W') → o.wp Tryd.prog a W K Q) : OpDoesR ops a0 w0 Rel Φ Q i o := by
  refine opR_any fun a W h1 h2 h3 K hK => ?_
  have hv := hc _ _ (h3 j oj haft hj)
  have hy : yielded ops a.tmps j = some c := by
    unfold dstV keyOf' at hv
    rw [hjd] at hv
    simp only at hv
    unfold yielded
    rw [hj]
    simp only [Option.bind_some, hjd]
    cases ht : a.tmps[d]? with
    | none => rw [ht] at hv; cases hv
    | some x => rw [ht] at hv; simp only [Option.getD_some] at hv; rw [hv]
  by_cases hcw : c = want
  · rw [if_pos (by simp [Region.wanted, hg, hy, hcw])]
    exact h hcw a W h1 h2 h3 K hK
  · rw [if_neg (by simp [Region.wanted, hg, hy, hcw])]
    refine hK undef W (hrefl W) ?_
    cases hd : o.dst with
    | some d => exact hskip hcw W
    | none => rw [hd] at hod; cases hod
end
end Go.Proofs.YtenddeglhjmhcaaDoor

namespace Go.Proofs.YtenddeglhjmhcaaDoor
open Go.RowKit Go.Maps

def RelB (W W' : World) : Prop := Below W.heap.size W W'
theorem RelB.refl (W : World) : RelB W W := Below.refl _ _
theorem RelB.of {W W' : World} (h : Below W.heap.size W W') : RelB W W' := h
theorem RelB.trans {W W' W'' : World} (h : RelB W W') (g : RelB W' W'') : RelB W W'' := ptrans h g
theorem below_drew (w : World) : Below w.heap.size w w.drew := ⟨rfl, rfl, rfl, Nat.le_refl _, fun _ _ => rfl⟩
theorem stays_phiR {l : List Ph} {Rel : World → World → Prop} (h : ∀ p ∈ l, ∀ v W W', p v W → Rel W W' → p v W') (i : Nat) (v : Value) (W W' : World) (hp : phi l i v W) (hb : Rel W W') : phi l i v W' := by
  unfold phi at *
  rw [List.getD_eq_getElem?_getD] at *
  cases hi : l[i]? with
  | none => trivial
  | some p => rw [hi] at hp; exact h p (List.mem_of_getElem? hi) v W W' hp hb
end Go.Proofs.YtenddeglhjmhcaaDoor
