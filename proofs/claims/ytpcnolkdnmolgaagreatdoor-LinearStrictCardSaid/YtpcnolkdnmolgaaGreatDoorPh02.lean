/- A region that draws its order: each operation is met once, whatever order is drawn. -/
import Derived.Test.YtpcnolkdnmolgaaGreatDoorPh01
import Derived.Orders
import Derived.OrdersHeld
import Derived.Deep.RegionHeld3
import Derived.IntWalk
import Derived.Sort.AssemblyPlain
import Derived.Sort.Row
import Derived.CellFam
import Derived.BigGuard
import Derived.BigCall
import Derived.BigQuiet
import Derived.Deep.QuietTactic
import Derived.RegionTactic
import Derived.Sort.LotD4
import Derived.Lib.Tables
import Derived.Laws.Bits64
import Derived.Laws.Bits64b
import Derived.StillTailTactics
namespace Go.Proofs.YtpcnolkdnmolgaaGreatDoor
section
open Go.RowKit
def putAll : List Oper → Nat → (Nat → Value) → Act → Act
 | [], _, _, a => a
 | o :: l, i, vs, a => putAll l (i + 1) vs (a.put o.dst (vs i))
def AllOps (G : Nat → Oper → Prop) : Nat → List Oper → Prop
 | _, [] => True
 | i, o :: l => G i o ∧ AllOps G (i + 1) l
theorem AllOps.get {G : Nat → Oper → Prop} : ∀ {l : List Oper} {i : Nat}, AllOps G i l → ∀ {k : Nat} {o : Oper}, l[k]? = some o → G (i + k) o
 | [], _, _, _, _, h => by simp at h
 | x :: l, i, h, 0, o, hk => by simp at hk; subst hk; exact h.1
 | x :: l, i, h, k + 1, o, hk => by
  have := AllOps.get (l := l) h.2 (k := k) (o := o) (by simpa using hk)
  rwa [show i + (k + 1) = i + 1 + k by omega]
def slot (a : Act) (k : Nat) : Value := a.tmps.getD k undef
theorem slot_put (a : Act) (d : Option Tmp) (v : Value) (k : Nat) : slot (a.put d v) k = if d = some k ∧ k < a.tmps.size then v else slot a k := by
 unfold slot
 cases d with
 | none => simp [Act.put]
 | some d =>
  simp only [Act.put, Option.some.injEq]
  by_cases h : d = k
  · subst h
    by_cases hk : d < a.tmps.size
    · simp [hk, Array.getD]
    · simp [hk, Array.getD]
  · simp only [h, false_and, if_false]
    rw [Array.getD_eq_getD_getElem?, Array.getD_eq_getD_getElem?, Array.getElem?_setIfInBounds_ne h]
theorem size_put (a : Act) (d : Option Tmp) (v : Value) : (a.put d v).tmps.size = a.tmps.size := by cases d <;> simp [Act.put]
theorem defers_put (a : Act) (d : Option Tmp) (v : Value) : (a.put d v).defers = a.defers := by cases d <;> simp [Act.put]
theorem putAll_size : ∀ (l : List Oper) (i : Nat) (vs : Nat → Value) (a : Act), (putAll l i vs a).tmps.size = a.tmps.size ∧ (putAll l i vs a).defers = a.defers
 | [], _, _, _ => ⟨rfl, rfl⟩
 | o :: l, i, vs, a => by
  obtain ⟨h1, h2⟩ := putAll_size l (i + 1) vs (a.put o.dst (vs i))
  exact ⟨h1.trans (size_put _ _ _), h2.trans (defers_put _ _ _)⟩
theorem putAll_other : ∀ (l : List Oper) (i : Nat) (vs : Nat → Value) (a : Act) (k : Nat), (∀ o ∈ l, o.dst ≠ some k) → slot (putAll l i vs a) k = slot a k
 | [], _, _, _, _, _ => rfl
 | o :: l, i, vs, a, k, h => by
  show slot (putAll l (i + 1) vs (a.put o.dst (vs i))) k = _
  rw [putAll_other l (i + 1) vs _ k (fun o' ho => h o' (List.mem_cons_of_mem _ ho)), slot_put, if_neg (fun hh => h o (by simp) hh.1)]
theorem putAll_dst : ∀ (l : List Oper) (i : Nat) (vs : Nat → Value) (a : Act) (j : Nat) (o : Oper) (k : Nat), l[j]? = some o → o.dst = some k → k < a.tmps.size →
  (∀ j' o', l[j']? = some o' → o'.dst = some k → j' = j) → slot (putAll l i vs a) k = vs (i + j)
 | [], _, _, _, _, _, _, h, _, _, _ => by simp at h
 | x :: l, i, vs, a, 0, o, k, h, hd, hk, hu => by
  simp at h; subst h
  show slot (putAll l (i + 1) vs (a.put x.dst (vs i))) k = _
  rw [putAll_other l (i + 1) vs _ k (fun o' ho e => by
   obtain ⟨j', hj', rfl⟩ := List.getElem_of_mem ho
   have := hu (j' + 1) l[j'] (by simp [hj']) e
   omega), slot_put, if_pos ⟨hd, hk⟩]
  rfl
 | x :: l, i, vs, a, j + 1, o, k, h, hd, hk, hu => by
  show slot (putAll l (i + 1) vs (a.put x.dst (vs i))) k = _
  rw [putAll_dst l (i + 1) vs _ j o k (by simpa using h) hd (by rw [size_put]; exact hk) (fun j' o' h1 h2 => by
   have := hu (j' + 1) o' (by simpa using h1) h2
   omega)]
  rw [show i + 1 + j = i + (j + 1) by omega]
theorem act_ext {a b : Act} (h1 : a.tmps.size = b.tmps.size) (h2 : a.defers = b.defers) (h3 : ∀ k, slot a k = slot b k) : a = b := by
 cases a with | mk ta da => cases b with | mk tb db =>
 have e2 : da = db := h2
 subst e2
 have : ta = tb := by
  refine Array.ext h1 fun i hi hi' => ?_
  have := h3 i
  simp only [slot, Array.getD, hi, hi', dif_pos] at this
  exact this
 rw [this]
section
variable {Q : Exit → Act → World → Prop}
def OpDoes (ops : Array Oper) (a0 : Act) (w0 : World) (Φ : Nat → Value → World → Prop) (Q : Exit → Act → World → Prop) (i : Nat) (o : Oper) : Prop :=
 o.guard = none ∧ ∀ a W, Below w0.heap.size w0 W → (∀ k, (ops.toList.all fun o => o.dst != some k) = true → a.eval (.tmp k) = slot a0 k) →
  (∀ e ∈ o.after, Region.binds .any e = true → ∀ oe d, ops[e.on]? = some oe → oe.dst = some d → Φ e.on (a.eval (.tmp d)) W) →
  ∀ K : Act → World → Prop, (∀ v W', Below W.heap.size W W' → Φ i v W' → K (a.put o.dst v) W') → o.wp Tryz.prog a W K Q
def regionOk (ops : Array Oper) (n : Nat) : Bool :=
 (List.range ops.size).all fun i => match ops[i]? with
  | none => true
  | some o => (o.after.toList.all fun e => !Region.binds .any e || decide (e.on < i)) && (match o.dst with | some d => decide (d < n) | none => true) &&
   (List.range ops.size).all fun j => match ops[j]? with
    | none => true
    | some o' => o.dst.isNone || o.dst != o'.dst || i == j
theorem regionOk_spec {ops : Array Oper} {n : Nat} (h : regionOk ops n = true) {i : Nat} {o : Oper} (hi : ops[i]? = some o) :
  (∀ e ∈ o.after, Region.binds .any e = true → e.on < i) ∧ (∀ d, o.dst = some d → d < n) ∧ ∀ j o' d, ops[j]? = some o' → o.dst = some d → o'.dst = some d → i = j := by
 unfold regionOk at h
 rw [List.all_eq_true] at h
 have hil : i < ops.size := (Array.getElem?_eq_some_iff.1 hi).1
 have h1 := h i (List.mem_range.2 hil)
 simp only [hi, Bool.and_eq_true, List.all_eq_true] at h1
 obtain ⟨⟨ha, hb⟩, hc⟩ := h1
 refine ⟨fun e he hbd => by simpa [hbd] using ha e (by simpa using he), fun d hd => by simpa [hd] using hb, fun j o' d hj hd hd' => ?_⟩
 have hjl : j < ops.size := (Array.getElem?_eq_some_iff.1 hj).1
 have h2 := hc j (List.mem_range.2 hjl)
 simp only [hj, hd, hd', Option.isNone_some, bne_self_eq_false, Bool.false_or, beq_iff_eq] at h2
 simpa using h2
def unlisted (listed : Array Bool) : Nat := listed.toList.countP (fun b => !b)
theorem unlisted_set {listed : Array Bool} {i : Nat} (hi : listed.getD i true = false) : unlisted (listed.setIfInBounds i true) + 1 = unlisted listed := by
 have hlt : i < listed.size := by
  by_cases h : i < listed.size
  · exact h
  · simp [Array.getD, h] at hi
 have hv : listed.toList[i]'(by simpa using hlt) = false := by simpa [Array.getD, hlt] using hi
 unfold unlisted
 rw [Array.toList_setIfInBounds]
 have := List.countP_set (p := fun b => !b) (l := listed.toList) (i := i) (a := true) (by simpa using hlt)
 rw [this]
 have e1 : ∀ b : Bool, b = false → (if (!b) = true then 1 else 0) = 1 := fun b hb => by rw [hb]; rfl
 have hpos : 0 < listed.toList.countP (fun b => !b) := List.countP_pos_iff.2 ⟨false, by rw [← hv]; exact List.getElem_mem _, rfl⟩
 have e2 := e1 _ hv
 have e3 : (if (!true) = true then 1 else 0) = 0 := rfl
 omega
theorem wp_region_all {ops : Array Oper} {id : Nat} {a0 : Act} {w0 : World} (Φ : Nat → Value → World → Prop)
  (hm : Tryz.prog.follows .mixedOrders = true) (hok : regionOk ops a0.tmps.size = true)
  (hmono : ∀ i v W W', Φ i v W → Below W.heap.size W W' → Φ i v W')
  (hops : AllOps (OpDoes ops a0 w0 Φ Q) 0 ops.toList)
  (hend : ∀ (vs : Nat → Value) W, Below w0.heap.size w0 W → (∀ i, i < ops.size → (ops[i]?.bind (·.dst)).isSome = true → Φ i (vs i) W) → Q .normal (putAll ops.toList 0 vs a0) W) :
  (Code.region id ops true).wp Tryz.prog Q a0 w0 := by
 -- what holds on the way
 let Inv : Array Bool → Act → World → Prop := fun listed a W => Below w0.heap.size w0 W ∧ a.defers = a0.defers ∧ a.tmps.size = a0.tmps.size ∧
  (∀ k, (∀ j o, ops[j]? = some o → o.dst = some k → listed.getD j false = false) → slot a k = slot a0 k) ∧
  (∀ i o d, ops[i]? = some o → listed.getD i false = true → o.dst = some d → Φ i (slot a d) W) ∧ listed.size = ops.size
 have getD_set : ∀ (listed : Array Bool) (i j : Nat), i < listed.size → (listed.setIfInBounds i true).getD j false = if j = i then true else listed.getD j false := fun listed i j hi => by
  by_cases hji : j = i
  · subst hji; simp [Array.getD, hi]
  · rw [if_neg hji, Array.getD_eq_getD_getElem?, Array.getD_eq_getD_getElem?, Array.getElem?_setIfInBounds_ne (fun e => hji e.symm)]
 have main : ∀ (fuel : Nat) (listed : Array Bool) (a : Act) (W : World), unlisted listed ≤ fuel → Inv listed a W → wpAny Tryz.prog .any ops Q fuel listed a W := by
  have done : ∀ (listed : Array Bool) (a : Act) (W : World), Inv listed a W → Region.ready .any ops listed = [] → Q .normal a W := by
   intro listed a W ⟨hB, hdf, hsz, hoth, hphi, hls⟩ hr
   have all : ∀ i, i < ops.size → listed.getD i false = true := by
    intro i
    induction i using Nat.strongRecOn with
    | _ i ih =>
     intro hi
     cases hl : listed.getD i false with
     | true => rfl
     | false =>
      exfalso
      have : i ∈ Region.ready .any ops listed := mem_ready.2 ⟨by rw [← hl]; simp [Array.getD, hls, hi], ops[i], Array.getElem?_eq_getElem hi, fun e he hbd => by
       have := (regionOk_spec hok (Array.getElem?_eq_getElem hi)).1 e he hbd
       exact ih e.on this (by omega)⟩
      rw [hr] at this
      cases this
   let vs : Nat → Value := fun i => match ops[i]?.bind (·.dst) with | some d => slot a d | none => undef
   have hq := hend vs W hB (fun i hi hs => by
    cases ho : ops[i]? with
    | none => simp [ho] at hs
    | some o =>
     cases hd : o.dst with
     | none => simp [ho, hd] at hs
     | some d =>
      have := hphi i o d ho (all i hi) hd
      simpa [vs, ho, hd] using this)
   have he : putAll ops.toList 0 vs a0 = a := by
    obtain ⟨p1, p2⟩ := putAll_size ops.toList 0 vs a0
    refine act_ext (p1.trans hsz.symm) (p2.trans hdf.symm) fun k => ?_
    by_cases hk : ∃ j : Nat, ∃ o, ops[j]? = some o ∧ o.dst = some k
    · obtain ⟨j, o, hj, hd⟩ := hk
      obtain ⟨_, hin, huniq⟩ := regionOk_spec hok hj
      rw [putAll_dst ops.toList 0 vs a0 j o k (by simpa using hj) hd (hin k hd) (fun j' o' h1 h2 => (huniq j' o' k (by simpa using h1) hd h2).symm)]
      simp [vs, hj, hd]
    · rw [putAll_other _ _ _ _ _ (fun o ho e => by
       obtain ⟨j, hj, rfl⟩ := List.getElem_of_mem ho
       exact hk ⟨j, ops.toList[j], by simp, e⟩)]
      exact (hoth k (fun j o hj hd => absurd ⟨j, o, hj, hd⟩ hk)).symm
   rw [← he]; exact hq
  have step : ∀ (listed : Array Bool) (a : Act) (W : World), Inv listed a W → ∀ i ∈ Region.ready .any ops listed, ∀ K : Act → World → Prop, (∀ a' W', Inv (listed.setIfInBounds i true) a' W' → K a' W') → wpOp Tryz.prog ops Q i K a W := by
   intro listed a W ⟨hB, hdf, hsz, hoth, hphi, hls⟩ i hi K hK
   obtain ⟨hun, o, ho, haft⟩ := mem_ready.1 hi
   have hil : i < ops.size := (Array.getElem?_eq_some_iff.1 ho).1
   obtain ⟨hg, hdo⟩ := hops.get (k := i) (o := o) (by simpa using ho)
   obtain ⟨hback, hin, huniq⟩ := regionOk_spec hok ho
   unfold wpOp
   rw [ho]
   simp only [Region.wanted, hg, if_true]
   left
   have hun' : listed.getD i false = false := by
    cases hh : listed.getD i false with
    | false => rfl
    | true => simp [Array.getD, hls, hil] at hun hh; rw [hun] at hh; cases hh
   refine hdo a W hB (fun k hk => ?_) (fun e he hb oe d hoe hd => hphi e.on oe d hoe (haft e he hb) hd) K (fun v W' hbW hv => hK _ _ ⟨ptrans hB hbW, (defers_put _ _ _).trans hdf, (size_put _ _ _).trans hsz, fun k hk => ?_, fun j oj d hj hlj hd => ?_, by simpa using hls⟩)
   · rw [List.all_eq_true] at hk
     exact hoth k (fun j oj hj hd => by
      have := hk oj (List.mem_of_getElem? (i := j) (by simpa using hj))
      rw [hd] at this; simp at this)
   · have hne : ¬ o.dst = some k := fun e => by
      have := hk i o ho e
      rw [getD_set listed i i (by omega), if_pos rfl] at this
      cases this
     rw [slot_put, if_neg (fun hh => hne hh.1)]
     refine hoth k (fun j oj hj hd => ?_)
     have := hk j oj hj hd
     rw [getD_set listed i j (by omega)] at this
     by_cases hji : j = i
     · subst hji; rw [ho] at hj; cases hj; exact absurd hd hne
     · rwa [if_neg hji] at this
   · rw [getD_set listed i j (by omega)] at hlj
     by_cases hji : j = i
     · subst hji
       rw [ho] at hj; cases hj
       rw [slot_put, if_pos ⟨hd, by rw [hsz]; exact hin d hd⟩]
       rw [show 0 + j = j by omega] at hv
       exact hv
     · rw [if_neg hji] at hlj
       have hne : ¬ o.dst = some d := fun e => hji (huniq j oj d hj e hd).symm
       rw [slot_put, if_neg (fun hh => hne hh.1)]
       exact hmono j _ W W' (hphi j oj d hj hlj hd) hbW
  intro fuel
  induction fuel with
  | zero =>
   intro listed a W hf hI
   have hr : Region.ready .any ops listed = [] := by
    cases hr : Region.ready .any ops listed with
    | nil => rfl
    | cons i l =>
     exfalso
     have hi : i ∈ Region.ready .any ops listed := by rw [hr]; simp
     have := unlisted_set (mem_ready.1 hi).1
     omega
   exact ⟨hr, done listed a W hI hr⟩
  | succ fuel ih =>
   intro listed a W hf hI
   refine ⟨done listed a W hI, fun i hi => step listed a W hI i hi _ (fun a' W' hI' => ih _ a' W' ?_ hI')⟩
   have := unlisted_set (mem_ready.1 hi).1
   omega
 refine wp_region_any hm (main _ _ _ _ ?_ ?_)
 · unfold unlisted
   rw [Array.toList_replicate, List.countP_replicate]
   split <;> omega
 · refine ⟨⟨rfl, rfl, rfl, Nat.le_refl _, fun _ _ => rfl⟩, rfl, rfl, fun _ _ => rfl, fun i o d ho hl _ => ?_, by simp⟩
   have hil : i < ops.size := (Array.getElem?_eq_some_iff.1 ho).1
   simp [Array.getD, hil] at hl
def frontOk (ops : Array Oper) (m : Nat) : Bool :=
 decide (m ≤ ops.size) &&
 ((List.range m).all fun i => (List.range (m + 1)).any fun k => decide (i < k) && match ops[k]? with | some o => o.after.toList.any (fun e => e.on == i && Region.binds .any e) | none => false) &&
 (List.range ops.size).all fun j => decide (j ≤ m) || match ops[j]? with | some o => o.after.toList.any (fun e => e.on == j - 1 && Region.binds .any e) | none => false
theorem frontOk_spec {ops : Array Oper} {m : Nat} (h : frontOk ops m = true) : m ≤ ops.size ∧
  (∀ i, i < m → ∃ k, i < k ∧ k ≤ m ∧ ∃ o, ops[k]? = some o ∧ ∃ e ∈ o.after, e.on = i ∧ Region.binds .any e = true) ∧
  (∀ j o, m < j → ops[j]? = some o → ∃ e ∈ o.after, e.on = j - 1 ∧ Region.binds .any e = true) := by
 unfold frontOk at h
 simp only [Bool.and_eq_true, List.all_eq_true, decide_eq_true_eq] at h
 obtain ⟨⟨h1, h2⟩, h3⟩ := h
 refine ⟨h1, fun i hi => ?_, fun j o hj ho => ?_⟩
 · have := h2 i (List.mem_range.2 hi)
   rw [List.any_eq_true] at this
   obtain ⟨k, hk, hk2⟩ := this
   have hkm := List.mem_range.1 hk
   rw [Bool.and_eq_true] at hk2
   obtain ⟨a, b⟩ := hk2
   cases ho : ops[k]? with
   | none => rw [ho] at b; simp at b
   | some o =>
    rw [ho] at b
    simp only [List.any_eq_true, Bool.and_eq_true, beq_iff_eq] at b
    obtain ⟨e, he, q1, q2⟩ := b
    exact ⟨k, by simpa using a, by omega, o, ho, e, by simpa using he, q1, q2⟩
 · have := h3 j (List.mem_range.2 (Array.getElem?_eq_some_iff.1 ho).1)
   rw [ho] at this
   simp only [Bool.or_eq_true, decide_eq_true_eq, List.any_eq_true, Bool.and_eq_true, beq_iff_eq] at this
   rcases this with h | ⟨e, he, q1, q2⟩
   · omega
   · exact ⟨e, by simpa using he, q1, q2⟩
def frontL (m n : Nat) : Array Bool := ((List.range n).map fun i => decide (i < m)).toArray
theorem wpAny_one {ops : Array Oper} {listed : Array Bool} {fuel i : Nat} {o : Oper} {a : Act} {W : World} (hr : Region.ready .any ops listed = [i]) (ho : ops[i]? = some o) (hg : o.guard = none)
  (h : ∀ K : Act → World → Prop, (∀ a' W', wpAny Tryz.prog .any ops Q fuel (listed.setIfInBounds i true) a' W' → K a' W') → o.wp Tryz.prog a W K Q) : wpAny Tryz.prog .any ops Q (fuel + 1) listed a W := by
 refine ⟨fun h0 => (by rw [hr] at h0; cases h0), fun j hj => ?_⟩
 rw [hr] at hj
 simp only [List.mem_singleton] at hj
 subst hj
 unfold wpOp
 rw [ho]
 simp only [Region.wanted, hg, if_true]
 exact .inl (h _ (fun _ _ h => h))
theorem wpAny_end {ops : Array Oper} {listed : Array Bool} {a : Act} {W : World} (hr : Region.ready .any ops listed = []) (h : Q .normal a W) : wpAny Tryz.prog .any ops Q 0 listed a W := ⟨hr, h⟩
theorem wp_region_front {ops : Array Oper} {id : Nat} {a0 : Act} {w0 : World} (m : Nat) (Φ : Nat → Value → World → Prop)
  (hm : Tryz.prog.follows .mixedOrders = true) (hok : regionOk ops a0.tmps.size = true) (hfr : frontOk ops m = true)
  (hmono : ∀ i v W W', Φ i v W → Below W.heap.size W W' → Φ i v W')
  (hops : AllOps (OpDoes ops a0 w0 Φ Q) 0 (ops.toList.take m))
  (hend : ∀ (vs : Nat → Value) W, Below w0.heap.size w0 W → (∀ i, i < m → (ops[i]?.bind (·.dst)).isSome = true → Φ i (vs i) W) → wpAny Tryz.prog .any ops Q (ops.size - m) (frontL m ops.size) (putAll (ops.toList.take m) 0 vs a0) W) :
  (Code.region id ops true).wp Tryz.prog Q a0 w0 := by
 obtain ⟨fm, f1, f2⟩ := frontOk_spec hfr
 let Inv : Array Bool → Act → World → Prop := fun listed a W => Below w0.heap.size w0 W ∧ a.defers = a0.defers ∧ a.tmps.size = a0.tmps.size ∧
  (∀ k, (∀ j o, ops[j]? = some o → o.dst = some k → listed.getD j false = false) → slot a k = slot a0 k) ∧
  (∀ i o d, ops[i]? = some o → listed.getD i false = true → o.dst = some d → Φ i (slot a d) W) ∧ listed.size = ops.size ∧
  (∀ j, m ≤ j → listed.getD j false = false) ∧ (∀ i o, ops[i]? = some o → listed.getD i false = true → ∀ e ∈ o.after, Region.binds .any e = true → listed.getD e.on false = true)
 have getD_set : ∀ (listed : Array Bool) (i j : Nat), i < listed.size → (listed.setIfInBounds i true).getD j false = if j = i then true else listed.getD j false := fun listed i j hi => by
  by_cases hji : j = i
  · subst hji; simp [Array.getD, hi]
  · rw [if_neg hji, Array.getD_eq_getD_getElem?, Array.getD_eq_getD_getElem?, Array.getElem?_setIfInBounds_ne (fun e => hji e.symm)]
 have done : ∀ (listed : Array Bool) (a : Act) (W : World), Inv listed a W → (∀ i, i < m → listed.getD i false = true) → ∀ fuel, fuel = unlisted listed → wpAny Tryz.prog .any ops Q fuel listed a W := by
  intro listed a W ⟨hB, hdf, hsz, hoth, hphi, hls, hlate, _⟩ all fuel hfuel
  have hle : listed = frontL m ops.size := by
   refine Array.ext (by simp [frontL, hls]) fun i hi hi' => ?_
   have h2 : listed.getD i false = listed[i] := by simp [Array.getD, hi]
   rw [← h2]
   by_cases him : i < m
   · rw [all i him]; simp [frontL, him]
   · rw [hlate i (by omega)]; simp [frontL, him]
  have hun : unlisted listed = ops.size - m := by
   rw [hle]
   unfold unlisted frontL
   rw [List.toList_toArray, List.countP_map]
   have : ∀ n, List.countP ((fun b => !b) ∘ fun i => decide (i < m)) (List.range n) = n - m := by
    intro n
    induction n with
    | zero => simp
    | succ n ih =>
     rw [List.range_succ, List.countP_append, ih]
     by_cases hnm : n < m
     · simp [hnm]; omega
     · simp [hnm]; omega
   exact this _
  let vs : Nat → Value := fun i => match ops[i]?.bind (·.dst) with | some d => slot a d | none => undef
  have hq := hend vs W hB (fun i hi hs => by
   cases ho : ops[i]? with
   | none => simp [ho] at hs
   | some o =>
    cases hd : o.dst with
    | none => simp [ho, hd] at hs
    | some d =>
     have := hphi i o d ho (all i hi) hd
     simpa [vs, ho, hd] using this)
  have he : putAll (ops.toList.take m) 0 vs a0 = a := by
   obtain ⟨p1, p2⟩ := putAll_size (ops.toList.take m) 0 vs a0
   refine act_ext (p1.trans hsz.symm) (p2.trans hdf.symm) fun k => ?_
   have tk : ∀ j o, (ops.toList.take m)[j]? = some o → j < m ∧ ops[j]? = some o := fun j o h => by
    rw [List.getElem?_take] at h
    split at h
    · exact ⟨by assumption, by simpa using h⟩
    · cases h
   by_cases hk : ∃ j : Nat, ∃ o, j < m ∧ ops[j]? = some o ∧ o.dst = some k
   · obtain ⟨j, o, hjm, hj, hd⟩ := hk
     obtain ⟨_, hin, huniq⟩ := regionOk_spec hok hj
     rw [putAll_dst (ops.toList.take m) 0 vs a0 j o k (by rw [List.getElem?_take, if_pos hjm]; simpa using hj) hd (hin k hd) (fun j' o' h1 h2 => (huniq j' o' k (tk j' o' h1).2 hd h2).symm)]
     simp [vs, hj, hd]
   · rw [putAll_other _ _ _ _ _ (fun o ho e => by
      obtain ⟨j, hj⟩ := List.getElem?_of_mem ho
      obtain ⟨q1, q2⟩ := tk j o hj
      exact hk ⟨j, o, q1, q2, e⟩)]
     exact (hoth k (fun j o hj hd => by
      by_cases hjm : j < m
      · exact absurd ⟨j, o, hjm, hj, hd⟩ hk
      · exact hlate j (by omega))).symm
  rw [hfuel, hun, hle, ← he]; exact hq
 have early : ∀ (listed : Array Bool) (a : Act) (W : World), Inv listed a W → (¬ ∀ i, i < m → listed.getD i false = true) → ∀ i ∈ Region.ready .any ops listed, i < m := by
  intro listed a W ⟨_, _, _, _, _, _, hlate, hcl⟩ hnot i hi
  obtain ⟨_, o, ho, haft⟩ := mem_ready.1 hi
  refine Decidable.byContradiction fun him => hnot ?_
  by_cases hie : i = m
  · subst hie
    -- all ahead are listed
    have : ∀ d, ∀ j, j + d = i → j < i → listed.getD j false = true := by
     intro d
     induction d using Nat.strongRecOn with
     | _ d ih =>
      intro j hjd hj
      obtain ⟨k, k1, k2, ok, hok', e, he, e1, e2⟩ := f1 j hj
      by_cases hki : k = i
      · subst hki
        rw [ho] at hok'; cases hok'
        have := haft e he e2
        rwa [e1] at this
      · have hk := ih (i - k) (by omega) k (by omega) (by omega)
        have := hcl k ok hok' hk e he e2
        rwa [e1] at this
    exact fun j hj => this (i - j) j (by omega) hj
  · exfalso
    obtain ⟨e, he, e1, e2⟩ := f2 i o (by omega) ho
    have := haft e he e2
    rw [e1, hlate (i - 1) (by omega)] at this
    cases this
 have main : ∀ (fuel : Nat) (listed : Array Bool) (a : Act) (W : World), fuel = unlisted listed → Inv listed a W → wpAny Tryz.prog .any ops Q fuel listed a W := by
  have step : ∀ (listed : Array Bool) (a : Act) (W : World), Inv listed a W → ∀ i ∈ Region.ready .any ops listed, i < m → ∀ K : Act → World → Prop, (∀ a' W', Inv (listed.setIfInBounds i true) a' W' → K a' W') → wpOp Tryz.prog ops Q i K a W := by
   intro listed a W ⟨hB, hdf, hsz, hoth, hphi, hls, hlate, hcl⟩ i hi him K hK
   obtain ⟨hun, o, ho, haft⟩ := mem_ready.1 hi
   have hil : i < ops.size := (Array.getElem?_eq_some_iff.1 ho).1
   obtain ⟨hg, hdo⟩ := hops.get (k := i) (o := o) (by rw [List.getElem?_take, if_pos him]; simpa using ho)
   obtain ⟨hback, hin, huniq⟩ := regionOk_spec hok ho
   unfold wpOp
   rw [ho]
   simp only [Region.wanted, hg, if_true]
   left
   refine hdo a W hB (fun k hk => ?_) (fun e he hb oe d hoe hd => hphi e.on oe d hoe (haft e he hb) hd) K (fun v W' hbW hv => hK _ _ ⟨ptrans hB hbW, (defers_put _ _ _).trans hdf, (size_put _ _ _).trans hsz, fun k hk => ?_, fun j oj d hj hlj hd => ?_, by simpa using hls, fun j hj => ?_, fun j oj hj hlj e he hb => ?_⟩)
   · rw [List.all_eq_true] at hk
     exact hoth k (fun j oj hj hd => by
      have := hk oj (List.mem_of_getElem? (i := j) (by simpa using hj))
      rw [hd] at this; simp at this)
   · have hne : ¬ o.dst = some k := fun e => by
      have := hk i o ho e
      rw [getD_set listed i i (by omega), if_pos rfl] at this
      cases this
     rw [slot_put, if_neg (fun hh => hne hh.1)]
     refine hoth k (fun j oj hj hd => ?_)
     have := hk j oj hj hd
     rw [getD_set listed i j (by omega)] at this
     by_cases hji : j = i
     · subst hji; rw [ho] at hj; cases hj; exact absurd hd hne
     · rwa [if_neg hji] at this
   · rw [getD_set listed i j (by omega)] at hlj
     by_cases hji : j = i
     · subst hji
       rw [ho] at hj; cases hj
       rw [slot_put, if_pos ⟨hd, by rw [hsz]; exact hin d hd⟩]
       rw [show 0 + j = j by omega] at hv
       exact hv
     · rw [if_neg hji] at hlj
       have hne : ¬ o.dst = some d := fun e => hji (huniq j oj d hj e hd).symm
       rw [slot_put, if_neg (fun hh => hne hh.1)]
       exact hmono j _ W W' (hphi j oj d hj hlj hd) hbW
   · rw [getD_set listed i j (by omega), if_neg (by omega)]; exact hlate j hj
   · rw [getD_set listed i j (by omega)] at hlj
     have : listed.getD e.on false = true := by
      by_cases hji : j = i
      · subst hji; rw [ho] at hj; cases hj; exact haft e he hb
      · rw [if_neg hji] at hlj; exact hcl j oj hj hlj e he hb
     rw [getD_set listed i e.on (by omega)]
     split
     · rfl
     · exact this
  intro fuel
  induction fuel with
  | zero =>
   intro listed a W hf hI
   refine done listed a W hI (fun i hi => ?_) 0 hf
   cases hh : listed.getD i false with
   | true => rfl
   | false =>
    exfalso
    have : listed.getD i true = false := by
     have hls := hI.2.2.2.2.2.1
     have : i < listed.size := by omega
     simpa [Array.getD, this] using hh
    have := unlisted_set this
    omega
  | succ fuel ih =>
   intro listed a W hf hI
   by_cases hall : ∀ i, i < m → listed.getD i false = true
   · exact done listed a W hI hall _ hf
   · refine ⟨fun hr => ?_, fun i hi => step listed a W hI i hi (early listed a W hI hall i hi) _ (fun a' W' hI' => ih _ a' W' ?_ hI')⟩
     · exfalso
       refine hall ?_
       intro i
       induction i using Nat.strongRecOn with
       | _ i ihi =>
        intro hi
        cases hl : listed.getD i false with
        | true => rfl
        | false =>
         exfalso
         have hls := hI.2.2.2.2.2.1
         have hio : i < ops.size := by omega
         have : i ∈ Region.ready .any ops listed := mem_ready.2 ⟨by rw [← hl]; simp [Array.getD, hls, hio], ops[i], Array.getElem?_eq_getElem hio, fun e he hbd => by
          have := (regionOk_spec hok (Array.getElem?_eq_getElem hio)).1 e he hbd
          exact ihi e.on this (by omega)⟩
         rw [hr] at this
         cases this
     · have := unlisted_set (mem_ready.1 hi).1
       omega
 refine wp_region_any hm (main _ _ _ _ ?_ ?_)
 · unfold unlisted
   rw [Array.toList_replicate, List.countP_replicate]
   simp
 · refine ⟨⟨rfl, rfl, rfl, Nat.le_refl _, fun _ _ => rfl⟩, rfl, rfl, fun _ _ => rfl, fun i o d ho hl _ => ?_, by simp, fun j _ => ?_, fun i o ho hl => ?_⟩
   · have hil : i < ops.size := (Array.getElem?_eq_some_iff.1 ho).1
     simp [Array.getD, hil] at hl
   · simp [Array.getD]
   · simp [Array.getD] at hl
end
end

section
open Go.RowKit Go.Maps
abbrev Ph := Value → World → Prop
def phi (l : List Ph) (i : Nat) (v : Value) (W : World) : Prop := (l.getD i (fun _ _ => True)) v W
def isV (x : Value) : Ph := fun v _ => v = x
def isSl (xs : List Value) : Ph := fun v W => ∃ A c, v = .slice A xs.length c ∧ SliceAt W A xs
def isQ (c : Prop) (r : Int) : Ph := fun v W => ∃ g lb, v = .func (.func g) #[] lb ∧ (c → Question W (.func (.func g) #[] lb) r)
def isAsk (n : Nat) (es : List Int) : Ph := fun v W => ∃ A c vs, v = .slice A n c ∧ vs.length = n ∧ SliceAt W A vs ∧ Asked W vs es
def StaysP (p : Ph) : Prop := ∀ v W W', p v W → Below W.heap.size W W' → p v W'
theorem kv {x : Value} {R : World → World → Prop} : ∀ v W W', isV x v W → R W W' → isV x v W' := fun _ _ _ g _ => g
theorem stays_V (x : Value) : StaysP (isV x) := fun _ _ _ g _ => g
theorem stays_Sl (xs : List Value) : StaysP (isSl xs) := fun _ _ _ ⟨A, c, h1, h2⟩ hb => ⟨A, c, h1, h2.below hb⟩
theorem stays_Q (c : Prop) (r : Int) : StaysP (isQ c r) := fun _ _ _ ⟨g, lb, h1, h2⟩ hb => ⟨g, lb, h1, fun hc => (h2 hc).later hb⟩
theorem isQ.of {W : World} {v : Value} {r : Int} (h : Question W v r) : isQ True r v W := by
 obtain ⟨g, lb, rfl, h1⟩ := h
 exact ⟨g, lb, rfl, fun _ => ⟨g, lb, rfl, h1⟩⟩
theorem Asked.later {w w' : World} {vs : List Value} {es : List Int} (h : Asked w vs es) (hb : Below w.heap.size w w') : Asked w' vs es :=
 ⟨h.1, fun j e he h0 => by obtain ⟨v, h1, h2⟩ := h.2 j e he h0; exact ⟨v, h1, h2.later hb⟩⟩
theorem stays_Ask (n : Nat) (es : List Int) : StaysP (isAsk n es) := fun _ _ _ ⟨A, c, vs, h1, h2, h3, h4⟩ hb => ⟨A, c, vs, h1, h2, h3.below hb, h4.later hb⟩
theorem stays_phi {l : List Ph} (h : ∀ p ∈ l, StaysP p) (i : Nat) (v : Value) (W W' : World) (hp : phi l i v W) (hb : Below W.heap.size W W') : phi l i v W' := by
 unfold phi at *
 rw [List.getD_eq_getElem?_getD] at *
 cases hi : l[i]? with
 | none => trivial
 | some p => rw [hi] at hp; exact h p (List.mem_of_getElem? hi) v W W' hp hb
def isAskL (t : PT) (dir : Int) (s : ByteArray) (f : Value) : Ph := fun v W => ∃ A c v1 v2 v3, v = .slice A 4 c ∧ SliceAt W A [v1, v2, v3, f] ∧ Question W v1 (namesE [s]) ∧ Question W v2 (thereE t [dir]) ∧ ((∀ i ∈ [dir], (t.n i).isSome = true) → Question W v3 (dirsE t [dir]))
theorem stays_AskL (t : PT) (dir : Int) (s : ByteArray) (f : Value) : StaysP (isAskL t dir s f) := fun _ _ _ ⟨A, c, v1, v2, v3, h1, h2, h3, h4, h5⟩ hb => ⟨A, c, v1, v2, v3, h1, h2.below hb, h3.later hb, h4.later hb, fun h => (h5 h).later hb⟩
theorem eval_slot (a : Act) (k : Nat) : a.eval (.tmp k) = a.tmps[k]?.getD undef := by
 show a.tmps.getD k undef = _
 rw [Array.getD_eq_getD_getElem?]
theorem op_mk {ops : Array Oper} {a0 : Act} {w0 : World} {Φ : Nat → Value → World → Prop} {Q : Exit → Act → World → Prop} {i : Nat} {o : Oper} (hg : o.guard = none)
  (h : ∀ a W, Below w0.heap.size w0 W → (∀ k, (ops.toList.all fun o => o.dst != some k) = true → a.tmps[k]?.getD undef = slot a0 k) →
   (∀ j d, (o.after.toList.any fun e => e.on == j && Region.binds .any e) = true → (ops[j]?.bind (·.dst)) = some d → Φ j (a.tmps[d]?.getD undef) W) →
   ∀ K : Act → World → Prop, (∀ v W', Below W.heap.size W W' → Φ i v W' → K (a.put o.dst v) W') → o.wp Tryz.prog a W K Q) : OpDoes ops a0 w0 Φ Q i o := by
 refine ⟨hg, fun a W h1 h2 h3 K hK => h a W h1 (fun k hk => (eval_slot a k).symm.trans (h2 k hk)) (fun j d hj hd => ?_) K hK⟩
 rw [List.any_eq_true] at hj
 obtain ⟨e, he, hb⟩ := hj
 simp only [Bool.and_eq_true, beq_iff_eq] at hb
 obtain ⟨rfl, hb⟩ := hb
 cases ho : ops[e.on]? with
 | none => simp [ho] at hd
 | some oe => rw [← eval_slot]; exact h3 e (by simpa using he) hb oe d ho (by simpa [ho] using hd)
theorem Asked.of (w : World) (vs : List Value) (es : List Int) (h1 : vs.length = es.length) (h2 : ∀ (j : Nat) (e : Int) (v : Value), es[j]? = some e → vs[j]? = some v → (∀ (i : Nat) (e' : Int), i < j → es[i]? = some e' → e' = 0) → Question w v e) : Asked w vs es :=
 ⟨h1, fun j e he h0 => by
  have hj := (List.getElem?_eq_some_iff.1 he).1
  exact ⟨vs[j], List.getElem?_eq_getElem (by omega), h2 j e _ he (List.getElem?_eq_getElem (by omega)) h0⟩⟩
theorem box_at {w W : World} {B : Nat} {v : Value} (hB : Below w.heap.size w W) (hc : w.cell? ⟨B, 0, none⟩ = some v) : W.cell? ⟨B, 0, none⟩ = some v := cell_below hB (World.block_lt_of_cell? w _ hc) hc
theorem box_new (w : World) (v : Value) (T : TypeId) : (w.alloc (.cells #[v] T)).cell? ⟨w.heap.size, 0, none⟩ = some v := by simp [World.cell?_alloc_new]
theorem box_old {w : World} {B : Nat} {v : Value} (o : Obj) (hc : w.cell? ⟨B, 0, none⟩ = some v) : (w.alloc o).cell? ⟨B, 0, none⟩ = some v := by
 rw [World.cell?_alloc_lt _ _ _ (World.block_lt_of_cell? w _ hc)]; exact hc
section
variable {F : Nat → Prop} {P N : Nat} {y : Lay} {t : PT}
def lookP (t : PT) (dir : Int) (s : ByteArray) : Int × Int :=
 if firstE [namesE [s], thereE t [dir], dirsE t [dir]] ≠ 0 then (0, firstE [namesE [s], thereE t [dir], dirsE t [dir]])
 else match t.n dir with
  | some x => ((x.l s.data.toList).getD 0, if (x.l s.data.toList).getD 0 = 0 then 3 else 0)
  | none => (0, 0)
def LookPost (t : PT) (dir : Int) (s : ByteArray) (W : World) (B : Nat) (e : Ending) (W' : World) : Prop :=
 ∃ x v : Int, e = .returned (.int .i64 x) ∧ lookP t dir s = (v, x) ∧ W.grownBy W' (some B) ∧ ∃ v0, W'.heap[B]? = some (.cells #[v0] 29 (0, 0)) ∧ v0 = .int .u32 v
theorem there_one {t : PT} {i : Int} (h : thereE t [i] = 0) : (t.n i).isSome = true := by
 unfold thereE at h
 cases hx : t.n i with
 | none => simp [hx] at h
 | some x => rfl
theorem pgrown_below {a b : World} (h : Below a.heap.size a b) (r : Option Nat) : a.grownBy b r := ⟨h.os, h.tape, h.output, h.size, fun i hi _ => h.block i hi⟩
set_option maxHeartbeats 1000000 in
theorem look_check (t : PT) (dir : Int) (s : ByteArray) (P : Nat) (A : Option Addr) (v1 v2 v3 v4 : Value) (c : Nat) (W : World) (B : Nat) (hc : W.heap[B]? = some (.cells #[.int .u32 0] 29 (0, 0))) (hA : SliceAt W A [v1, v2, v3, v4])
  (q1 : Question W v1 (namesE [s])) (q2 : Question W v2 (thereE t [dir])) (q3 : (∀ i ∈ [dir], (t.n i).isSome = true) → Question W v3 (dirsE t [dir]))
  (q4 : ∀ x, t.n dir = some x → Does W v4 (Puts B ((x.l s.data.toList).getD 0) (if (x.l s.data.toList).getD 0 = 0 then 3 else 0))) :
  Calls Tryz.prog 80 #[.pointer (some ⟨P, 0, none⟩), .slice A 4 c] W (LookPost t dir s W B) := by
 by_cases h : firstE [namesE [s], thereE t [dir], dirsE t [dir]] = 0
 · obtain ⟨z1, z2, z3⟩ : namesE [s] = 0 ∧ thereE t [dir] = 0 ∧ dirsE t [dir] = 0 := by
    unfold firstE at h; split at h
    · rename_i a; unfold firstE at h; split at h
      · rename_i b; unfold firstE at h; split at h
        · rename_i c; exact ⟨a, b, c⟩
        · exact ⟨a, b, h⟩
      · rename_i b; exact absurd h b
    · rename_i a; exact absurd h a
   rw [z1] at q1
   rw [z2] at q2
   rw [z3] at q3
   have hi := there_one z2
   obtain ⟨x, hx⟩ := Option.isSome_iff_exists.1 hi
   have hl : lookP t dir s = ((x.l s.data.toList).getD 0, if (x.l s.data.toList).getD 0 = 0 then 3 else 0) := by
    unfold lookP; rw [if_neg (by rw [h]; simp), hx]
   have q3' := q3 (by simpa using hi)
   refine (t_check ⟨P, 0, none⟩ A [v1, v2, v3, v4] c 3 _ W (by simp [maxLen]) hA (fun j v hj hv => ?_) v4 rfl (q4 x hx) (fun _ _ _ _ => .inr rfl)).mono ?_
   · match j, hj with
     | 0, _ => simp at hv; subst hv; exact q1
     | 1, _ => simp at hv; subst hv; exact q2
     | 2, _ => simp at hv; subst hv; exact q3'
   · rintro e W' ⟨z, W1, rfl, hb, hz, hg, v0, hc2, hc3⟩
     exact ⟨z, _, rfl, by rw [hl, hz], pgrown_trans (pgrown_below hb _) hg, v0, hc2, hc3⟩
 · refine (t_checkL ⟨P, 0, none⟩ A [v1, v2, v3, v4] 4 c [namesE [s], thereE t [dir], dirsE t [dir], 0] _ rfl W rfl (by simp [maxLen]) hA (Asked.of W _ _ rfl fun j e v he hv h0 => ?_) (by simp)).mono ?_
   · match j with
     | 0 => simp at he hv; subst he; subst hv; exact q1
     | 1 => simp at he hv; subst he; subst hv; exact q2
     | 2 =>
      simp at he hv; subst he; subst hv
      refine q3 ?_
      have := h0 1 (thereE t [dir]) (by omega) rfl
      simpa using there_one this
     | 3 =>
      exfalso
      refine h ?_
      have z1 := h0 0 (namesE [s]) (by omega) rfl
      have z2 := h0 1 (thereE t [dir]) (by omega) rfl
      have z3 := h0 2 (dirsE t [dir]) (by omega) rfl
      simp [firstE, z1, z2, z3]
     | j + 4 => simp at he
   · rintro e W' ⟨rfl, hb⟩
     have hl : lookP t dir s = (0, firstE [namesE [s], thereE t [dir], dirsE t [dir]]) := by unfold lookP; rw [if_pos h]
     have he : firstE [namesE [s], thereE t [dir], dirsE t [dir], 0] = firstE [namesE [s], thereE t [dir], dirsE t [dir]] := by simp [firstE]
     exact ⟨_, 0, rfl, by rw [hl, he], pgrown_below hb _, _, (hb.block _ (Array.getElem?_eq_some_iff.1 hc).1).trans hc, rfl⟩
theorem below_grown {a b c : World} {B : Nat} (h : Below a.heap.size a b) (hg : b.grownBy c (some B)) (hB : a.heap.size ≤ B) : Below a.heap.size a c :=
 ⟨hg.os.trans h.os, hg.tape.trans h.tape, hg.output.trans h.output, Nat.le_trans h.size hg.size, fun i hi => (hg.block i (Nat.lt_of_lt_of_le hi h.size) (fun e => by injection e with e; omega)).trans (h.block i hi)⟩
set_option maxRecDepth 100000 in
set_option maxHeartbeats 4000000 in
theorem t_look (dir : Int) (s : ByteArray) (r1 r2 : Int) (hr : lookP t dir s = (r1, r2)) (w : World) (h : TreeM w F P N y t) (hd : U32 dir) (hs : s.size ≤ maxLen) :
  Calls Tryz.prog 145 #[.pointer (some ⟨P, 0, none⟩), .int .u32 dir, .string s] w fun e w' => e = .returned (.tuple #[.int .u32 r1, .int .i64 r2]) ∧ Below w.heap.size w w' := by
 go_enter Tryz.func145, Tryz.ntmps145
 go_wp2
 obtain ⟨w0, hw0⟩ : ∃ w0, (((w.alloc (.cells #[.pointer (some ⟨P, 0, none⟩)] 43)).alloc (.cells #[.int .u32 dir] 29)).alloc (.cells #[.string s] 9)).alloc (.cells #[.int .u32 0] 29) = w0 := ⟨_, rfl⟩
 rw [hw0]
 have b3 : w0.cell? ⟨w.heap.size, 0, none⟩ = some (.pointer (some ⟨P, 0, none⟩)) := by rw [← hw0]; exact box_old _ (box_old _ (box_old _ (box_new _ _ _)))
 have b4 : w0.cell? ⟨w.heap.size + 1, 0, none⟩ = some (.int .u32 dir) := by
  rw [← hw0, show w.heap.size + 1 = (w.alloc (.cells #[.pointer (some ⟨P, 0, none⟩)] 43)).heap.size by simp]; exact box_old _ (box_old _ (box_new _ _ _))
 have b5 : w0.cell? ⟨w.heap.size + 1 + 1, 0, none⟩ = some (.string s) := by
  rw [← hw0, show w.heap.size + 1 + 1 = ((w.alloc (.cells #[.pointer (some ⟨P, 0, none⟩)] 43)).alloc (.cells #[.int .u32 dir] 29)).heap.size by simp]; exact box_old _ (box_new _ _ _)
 have h6 : w0.heap[w.heap.size + 1 + 1 + 1]? = some (.cells #[.int .u32 0] 29 (0, 0)) := by
  rw [← hw0, show w.heap.size + 1 + 1 + 1 = (((w.alloc (.cells #[.pointer (some ⟨P, 0, none⟩)] 43)).alloc (.cells #[.int .u32 dir] 29)).alloc (.cells #[.string s] 9)).heap.size by simp]; exact heap_alloc_new _ _
 have hsz : w0.heap.size = w.heap.size + 4 := by rw [← hw0]; simp
 have hBw : Below w.heap.size w w0 := by rw [← hw0]; exact ((((Below.refl _ _).alloc (Nat.le_refl _) _).alloc (by simp) _).alloc (by simp; omega) _).alloc (by simp; omega) _
 have hT : TreeM w0 F P N y t := h.below hBw
 clear hw0
 refine wp_region_front 14 (phi [isV (.pointer (some ⟨P, 0, none⟩)), isV (.string s), isSl [.string s], isQ True (namesE [s]), isV (.pointer (some ⟨P, 0, none⟩)), isV (.int .u32 dir), isSl [.int .u32 dir], isQ True (thereE t [dir]),
  isV (.pointer (some ⟨P, 0, none⟩)), isV (.int .u32 dir), isSl [.int .u32 dir], isQ (∀ i ∈ [dir], (t.n i).isSome = true) (dirsE t [dir]), isV (.func (.func 234) #[] #[.pointer (some ⟨w.heap.size, 0, none⟩), .pointer (some ⟨w.heap.size + 1, 0, none⟩), .pointer (some ⟨w.heap.size + 1 + 1, 0, none⟩), .pointer (some ⟨w.heap.size + 1 + 1 + 1, 0, none⟩)]),
  isAskL t dir s (.func (.func 234) #[] #[.pointer (some ⟨w.heap.size, 0, none⟩), .pointer (some ⟨w.heap.size + 1, 0, none⟩), .pointer (some ⟨w.heap.size + 1 + 1, 0, none⟩), .pointer (some ⟨w.heap.size + 1 + 1 + 1, 0, none⟩)])]) (by kernel_rfl) (by kernel_rfl) (by kernel_rfl) ?_ ?_ ?_
 · refine stays_phi ?_
   simp only [List.forall_mem_cons]
   exact ⟨stays_V _, stays_V _, stays_Sl _, stays_Q _ _, stays_V _, stays_V _, stays_Sl _, stays_Q _ _, stays_V _, stays_V _, stays_Sl _, stays_Q _ _, stays_V _, stays_AskL _ _ _ _, fun _ h => absurd h (by simp)⟩
 · refine ⟨?_, ?_, ?_, ?_, ?_, ?_, ?_, ?_, ?_, ?_, ?_, ?_, ?_, ?_, trivial⟩
   · refine op_mk rfl fun a W hB hp hq K hK => ?_
     have e3 : a.tmps[3]?.getD undef = .pointer (some ⟨w.heap.size, 0, none⟩) := hp 3 (by kernel_rfl)
     have c3 := box_at hB b3
     clear hp hq
     go_simp
     exact hK _ _ (Below.refl _ _) rfl
   · refine op_mk rfl fun a W hB hp hq K hK => ?_
     have e5 : a.tmps[5]?.getD undef = .pointer (some ⟨w.heap.size + 1 + 1, 0, none⟩) := hp 5 (by kernel_rfl)
     have c5 := box_at hB b5
     clear hp hq
     go_simp
     exact hK _ _ (Below.refl _ _) rfl
   · refine op_mk rfl fun a W hB hp hq K hK => ?_
     have e9 : a.tmps[9]?.getD undef = .string s := hq 1 9 (by kernel_rfl) (by kernel_rfl)
     clear hp hq
     go_simp
     exact hK _ _ ((Below.refl _ _).alloc (Nat.le_refl _) _) ⟨_, _, rfl, SliceAt.built _ _ _⟩
   · refine op_mk rfl fun a W hB hp hq K hK => ?_
     obtain ⟨A, c, e10, hA⟩ : isSl [.string s] (a.tmps[10]?.getD undef) W := hq 2 10 (by kernel_rfl) (by kernel_rfl)
     have HA := zz hA
     have HB := zz hB
     clear hp hq hA hB
     go_simp
     refine (t_names [s] A 1 c _ rfl W rfl (by simpa using hs) (by simp [maxLen]) HA.out).mono ?_
     rintro e w' ⟨v, rfl, hv, hb⟩
     exact hK _ _ hb (isQ.of hv)
   · refine op_mk rfl fun a W hB hp hq K hK => ?_
     have e3 : a.tmps[3]?.getD undef = .pointer (some ⟨w.heap.size, 0, none⟩) := hp 3 (by kernel_rfl)
     have c3 := box_at hB b3
     clear hp hq
     go_simp
     exact hK _ _ (Below.refl _ _) rfl
   · refine op_mk rfl fun a W hB hp hq K hK => ?_
     have e4 : a.tmps[4]?.getD undef = .pointer (some ⟨w.heap.size + 1, 0, none⟩) := hp 4 (by kernel_rfl)
     have c4 := box_at hB b4
     clear hp hq
     go_simp
     exact hK _ _ (Below.refl _ _) rfl
   · refine op_mk rfl fun a W hB hp hq K hK => ?_
     have e13 : a.tmps[13]?.getD undef = .int .u32 dir := hq 5 13 (by kernel_rfl) (by kernel_rfl)
     clear hp hq
     go_simp
     exact hK _ _ ((Below.refl _ _).alloc (Nat.le_refl _) _) ⟨_, _, rfl, SliceAt.built _ _ _⟩
   · refine op_mk rfl fun a W hB hp hq K hK => ?_
     have e12 : a.tmps[12]?.getD undef = .pointer (some ⟨P, 0, none⟩) := hq 4 12 (by kernel_rfl) (by kernel_rfl)
     obtain ⟨A, c, e14, hA⟩ : isSl [.int .u32 dir] (a.tmps[14]?.getD undef) W := hq 6 14 (by kernel_rfl) (by kernel_rfl)
     have HA := zz hA
     have HB := zz hB
     clear hp hq hA hB
     go_simp
     refine (t_there [dir] A 1 c _ rfl W (hT.below HB.out) rfl (by simpa using hd) (by simp [maxLen]) HA.out).mono ?_
     rintro e w' ⟨v, rfl, hv, hb⟩
     exact hK _ _ hb (isQ.of hv)
   · refine op_mk rfl fun a W hB hp hq K hK => ?_
     have e3 : a.tmps[3]?.getD undef = .pointer (some ⟨w.heap.size, 0, none⟩) := hp 3 (by kernel_rfl)
     have c3 := box_at hB b3
     clear hp hq
     go_simp
     exact hK _ _ (Below.refl _ _) rfl
   · refine op_mk rfl fun a W hB hp hq K hK => ?_
     have e4 : a.tmps[4]?.getD undef = .pointer (some ⟨w.heap.size + 1, 0, none⟩) := hp 4 (by kernel_rfl)
     have c4 := box_at hB b4
     clear hp hq
     go_simp
     exact hK _ _ (Below.refl _ _) rfl
   · refine op_mk rfl fun a W hB hp hq K hK => ?_
     have e17 : a.tmps[17]?.getD undef = .int .u32 dir := hq 9 17 (by kernel_rfl) (by kernel_rfl)
     clear hp hq
     go_simp
     exact hK _ _ ((Below.refl _ _).alloc (Nat.le_refl _) _) ⟨_, _, rfl, SliceAt.built _ _ _⟩
   · refine op_mk rfl fun a W hB hp hq K hK => ?_
     have e16 : a.tmps[16]?.getD undef = .pointer (some ⟨P, 0, none⟩) := hq 8 16 (by kernel_rfl) (by kernel_rfl)
     obtain ⟨A, c, e18, hA⟩ : isSl [.int .u32 dir] (a.tmps[18]?.getD undef) W := hq 10 18 (by kernel_rfl) (by kernel_rfl)
     have HA := zz hA
     have HB := zz hB
     clear hp hq hA hB
     go_simp
     refine (t_dirsI [dir] A 1 c _ rfl W (hT.below HB.out) rfl (by simp [maxLen]) HA.out).mono ?_
     rintro e w' ⟨g, lb, rfl, hv, hb⟩
     exact hK _ _ hb ⟨g, lb, rfl, hv⟩
   · refine op_mk rfl fun a W hB hp hq K hK => ?_
     have e3 : a.tmps[3]?.getD undef = .pointer (some ⟨w.heap.size, 0, none⟩) := hp 3 (by kernel_rfl)
     have e4 : a.tmps[4]?.getD undef = .pointer (some ⟨w.heap.size + 1, 0, none⟩) := hp 4 (by kernel_rfl)
     have e5 : a.tmps[5]?.getD undef = .pointer (some ⟨w.heap.size + 1 + 1, 0, none⟩) := hp 5 (by kernel_rfl)
     have e6 : a.tmps[6]?.getD undef = .pointer (some ⟨w.heap.size + 1 + 1 + 1, 0, none⟩) := hp 6 (by kernel_rfl)
     clear hp hq
     go_simp
     exact hK _ _ (Below.refl _ _) rfl
   · refine op_mk rfl fun a W hB hp hq K hK => ?_
     obtain ⟨g1, l1, q1, h1⟩ : isQ True (namesE [s]) (a.tmps[11]?.getD undef) W := hq 3 11 (by kernel_rfl) (by kernel_rfl)
     obtain ⟨g2, l2, q2, h2⟩ : isQ True (thereE t [dir]) (a.tmps[15]?.getD undef) W := hq 7 15 (by kernel_rfl) (by kernel_rfl)
     obtain ⟨g3, l3, q3, h3⟩ : isQ (∀ i ∈ [dir], (t.n i).isSome = true) (dirsE t [dir]) (a.tmps[19]?.getD undef) W := hq 11 19 (by kernel_rfl) (by kernel_rfl)
     have q4 : a.tmps[20]?.getD undef = .func (.func 234) #[] #[.pointer (some ⟨w.heap.size, 0, none⟩), .pointer (some ⟨w.heap.size + 1, 0, none⟩), .pointer (some ⟨w.heap.size + 1 + 1, 0, none⟩), .pointer (some ⟨w.heap.size + 1 + 1 + 1, 0, none⟩)] := hq 12 20 (by kernel_rfl) (by kernel_rfl)
     have H1 := zz h1
     have H2 := zz h2
     have H3 := zz h3
     clear hp hq h1 h2 h3
     go_simp
     have hb := (Below.refl W.heap.size W).alloc (Nat.le_refl _) (.cells #[.func (.func g1) #[] l1, .func (.func g2) #[] l2, .func (.func g3) #[] l3, .func (.func 234) #[] #[.pointer (some ⟨w.heap.size, 0, none⟩), .pointer (some ⟨w.heap.size + 1, 0, none⟩), .pointer (some ⟨w.heap.size + 1 + 1, 0, none⟩), .pointer (some ⟨w.heap.size + 1 + 1 + 1, 0, none⟩)]] 159)
     exact hK _ _ hb ⟨_, _, _, _, _, rfl, SliceAt.built _ _ _, (H1.out trivial).later hb, (H2.out trivial).later hb, fun h => (H3.out h).later hb⟩
 · intro vs W hB hv
   have f0 : vs 0 = .pointer (some ⟨P, 0, none⟩) := hv 0 (by decide) (by kernel_rfl)
   obtain ⟨A, c, v1, v2, v3, f13, hA, q1, q2, q3⟩ : isAskL t dir s _ (vs 13) W := hv 13 (by decide) (by kernel_rfl)
   clear hv
   have hlook : ∀ x, t.n dir = some x → Does W (.func (.func 234) #[] #[.pointer (some ⟨w.heap.size, 0, none⟩), .pointer (some ⟨w.heap.size + 1, 0, none⟩), .pointer (some ⟨w.heap.size + 1 + 1, 0, none⟩), .pointer (some ⟨w.heap.size + 1 + 1 + 1, 0, none⟩)]) (Puts (w.heap.size + 1 + 1 + 1) ((x.l s.data.toList).getD 0) (if (x.l s.data.toList).getD 0 = 0 then 3 else 0)) := fun x hx =>
    ⟨_, _, rfl, enters_look, fun W1 hW1 => t_look1 dir x s _ _ _ _ _ _ _ rfl rfl W1 (hT.below (ptrans hB hW1)) hx hs (box_at (ptrans hB hW1) b3) (box_at (ptrans hB hW1) b4) (box_at (ptrans hB hW1) b5) (((ptrans hB hW1).block _ (by omega)).trans h6)⟩
   have hcell : W.heap[w.heap.size + 1 + 1 + 1]? = some (.cells #[.int .u32 0] 29 (0, 0)) := (hB.block _ (by omega)).trans h6
   have hlt : w.heap.size + 1 + 1 + 1 < W.heap.size := Nat.lt_of_lt_of_le (by omega) hB.size
   have hBW : Below w.heap.size w W := ptrans hBw hB
   have HC : Hid (Calls Tryz.prog 80 #[.pointer (some ⟨P, 0, none⟩), .slice A 4 c] W (LookPost t dir s W (w.heap.size + 1 + 1 + 1))) := look_check t dir s P A v1 v2 v3 _ c W _ hcell hA q1 q2 q3 hlook
   have HCL := zz hcell
   clear hlook hA q1 q2 q3 hB b3 b4 b5 h6 hT hcell
   refine (show wpAny Tryz.prog .any _ _ 2 _ _ W from ?_)
   refine wpAny_one (i := 14) (by kernel_rfl) (by rfl) rfl (fun K hK => ?_)
   simp only [List.take_succ_cons, List.take_zero, putAll, Act.put, List.setIfInBounds_toArray, List.set_cons_succ, List.set_cons_zero, Nat.zero_add, Nat.reduceAdd, f0, f13] at hK ⊢
   go_simp
   refine HC.out.mono ?_
   rintro e W2 ⟨x, v, rfl, hR⟩
   have HR := zz hR
   clear hR
   refine hK _ _ (wpAny_one (i := 15) (by kernel_rfl) (by rfl) rfl fun K2 hK2 => ?_)
   go_simp
   refine hK2 _ _ (wpAny_end (by kernel_rfl) ?_)
   clear hK hK2
   obtain ⟨hl, hg, v0, hbx, rfl⟩ := HR.out
   have k6 : W2.cell? ⟨w.heap.size + 1 + 1 + 1, 0, none⟩ = some (.int .u32 v) := by simp [World.cell?, hbx]
   have k7 : W2.frozen? ⟨w.heap.size + 1 + 1 + 1, 0, none⟩ = false := by simp [World.frozen?, hbx]
   have HB2 : Hid (Below w.heap.size w W2) := below_grown hBW hg (by omega)
   have HF : Hid (r1 = v ∧ r2 = x) := by rw [hl] at hr; injection hr with a b; exact ⟨a.symm, b.symm⟩
   have kk : (W2.setCell ⟨w.heap.size + 1 + 1 + 1, 0, none⟩ (.int .u32 v)).cell? ⟨w.heap.size + 1 + 1 + 1, 0, none⟩ = some (.int .u32 v) := by
    have := pheap_set W2 _ 0 (.int .u32 v) _ _ hbx
    simp [World.cell?, this]
   clear hl hg hbx HR HCL HC
   go_wp2
   exact bodyPost_ret (v := .tuple #[.int .u32 v, .int .i64 x]) (by simp [results, Tryz.results145, go_sem, kk]) rfl ⟨by rw [HF.out.1, HF.out.2], HB2.out.setCell (by show w.heap.size ≤ w.heap.size + 1 + 1 + 1; omega) _⟩
end
end

section
open Go.RowKit Go.Sort
def gA (d : Array Int) (j : Nat) : Int := d[j]!
end
section
open Go.RowKit Go.Sort
theorem ret_int {k : IntKind} {a b : Int} (h : a = b) : Ending.returned (.int k a) = .returned (.int k b) := by rw [h]
end
end Go.Proofs.YtpcnolkdnmolgaaGreatDoor
