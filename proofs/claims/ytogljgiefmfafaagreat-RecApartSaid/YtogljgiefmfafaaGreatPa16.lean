/- A drawn region in which some operations, one behind the other, turn memory from one state to the next; the others keep each state. -/
import Derived.Test.YtogljgiefmfafaaGreatPa05
import Derived.Test.YtogljgiefmfafaaGreatPa12
import Derived.Test.YtogljgiefmfafaaGreatPa14
import Derived.Test.YtogljgiefmfafaaGreatPa15
import Derived.Laws.EntriesVeiled
import Derived.Laws.OwnMore
namespace Go.Proofs.YtogljgiefmfafaaGreat
open Go.RowKit Go.Maps
variable {Q : Exit → Act → World → Prop}
/-- Which of the steps an operation is. -/
def stepOf (ks : List Nat) (i : Nat) : Option Nat := ks.idxOf? i
theorem stepOf_some {ks : List Nat} {i m : Nat} (h : stepOf ks i = some m) : ks[m]? = some i := by
  unfold stepOf at h
  rw [List.idxOf?_eq_some_iff] at h
  obtain ⟨h1, h2, _⟩ := h
  rw [List.getElem?_eq_getElem h1]
  rw [h2]
theorem stepOf_none {ks : List Nat} {i : Nat} (h : stepOf ks i = none) : ∀ m : Nat, ks[m]? ≠ some i := fun m hm => by
  unfold stepOf at h
  rw [List.idxOf?_eq_none_iff] at h
  exact h (List.mem_of_getElem? hm)
/-- Each step waits for the one ahead of it. -/
def chainOk (ops : Array Oper) (ks : List Nat) : Bool :=
  decide ks.Nodup && (List.range ks.length).all fun m => match ks[m]?, ks[m + 1]? with
    | some k, some k' => (match ops[k']? with | some o => o.after.toList.any fun e => e.on == k && Region.binds .any e | none => false)
    | _, _ => true
theorem chainOk_spec {ops : Array Oper} {ks : List Nat} (h : chainOk ops ks = true) : ks.Nodup ∧ ∀ (m k k' : Nat) (o : Oper), ks[m]? = some k → ks[m + 1]? = some k' → ops[k']? = some o → ∃ e ∈ o.after, e.on = k ∧ Region.binds .any e = true := by
  unfold chainOk at h
  rw [Bool.and_eq_true, List.all_eq_true] at h
  refine ⟨by simpa using h.1, fun m k k' o h1 h2 h3 => ?_⟩
  have := h.2 m (List.mem_range.2 (List.getElem?_eq_some_iff.1 h1).1)
  simp only [h1, h2, h3, List.any_eq_true, Bool.and_eq_true, beq_iff_eq] at this
  obtain ⟨e, he, h4, h5⟩ := this
  exact ⟨e, by simpa using he, h4, h5⟩
/-- The address of each store was yielded by an operation that it waits for, or by none of the region. -/
def storesOk2 (ops : Array Oper) : Bool :=
  (List.range ops.size).all fun i => match ops[i]? with
    | none => true
    | some o => match o.dst with
      | some _ => true
      | none => match ptrOf o.op with
        | none => true
        | some p => (o.after.toList.any fun e => Region.binds .any e && match ops[e.on]? with | some oe => oe.dst == some p | none => false) || ops.toList.all fun oo => oo.dst != some p
theorem storesOk2_spec {ops : Array Oper} (h : storesOk2 ops = true) {i : Nat} {o : Oper} {p : Tmp} (hi : ops[i]? = some o) (hd : o.dst = none) (hp : ptrOf o.op = some p) :
    (∃ e ∈ o.after, Region.binds .any e = true ∧ ∃ oe, ops[e.on]? = some oe ∧ oe.dst = some p) ∨ ∀ (k : Nat) (oo : Oper), ops[k]? = some oo → oo.dst ≠ some p := by
  unfold storesOk2 at h
  rw [List.all_eq_true] at h
  have h1 := h i (List.mem_range.2 (Array.getElem?_eq_some_iff.1 hi).1)
  simp only [hi, hd, hp, Bool.or_eq_true] at h1
  rcases h1 with h1 | h1
  · left
    simp only [List.any_eq_true, Bool.and_eq_true] at h1
    obtain ⟨e, he, hb, h2⟩ := h1
    refine ⟨e, by simpa using he, hb, ?_⟩
    cases ho : ops[e.on]? with
    | none => rw [ho] at h2; cases h2
    | some oe => rw [ho] at h2; exact ⟨oe, rfl, by simpa using h2⟩
  · right
    intro k oo hk e
    rw [List.all_eq_true] at h1
    have := h1 oo (List.mem_of_getElem? (i := k) (by simpa using hk))
    rw [e] at this
    simp at this
/-- What one operation is to do. -/
def OpDoesS (ops : Array Oper) (a0 : Act) (J : Nat → World → Prop) (RelS RelW : World → World → Prop) (ks : List Nat) (Φ : Nat → Value → World → Prop) (Q : Exit → Act → World → Prop) (i : Nat) (o : Oper) : Prop :=
  ∀ a W n, J n W → n ≤ ks.length → (∀ m, stepOf ks i = some m → n = m) → (∀ k, (ops.toList.all fun o => o.dst != some k) = true → slot a k = slot a0 k) →
    (∀ e ∈ o.after, Region.binds .any e = true → ∀ oe, ops[e.on]? = some oe → Φ e.on (valOf a oe) W) →
    ∀ K : Act → World → Prop, (∀ v W', (match stepOf ks i with | some m => RelW W W' ∧ J (m + 1) W' | none => RelS W W') → Φ i (match o.dst with | some _ => v | none => valOf a o) W' → K (a.put o.dst v) W') →
      if Region.wanted o (yielded ops a.tmps) = true then o.wp Tryz.prog a W K Q else K (a.put o.dst undef) W
theorem wp_region_st {ops : Array Oper} {id : Nat} {a0 : Act} {w0 : World} (J : Nat → World → Prop) (RelS RelW : World → World → Prop) (ks : List Nat) (Φ : Nat → Value → World → Prop)
    (hm : Tryz.prog.follows .mixedOrders = true) (hok : regionOk ops a0.tmps.size = true) (hst : storesOk2 ops = true) (hks0 : (ks.all fun k => decide (k < ops.size)) = true)
    (hch : chainOk ops ks = true) (hdrew : J 0 w0.drew) (hst1 : ∀ n W W', J n W → RelS W W' → J n W') (hsw : ∀ W W', RelS W W' → RelW W W')
    (hmono : ∀ i v W W', Φ i v W → RelW W W' → Φ i v W')
    (hops : AllOps (OpDoesS ops a0 J RelS RelW ks Φ Q) 0 ops.toList)
    (hend : ∀ (vs : Nat → Value) W, J ks.length W → (∀ i o, ops[i]? = some o → o.dst.isSome = true → Φ i (vs i) W) → (∀ i o p j oj, ops[i]? = some o → o.dst = none → ptrOf o.op = some p → ops[j]? = some oj → oj.dst = some p → Φ i (vs j) W) → Q .normal (putAll ops.toList 0 vs a0) W) :
    (Code.region id ops true).wp Tryz.prog Q a0 w0 := by
  let Inv : Array Bool → Act → World → Prop := fun listed a W => (∃ n, J n W ∧ n ≤ ks.length ∧ ∀ m k : Nat, ks[m]? = some k → listed.getD k false = decide (m < n)) ∧ a.defers = a0.defers ∧ a.tmps.size = a0.tmps.size ∧
    (∀ k, (∀ j o, ops[j]? = some o → o.dst = some k → listed.getD j false = false) → slot a k = slot a0 k) ∧
    (∀ i o, ops[i]? = some o → listed.getD i false = true → Φ i (valOf a o) W) ∧ listed.size = ops.size ∧
    (∀ i o, ops[i]? = some o → listed.getD i false = true → ∀ e ∈ o.after, Region.binds .any e = true → listed.getD e.on false = true)
  obtain ⟨hnd, hchn⟩ := chainOk_spec hch
  have hks : ∀ m k : Nat, ks[m]? = some k → k < ops.size := fun m k h => by
    rw [List.all_eq_true] at hks0
    simpa using hks0 k (List.mem_of_getElem? h)
  have getD_set : ∀ (listed : Array Bool) (i j : Nat), i < listed.size → (listed.setIfInBounds i true).getD j false = if j = i then true else listed.getD j false := fun listed i j hi => by
    by_cases hji : j = i
    · subst hji; simp [Array.getD, hi]
    · rw [if_neg hji, Array.getD_eq_getD_getElem?, Array.getD_eq_getD_getElem?, Array.getElem?_setIfInBounds_ne (fun e => hji e.symm)]
  have main : ∀ (fuel : Nat) (listed : Array Bool) (a : Act) (W : World), unlisted listed ≤ fuel → Inv listed a W → wpAny Tryz.prog .any ops Q fuel listed a W := by
    have done : ∀ (listed : Array Bool) (a : Act) (W : World), Inv listed a W → Region.ready .any ops listed = [] → Q .normal a W := by
      intro listed a W ⟨hB, hdf, hsz, hoth, hphi, hls, _⟩ hr
      have all : ∀ i, i < ops.size → listed.getD i false = true := by
        intro i
        induction i using Nat.strongRecOn with
        | _ i ih =>
          intro hi
          cases hl : listed.getD i false with
          | true => rfl
          | false =>
            exfalso
            have : i ∈ Region.ready .any ops listed := mem_ready.2 ⟨by rw [← hl]; simp [Array.getD, hls, hi], ops[i], Array.getElem?_eq_getElem hi, fun e he hbd => by
              have := (regionOk_spec hok (Array.getElem?_eq_getElem hi)).1 e he hbd
              exact ih e.on this (by omega)⟩
            rw [hr] at this
            cases this
      have hB : J ks.length W := by
        obtain ⟨n, hn, hnl, hst⟩ := hB
        have : n = ks.length := by
          rcases Nat.lt_or_ge n ks.length with h | h
          · exfalso
            have h1 := hst n _ (List.getElem?_eq_getElem h)
            rw [all _ (hks n _ (List.getElem?_eq_getElem h))] at h1
            simp at h1
          · omega
        rw [← this]; exact hn
      let vs : Nat → Value := fun i => match ops[i]?.bind (·.dst) with | some d => slot a d | none => undef
      have hq := hend vs W hB (fun i o ho hsm => by
        have := hphi i o ho (all i (Array.getElem?_eq_some_iff.1 ho).1)
        unfold valOf keyOf' at this
        cases hd : o.dst with
        | none => rw [hd] at hsm; cases hsm
        | some d => rw [hd] at this; simpa [vs, ho, hd] using this) (fun i o p j oj ho hd hp hj hjd => by
        have := hphi i o ho (all i (Array.getElem?_eq_some_iff.1 ho).1)
        unfold valOf keyOf' at this
        rw [hd] at this
        simp only [hp] at this
        simpa [vs, hj, hjd] using this)
      have he : putAll ops.toList 0 vs a0 = a := by
        obtain ⟨p1, p2⟩ := putAll_size ops.toList 0 vs a0
        refine act_ext (p1.trans hsz.symm) (p2.trans hdf.symm) fun k => ?_
        by_cases hk : ∃ j : Nat, ∃ o, ops[j]? = some o ∧ o.dst = some k
        · obtain ⟨j, o, hj, hd⟩ := hk
          obtain ⟨_, hin, huniq⟩ := regionOk_spec hok hj
          rw [putAll_dst ops.toList 0 vs a0 j o k (by simpa using hj) hd (hin k hd) (fun j' o' h1 h2 => (huniq j' o' k (by simpa using h1) hd h2).symm)]
          simp [vs, hj, hd]
        · rw [putAll_other _ _ _ _ _ (fun o ho e => by
            obtain ⟨j, hj, rfl⟩ := List.getElem_of_mem ho
            exact hk ⟨j, ops.toList[j], by simp, e⟩)]
          exact (hoth k (fun j o hj hd => absurd ⟨j, o, hj, hd⟩ hk)).symm
      rw [← he]; exact hq
    have step : ∀ (listed : Array Bool) (a : Act) (W : World), Inv listed a W → ∀ i ∈ Region.ready .any ops listed, ∀ K : Act → World → Prop, (∀ a' W', Inv (listed.setIfInBounds i true) a' W' → K a' W') → wpOp Tryz.prog ops Q i K a W := by
      intro listed a W ⟨hB, hdf, hsz, hoth, hphi, hls, haf⟩ i hi K hK
      obtain ⟨hun, o, ho, haft⟩ := mem_ready.1 hi
      have hil : i < ops.size := (Array.getElem?_eq_some_iff.1 ho).1
      have hdo := hops.get (k := i) (o := o) (by simpa using ho)
      obtain ⟨hback, hin, huniq⟩ := regionOk_spec hok ho
      unfold wpOp
      rw [ho]
      have hun' : listed.getD i false = false := by
        cases hh : listed.getD i false with
        | false => rfl
        | true => simp [Array.getD, hls, hil] at hun hh; rw [hun] at hh; cases hh
      obtain ⟨n, hJ, hnl, hstg⟩ := hB
      have hn : ∀ m, stepOf ks (0 + i) = some m → n = m := fun m hm => by
        rw [Nat.zero_add] at hm
        have hkm := stepOf_some hm
        have h1 := hstg m i hkm
        rw [hun'] at h1
        have h2 : ¬ m < n := by simpa using h1.symm
        cases m with
        | zero => omega
        | succ m =>
          have hm1 : m < ks.length := by have := (List.getElem?_eq_some_iff.1 hkm).1; omega
          obtain ⟨e, he, he2, he3⟩ := hchn m _ i o (List.getElem?_eq_getElem hm1) hkm ho
          have h3 := haft e he he3
          rw [he2, hstg m _ (List.getElem?_eq_getElem hm1)] at h3
          have : m < n := by simpa using h3
          omega
      have hW : ∀ W', (match stepOf ks (0 + i) with | some m => RelW W W' ∧ J (m + 1) W' | none => RelS W W') → RelW W W' ∧ ∃ n, J n W' ∧ n ≤ ks.length ∧ ∀ m k : Nat, ks[m]? = some k → (listed.setIfInBounds i true).getD k false = decide (m < n) := fun W' hh => by
        cases hso : stepOf ks (0 + i) with
        | none =>
          rw [hso] at hh
          refine ⟨hsw _ _ hh, n, hst1 _ _ _ hJ hh, hnl, fun m k hk => ?_⟩
          rw [getD_set listed i k (by omega)]
          rw [Nat.zero_add] at hso
          rw [if_neg (fun e => stepOf_none hso m (by rw [← e]; exact hk))]
          exact hstg m k hk
        | some m =>
          rw [hso] at hh
          have hnm := hn m hso
          rw [Nat.zero_add] at hso
          have hkm := stepOf_some hso
          have hml := (List.getElem?_eq_some_iff.1 hkm).1
          refine ⟨hh.1, m + 1, hh.2, hml, fun m' k hk => ?_⟩
          rw [getD_set listed i k (by omega)]
          by_cases hki : k = i
          · subst hki
            have : m' = m := (List.getElem?_inj (List.getElem?_eq_some_iff.1 hk).1 hnd).1 (hk.trans hkm.symm)
            subst this
            simp
          · rw [if_neg hki, hstg m' k hk]
            have : m' ≠ m := fun e => by subst e; rw [hkm] at hk; injection hk with hk; exact hki hk.symm
            rw [hnm]
            simp only [decide_eq_decide]
            omega
      have key := hdo a W n hJ hnl hn (fun k hk => ?_) (fun e he hb oe hoe => hphi e.on oe hoe (haft e he hb)) K (fun v W' hbW hv => hK _ _ ⟨(hW W' hbW).2, (defers_put _ _ _).trans hdf, (size_put _ _ _).trans hsz, fun k hk => ?_, fun j oj hj hlj => ?_, by simpa using hls, fun j oj hj hlj e he hb => ?_⟩)
      · show if Region.wanted o (yielded ops a.tmps) = true then _ else _
        split
        · rename_i hw
          rw [if_pos hw] at key
          exact .inl key
        · rename_i hw
          rw [if_neg hw] at key
          exact key
      · rw [List.all_eq_true] at hk
        exact hoth k (fun j oj hj hd => by
          have := hk oj (List.mem_of_getElem? (i := j) (by simpa using hj))
          rw [hd] at this; simp at this)
      · have hne : ¬ o.dst = some k := fun e => by
          have := hk i o ho e
          rw [getD_set listed i i (by omega), if_pos rfl] at this
          cases this
        rw [slot_put, if_neg (fun hh => hne hh.1)]
        refine hoth k (fun j oj hj hd => ?_)
        have := hk j oj hj hd
        rw [getD_set listed i j (by omega)] at this
        by_cases hji : j = i
        · subst hji; rw [ho] at hj; cases hj; exact absurd hd hne
        · rwa [if_neg hji] at this
      · rw [getD_set listed i j (by omega)] at hlj
        by_cases hji : j = i
        · subst hji
          rw [ho] at hj; cases hj
          rw [show 0 + j = j by omega] at hv
          unfold valOf keyOf' at hv ⊢
          cases hd : o.dst with
          | none =>
            rw [hd] at hv
            simp only at hv ⊢
            cases hp : ptrOf o.op with
            | none => rw [hp] at hv; exact hv
            | some p =>
              rw [hp] at hv
              simp only at hv ⊢
              rw [slot_put, if_neg (fun hh => by cases hh.1)]
              exact hv
          | some d =>
            rw [hd] at hv
            simp only at hv ⊢
            rw [slot_put, if_pos ⟨rfl, by rw [hsz]; exact hin d hd⟩]
            exact hv
        · rw [if_neg hji] at hlj
          have h1 := hmono j _ W W' (hphi j oj hj hlj) (hW W' hbW).1
          unfold valOf keyOf' at h1 ⊢
          cases hd : oj.dst with
          | none =>
            rw [hd] at h1
            simp only at h1 ⊢
            cases hp : ptrOf oj.op with
            | none => rw [hp] at h1; exact h1
            | some p =>
              rw [hp] at h1
              simp only at h1 ⊢
              have hne : ¬ o.dst = some p := by
                rcases storesOk2_spec hst hj hd hp with ⟨e, he, hb, oe, hoe, hed⟩ | hno
                · have hle := haf j oj hj hlj e he hb
                  intro e'
                  have := huniq e.on oe p hoe e' hed
                  rw [← this, hun'] at hle
                  cases hle
                · exact hno i o ho
              rw [slot_put, if_neg (fun hh => hne hh.1)]
              exact h1
          | some d =>
            rw [hd] at h1
            simp only at h1 ⊢
            have hne : ¬ o.dst = some d := fun e => hji (huniq j oj d hj e hd).symm
            rw [slot_put, if_neg (fun hh => hne hh.1)]
            exact h1
      · rw [getD_set listed i j (by omega)] at hlj
        rw [getD_set listed i e.on (by omega)]
        split
        · rfl
        · by_cases hji : j = i
          · subst hji
            rw [ho] at hj; cases hj
            exact haft e he hb
          · rw [if_neg hji] at hlj
            exact haf j oj hj hlj e he hb
    intro fuel
    induction fuel with
    | zero =>
      intro listed a W hf hI
      have hr : Region.ready .any ops listed = [] := by
        cases hr : Region.ready .any ops listed with
        | nil => rfl
        | cons i l =>
          exfalso
          have hi : i ∈ Region.ready .any ops listed := by rw [hr]; simp
          have := unlisted_set (mem_ready.1 hi).1
          omega
      exact ⟨hr, done listed a W hI hr⟩
    | succ fuel ih =>
      intro listed a W hf hI
      refine ⟨done listed a W hI, fun i hi => step listed a W hI i hi _ (fun a' W' hI' => ih _ a' W' ?_ hI')⟩
      have := unlisted_set (mem_ready.1 hi).1
      omega
  refine wp_region_any hm (main _ _ _ _ ?_ ?_)
  · unfold unlisted
    rw [Array.toList_replicate, List.countP_replicate]
    split <;> omega
  · refine ⟨⟨0, hdrew, Nat.zero_le _, fun m k hk => by have := hks m k hk; simp [Array.getD]⟩, rfl, rfl, fun _ _ => rfl, fun i o ho hl => ?_, by simp, fun i o ho hl => ?_⟩
    · have hil : i < ops.size := (Array.getElem?_eq_some_iff.1 ho).1
      simp [Array.getD, hil] at hl
    · have hil : i < ops.size := (Array.getElem?_eq_some_iff.1 ho).1
      simp [Array.getD, hil] at hl
section
variable {ops : Array Oper} {a0 : Act} {J : Nat → World → Prop} {RelS RelW : World → World → Prop} {ks : List Nat} {Φ : Nat → Value → World → Prop} {i : Nat} {o : Oper}
theorem opS_any
    (h : ∀ a W n, J n W → n ≤ ks.length → (∀ m, stepOf ks i = some m → n = m) → (∀ k, (ops.toList.all fun o => o.dst != some k) = true → a.tmps[k]?.getD undef = slot a0 k) →
      (∀ j oe, (o.after.toList.any fun e => e.on == j && Region.binds .any e) = true → ops[j]? = some oe → Φ j (dstV a oe) W) →
      ∀ K : Act → World → Prop, (∀ v W', (match stepOf ks i with | some m => RelW W W' ∧ J (m + 1) W' | none => RelS W W') → Φ i (match o.dst with | some _ => v | none => dstV a o) W' → K (a.put o.dst v) W') →
        if Region.wanted o (yielded ops a.tmps) = true then o.wp Tryz.prog a W K Q else K (a.put o.dst undef) W) : OpDoesS ops a0 J RelS RelW ks Φ Q i o := by
  intro a W n h1 hnl hn h2 h3 K hK
  refine h a W n h1 hnl hn (fun k hk => (eval_slot a k).symm.trans (h2 k hk)) (fun j oe hj ho => ?_) K (fun v W' hr hp => hK v W' hr (by rw [valOf_dst]; exact hp))
  rw [List.any_eq_true] at hj
  obtain ⟨e, he, hb⟩ := hj
  simp only [Bool.and_eq_true, beq_iff_eq] at hb
  obtain ⟨rfl, hb⟩ := hb
  rw [← valOf_dst]
  exact h3 e (by simpa using he) hb oe ho
/-- An operation that keeps each state. -/
theorem opS_mk (hs : stepOf ks i = none) (hg : o.guard = none)
    (h : ∀ a W n, J n W → (∀ k, (ops.toList.all fun o => o.dst != some k) = true → a.tmps[k]?.getD undef = slot a0 k) →
      (∀ j oe, (o.after.toList.any fun e => e.on == j && Region.binds .any e) = true → ops[j]? = some oe → Φ j (dstV a oe) W) →
      ∀ K : Act → World → Prop, (∀ v W', RelS W W' → Φ i (match o.dst with | some _ => v | none => dstV a o) W' → K (a.put o.dst v) W') → o.wp Tryz.prog a W K Q) : OpDoesS ops a0 J RelS RelW ks Φ Q i o := by
  refine opS_any fun a W n h1 _ _ h2 h3 K hK => ?_
  rw [if_pos (by simp [Region.wanted, hg])]
  rw [hs] at hK
  exact h a W n h1 h2 h3 K hK
/-- A step. -/
theorem opS_at {m : Nat} (hs : stepOf ks i = some m) (hg : o.guard = none)
    (h : ∀ a W, J m W → (∀ k, (ops.toList.all fun o => o.dst != some k) = true → a.tmps[k]?.getD undef = slot a0 k) →
      (∀ j oe, (o.after.toList.any fun e => e.on == j && Region.binds .any e) = true → ops[j]? = some oe → Φ j (dstV a oe) W) →
      ∀ K : Act → World → Prop, (∀ v W', RelW W W' → J (m + 1) W' → Φ i (match o.dst with | some _ => v | none => dstV a o) W' → K (a.put o.dst v) W') → o.wp Tryz.prog a W K Q) : OpDoesS ops a0 J RelS RelW ks Φ Q i o := by
  refine opS_any fun a W n h1 _ hn h2 h3 K hK => ?_
  rw [if_pos (by simp [Region.wanted, hg])]
  rw [hs] at hK
  exact h a W ((hn m hs) ▸ h1) h2 h3 K (fun v W' h4 h5 h6 => hK v W' ⟨h4, h5⟩ h6)
end
end Go.Proofs.YtogljgiefmfafaaGreat

namespace Go.Proofs.YtogljgiefmfafaaGreat
open Go.RowKit Go.Maps
section
variable {F : Nat → Prop} {P N : Nat} {y : Lay} {t : PT}
set_option maxRecDepth 100000 in
set_option maxHeartbeats 8000000 in
theorem t_playOf (r : R) (hr : r.Ok) (h1 : r.name.size ≤ maxLen) (h2 : r.name2.size ≤ maxLen) (hc : checkB r = true) (g : Nat) (eg : Enters g) (wd : Array UInt8) (be bk bm bs bd : Bool) (hkw : (kindsM (.int .u8 r.act)).getD kind0 = .agg #[.string ⟨wd⟩, .bool be, .bool bk, .bool bm, .bool bs, .bool bd, .func (.func g) #[] #[]]) (e0 : Int) (t' : PT)
    (hcall : ∀ W, TreeM W F P N y t → Calls Tryz.prog g #[actV P r] W (ActPost W F P N e0 t')) (w : World) (h : TreeM w F P N y t) :
    Calls Tryz.prog 27 #[.pointer (some ⟨P, 0, none⟩), r.val] w (ActPost w F P N e0 t') := by
  have hchk := fun w => t_chk r hr h1 h2 w
  rw [show checkE r = 0 by unfold checkE; rw [if_pos hc]] at hchk
  unfold R.val at hchk ⊢
  unfold Enters at eg
  go_enter Tryz.func27, Tryz.ntmps27
  go_wp2_with (go_at_call 54; (with_reducible refine (hchk _).mono ?_); rintro e w0 ⟨rfl, hb⟩; have HB := Lib.hid hb; clear hb)
  have hrc : w0.heap[w.heap.size]? = some (.cells (cellsR r) 50 (0, 0)) := by
    rw [HB.out.block _ (by simp)]; exact heap_alloc_new _ _
  have hBw : Below w.heap.size w w0 := ((Below.refl _ _).alloc (Nat.le_refl _) _).trans (HB.out.mono (by simp))
  have HS : Hid (w0.heap[w.heap.size]? = some (.cells (cellsR r) 50 (0, 0)) ∧ Below w.heap.size w w0) := ⟨hrc, hBw⟩
  have hra := hr.act
  clear hrc hBw HB hchk
  have hT0 : TreeM w0 F P N y t := h.below HS.out.2
  refine wp_region_st (fun n W => W.heap[w.heap.size]? = some (.cells (cellsR r) 50 (0, 0)) ∧ (n = 0 → TreeM W F P N y t ∧ Below w.heap.size w W) ∧ (n ≠ 0 → Became w W F P (N + 2) t')) (fun W W' => Below W.heap.size W W') (fun W W' => ∀ b, w.heap.size ≤ b → b < W.heap.size → W'.heap[b]? = W.heap[b]?) [8]
    (phi [fun v W => ∃ b, v = .map (some b) ∧ w.heap.size ≤ b ∧ MapAt W Tryz.prog 5 b 7 kindsM, isV (.pointer (some ⟨w.heap.size, 1, none⟩)), isV (.int .u8 r.act), isV (.agg #[.string ⟨wd⟩, .bool be, .bool bk, .bool bm, .bool bs, .bool bd, .func (.func g) #[] #[]]), isV (.func (.func g) #[] #[]), isV (.pointer (some ⟨P, 0, none⟩)), isV r.val,
      isV (.agg #[.pointer (some ⟨P, 0, none⟩), .int .u64 r.stamp, .int .u8 r.act, .int .u32 r.dir, .string r.name, .int .u32 r.ino, .int .u8 r.kind, .int .u32 r.dir2, .string r.name2, .int .u32 r.old, .int .u32 r.size, .int .i64 r.page, .string r.data]), isV (.int .i64 e0), isV (.int .i64 e0)]) (by kernel_rfl) (by kernel_rfl) (by kernel_rfl) (by kernel_rfl) (by kernel_rfl)
    ⟨HS.out.1, fun _ => ⟨hT0.below (below_drew _), HS.out.2.trans ((below_drew w0).mono HS.out.2.size)⟩, fun hh => absurd rfl hh⟩ (fun n W W' hj hb => ⟨(hb.block _ (lt_heap hj.1)).trans hj.1, fun hn => ⟨(hj.2.1 hn).1.below hb, (hj.2.1 hn).2.trans (hb.mono (hj.2.1 hn).2.size)⟩, fun hn => by obtain ⟨y', F', g1, g2⟩ := hj.2.2 hn; exact ⟨y', F', g1.below hb, g2.trans (Turn.of_below F' hb)⟩⟩) (fun W W' hb b _ h2 => hb.block b h2) ?_ ?_ ?_
  · refine stays_phiR ?_
    simp only [List.forall_mem_cons]
    exact ⟨fun v W W' ⟨b, g1, g2, g3⟩ hr => by
      obtain ⟨es, c, hm⟩ := g3.isMap
      exact ⟨b, g1, g2, g3.same (hr b g2 (lt_heap hm))⟩, fun _ _ _ h _ => h, fun _ _ _ h _ => h, fun _ _ _ h _ => h, fun _ _ _ h _ => h, fun _ _ _ h _ => h, fun _ _ _ h _ => h, fun _ _ _ h _ => h, fun _ _ _ h _ => h, fun _ _ _ h _ => h, fun _ h => absurd h (by simp)⟩
  · refine ⟨?_, ?_, ?_, ?_, ?_, ?_, ?_, ?_, ?_, ?_, trivial⟩
    · refine opS_mk rfl rfl fun a W2 n hJ hp hq K hK => ?_
      have hl := lt_heap hJ.1
      clear hp hq hJ
      go_simp
      refine (t_rkinds W2).mono ?_
      rintro e w' ⟨b, rfl, hm, hb, hbl⟩
      exact hK _ _ hb ⟨b, rfl, by omega, hm⟩
    · refine opS_mk rfl rfl fun a W2 n hJ hp hq K hK => ?_
      have e3 : a.tmps[3]?.getD undef = .pointer (some ⟨w.heap.size, 0, none⟩) := hp 3 (by kernel_rfl)
      clear hp hq hJ
      go_simp
      exact hK _ _ (Below.refl _ _) rfl
    · refine opS_mk rfl rfl fun a W2 n hJ hp hq K hK => ?_
      have e14 : a.tmps[14]?.getD undef = .pointer (some ⟨w.heap.size, 1, none⟩) := hq 1 _ (by kernel_rfl) rfl
      have cc : W2.cell? ⟨w.heap.size, 1, none⟩ = some (.int .u8 r.act) := by (simp only [World.cell?, hJ.1]; rfl)
      clear hp hq hJ
      go_simp
      exact hK _ _ (Below.refl _ _) rfl
    · refine opS_mk rfl rfl fun a W2 n hJ hp hq K hK => ?_
      obtain ⟨b, e13, _, hm⟩ : ∃ b, a.tmps[13]?.getD undef = .map (some b) ∧ w.heap.size ≤ b ∧ MapAt W2 Tryz.prog 5 b 7 kindsM := hq 0 _ (by kernel_rfl) rfl
      have e15 : a.tmps[15]?.getD undef = .int .u8 r.act := hq 2 _ (by kernel_rfl) rfl
      have hlk := hm.look law8 Tryz.underlying119 (zeroK W2) (pkey8 hra)
      rw [hkw] at hlk
      clear hp hq hJ
      go_simp
      exact hK _ _ (Below.refl _ _) rfl
    · refine opS_mk rfl rfl fun a W2 n hJ hp hq K hK => ?_
      have e16 : a.tmps[16]?.getD undef = .agg #[.string ⟨wd⟩, .bool be, .bool bk, .bool bm, .bool bs, .bool bd, .func (.func g) #[] #[]] := hq 3 _ (by kernel_rfl) rfl
      clear hp hq hJ
      go_simp
      exact hK _ _ (Below.refl _ _) rfl
    · refine opS_mk rfl rfl fun a W2 n hJ hp hq K hK => ?_
      have e0' : a.tmps[0]?.getD undef = .pointer (some ⟨P, 0, none⟩) := hp 0 (by kernel_rfl)
      clear hp hq hJ
      go_simp
      exact hK _ _ (Below.refl _ _) rfl
    · refine opS_mk rfl rfl fun a W2 n hJ hp hq K hK => ?_
      have e3 : a.tmps[3]?.getD undef = .pointer (some ⟨w.heap.size, 0, none⟩) := hp 3 (by kernel_rfl)
      have c0 := rec_cell0 hJ.1 0 _ rfl
      have c1 := rec_cell0 hJ.1 1 _ rfl
      have c2 := rec_cell0 hJ.1 2 _ rfl
      have c3 := rec_cell0 hJ.1 3 _ rfl
      have c4 := rec_cell0 hJ.1 4 _ rfl
      have c5 := rec_cell0 hJ.1 5 _ rfl
      have c6 := rec_cell0 hJ.1 6 _ rfl
      have c7 := rec_cell0 hJ.1 7 _ rfl
      have c8 := rec_cell0 hJ.1 8 _ rfl
      have c9 := rec_cell0 hJ.1 9 _ rfl
      have c10 := rec_cell0 hJ.1 10 _ rfl
      have c11 := rec_cell0 hJ.1 11 _ rfl
      clear hp hq hJ
      go_simp
      exact hK _ _ (Below.refl _ _) rfl
    · refine opS_mk rfl rfl fun a W2 n hJ hp hq K hK => ?_
      have e18 : a.tmps[18]?.getD undef = .pointer (some ⟨P, 0, none⟩) := hq 5 _ (by kernel_rfl) rfl
      have e19 : a.tmps[19]?.getD undef = r.val := hq 6 _ (by kernel_rfl) rfl
      unfold R.val at e19
      clear hp hq hJ
      go_simp
      exact hK _ _ (Below.refl _ _) rfl
    · refine opS_at (m := 0) rfl rfl fun a W2 hJ hp hq K hK => ?_
      have e17 : a.tmps[17]?.getD undef = .func (.func g) #[] #[] := hq 4 _ (by kernel_rfl) rfl
      have e20 : a.tmps[20]?.getD undef = .agg #[.pointer (some ⟨P, 0, none⟩), .int .u64 r.stamp, .int .u8 r.act, .int .u32 r.dir, .string r.name, .int .u32 r.ino, .int .u8 r.kind, .int .u32 r.dir2, .string r.name2, .int .u32 r.old, .int .u32 r.size, .int .i64 r.page, .string r.data] := hq 7 _ (by kernel_rfl) rfl
      have HJ := Lib.hid hJ
      clear hp hq hJ
      go_simp
      have hcall2 := hcall W2 (HJ.out.2.1 rfl).1
      unfold actV at hcall2
      refine hcall2.mono ?_
      rintro e w3 ⟨rfl, hb⟩
      obtain ⟨y', F', g1, g2⟩ := hb
      have hF : ∀ b, w.heap.size ≤ b → ¬ F b := fun b hb hFb => by have := h.lt b hFb; omega
      exact hK _ _ (fun b k1 k2 => g2.block b k2 (hF b k1)) ⟨(g2.block _ (lt_heap HJ.out.1) (hF _ (Nat.le_refl _))).trans HJ.out.1, fun hn => by omega, fun _ => Became.front (HJ.out.2.1 rfl).2 ⟨y', F', g1, g2⟩⟩ rfl
    · refine opS_mk rfl rfl fun a W2 n hJ hp hq K hK => ?_
      have e21 : a.tmps[21]?.getD undef = .int .i64 e0 := hq 8 _ (by kernel_rfl) rfl
      clear hp hq hJ
      go_simp
      exact hK _ _ (Below.refl _ _) rfl
  · intro vs W9 hJ9 hv9 _
    have HJ9 : Hid (Became w W9 F P (N + 2) t') := hJ9.2.2 (by simp)
    have v9 : vs 9 = .int .i64 e0 := hv9 9 _ rfl rfl
    clear hJ9 hv9
    simp only [putAll, Act.put, List.setIfInBounds_toArray, List.set_cons_succ, List.set_cons_zero, Nat.zero_add, Nat.reduceAdd, v9]
    go_wp2
    go_ret
    exact ⟨rfl, HJ9.out⟩
theorem kind_at (r : R) (k : Int) (v : Value) (h : kindO k = some v) (ha : r.act = k) : (kindsM (.int .u8 r.act)).getD kind0 = v := by
  subst ha
  show (kindO r.act).getD kind0 = v
  rw [h]
  rfl
theorem enters_a_made : Enters 125 := enters_of Tryz.func125 (by kernel_rfl) rfl
theorem enters_a_link : Enters 126 := enters_of Tryz.func126 (by kernel_rfl) rfl
theorem enters_a_unlink : Enters 127 := enters_of Tryz.func127 (by kernel_rfl) rfl
theorem enters_a_rename : Enters 128 := enters_of Tryz.func128 (by kernel_rfl) rfl
theorem enters_a_size : Enters 129 := enters_of Tryz.func129 (by kernel_rfl) rfl
theorem enters_a_page : Enters 130 := enters_of Tryz.func130 (by kernel_rfl) rfl
theorem enters_a_free : Enters 131 := enters_of Tryz.func131 (by kernel_rfl) rfl
/-- A record that may not be changes nothing. -/
theorem t_playBad (r : R) (hr : r.Ok) (h1 : r.name.size ≤ maxLen) (h2 : r.name2.size ≤ maxLen) (hc : checkB r = false) (w : World) (h : TreeM w F P N y t) :
    Calls Tryz.prog 27 #[.pointer (some ⟨P, 0, none⟩), r.val] w (ActPost w F P N 2 t) := by
  have hchk := fun w => t_chk r hr h1 h2 w
  rw [show checkE r = 2 by unfold checkE; rw [if_neg (by rw [hc]; simp)]] at hchk
  have HT := Lib.hid h
  unfold R.val at hchk ⊢
  clear h
  go_enter Tryz.func27, Tryz.ntmps27
  go_wp2_with (go_at_call 54; (with_reducible refine (hchk _).mono ?_); rintro e w0 ⟨rfl, hb⟩; have HB := Lib.hid (ptrans (below_a1' w _) hb); clear hb)
  go_ret
  exact ⟨rfl, (Became.same HT.out HB.out).most (by omega)⟩
/-- Play. -/
theorem t_playA (r : R) (hr : r.Texts) (a : Int) (t' : PT) (he : playA t r = (a, t')) (w : World) (h : TreeM w F P N y t) (hW : WellP t) (hK : HeldK 999999999 t) (hN : N < 800000) :
    Calls Tryz.prog 27 #[.pointer (some ⟨P, 0, none⟩), r.val] w (ActPost w F P N a t') := by
  unfold playA at he
  by_cases hc : checkB r = true
  · rw [if_pos hc] at he
    unfold actA at he
    have gen := fun (g : Nat) (eg : Enters g) (wd : Array UInt8) (be bk bm bs bd : Bool) (hkw : (kindsM (.int .u8 r.act)).getD kind0 = .agg #[.string ⟨wd⟩, .bool be, .bool bk, .bool bm, .bool bs, .bool bd, .func (.func g) #[] #[]]) (hcall : ∀ W, TreeM W F P N y t → Calls Tryz.prog g #[actV P r] W (ActPost W F P N a t')) => t_playOf r hr.ok hr.name hr.name2 hc g eg wd be bk bm bs bd hkw a t' hcall w h
    split at he
    · rename_i h1
      exact gen _ enters_a_made _ _ _ _ _ _ (kind_at r 1 _ rfl h1) fun W hT => t_madeA r hr a t' he W hT hW hK (by omega)
    · split at he
      · rename_i h1
        exact gen _ enters_a_link _ _ _ _ _ _ (kind_at r 2 _ rfl h1) fun W hT => t_linkA r hr a t' he W hT hW (by omega)
      · split at he
        · rename_i h1
          exact gen _ enters_a_unlink _ _ _ _ _ _ (kind_at r 3 _ rfl h1) fun W hT => t_unlinkA r hr a t' he W hT hW
        · split at he
          · rename_i h1
            exact gen _ enters_a_rename _ _ _ _ _ _ (kind_at r 4 _ rfl h1) fun W hT => t_renameA r hr a t' he W hT hW (by omega)
          · split at he
            · rename_i h1
              exact gen _ enters_a_size _ _ _ _ _ _ (kind_at r 5 _ rfl h1) fun W hT => t_sizeA r hr a t' he W hT hW (by omega)
            · split at he
              · rename_i h1
                exact gen _ enters_a_page _ _ _ _ _ _ (kind_at r 6 _ rfl h1) fun W hT => t_pageA r hr a t' he W hT hW (by omega)
              · have h7 : r.act = 7 := by
                  unfold checkB at hc
                  simp only [Bool.and_eq_true, decide_eq_true_eq] at hc
                  have := hc.1.1.1.1.1.1
                  omega
                exact gen _ enters_a_free _ _ _ _ _ _ (kind_at r 7 _ rfl h7) fun W hT => t_freeA r hr a t' he W hT hW hK
  · rw [if_neg hc] at he
    cases he
    exact t_playBad r hr.ok hr.name hr.name2 (by simpa using hc) w h
end
end Go.Proofs.YtogljgiefmfafaaGreat

namespace Go.Proofs.YtogljgiefmfafaaGreat
open Go.RowKit Go.Maps
structure Pt where
  kind : Int
  ino : Int
  name : ByteArray
  write : Bool
abbrev Pt.val (p : Pt) : Value := .agg #[.int .u8 p.kind, .int .u32 p.ino, .string p.name, .bool p.write]
def Pt.cells (p : Pt) : List Value := [.int .u8 p.kind, .int .u32 p.ino, .string p.name, .bool p.write]
def flatP (l : List Pt) : List Value := l.flatMap Pt.cells
/-- All but box B stays, below G. -/
structure RelO (B G : Nat) (W W' : World) : Prop where
  os : W'.os = W.os
  tape : W'.tape = W.tape
  output : W'.output = W.output
  size : W.heap.size ≤ W'.heap.size
  old : ∀ b, b < G → b ≠ B → W'.heap[b]? = W.heap[b]?
theorem row_slice {w : World} {base n size : Nat} {e : TypeId} {v : Value} {xs : List Value} (h : w.ownsRow base e size v n xs) : ∃ A c, v = .slice A n c := by
  rcases h.2 with ⟨rfl, rfl⟩ | ⟨g, cap, cur, rfl, _⟩
  · exact ⟨none, 0, rfl⟩
  · exact ⟨_, cap, rfl⟩
theorem infoPt : ∃ i, Tryz.prog.info? 125 = some i ∧ i.zero = some (.agg #[.int .u8 0, .int .u32 0, .string ⟨#[]⟩, .bool false]) ∧ i.size = 4 ∧ i.bytes = 32 := by
  have : (Tryz.prog.info? 125).map (fun i => (i.zero, i.size, i.bytes)) = some (some (.agg #[.int .u8 0, .int .u32 0, .string ⟨#[]⟩, .bool false]), 4, 32) := by kernel_rfl
  obtain ⟨i, hi, he⟩ := Option.map_eq_some_iff.1 this
  simp only [Prod.mk.injEq] at he
  exact ⟨i, hi, he.1, he.2.1, he.2.2⟩
theorem flatP_append (a b : List Pt) : flatP (a ++ b) = flatP a ++ flatP b := by unfold flatP; rw [List.flatMap_append]
theorem run_append_pt (base ty : Nat) (w : World) (v : Value) (l : List Pt) (hown : w.ownsRow base 125 4 v l.length (flatP l)) (q : Nat) (p : Pt) (hq : w.heap[q]? = some (.cells p.cells.toArray 125 (0, 0)))
    (hl : l.length ≤ 100000) (hbase : base ≤ w.heap.size) :
    ∃ v' w', (Builtin.append_ #[99, 99] ty #[v, .slice (some ⟨q, 0, none⟩) 1 1]).run Tryz.prog w = .ok v' w' ∧ w'.ownsRow base 125 4 v' (l.length + 1) (flatP (l ++ [p])) ∧ w.grownBy w' v.ownBlock := by
  obtain ⟨i0, hi, hz0, hz1, hz2⟩ := infoPt
  obtain ⟨v', w', hrun, h2, h3, _, _⟩ := run_append_own_at (P := Tryz.prog) w base 99 ty 125 i0 _ 4 32 Tryz.underlying99 hi hz0 hz1 hz2 rfl (by decide) v l.length (flatP l) hown ⟨q, 0, none⟩ 1 1 p.cells
    rfl (fun j u hu => by
      rw [Addr.add_mid, Nat.zero_add]
      simp only [World.cell?, hq]
      simpa using hu) (by simp [Pt.cells, Value.oneCell']) (by unfold maxLen; omega) (by omega) hbase
  exact ⟨v', w', hrun, by rw [flatP_append, show flatP [p] = p.cells by simp [flatP]]; exact h2, h3⟩
theorem wpList_append_pt {ops : Array Oper} {rest : List Oper} {o : Oper} {a : Act} {Q : Exit → Act → World → Prop} {w : World} (hgd : o.guard = none) (s x : Operand)
    (ho : o.op = .call { callee := .builtin .append, args := #[s, x], argTypes := #[99, 99] })
    (base : Nat) (v : Value) (l : List Pt) (n k : Nat) (hn : l.length = n) (hk : n + 1 = k) (hs : a.eval s = v) (hown : w.ownsRow base 125 4 v n (flatP l)) (q : Nat) (p : Pt) (hx : a.eval x = .slice (some ⟨q, 0, none⟩) 1 1)
    (hq : w.heap[q]? = some (.cells p.cells.toArray 125 (0, 0))) (hl : l.length ≤ 100000) (hbase : base ≤ w.heap.size)
    (h : ∀ A1 c1 w', w'.ownsRow base 125 4 (.slice A1 k c1) k (flatP (l ++ [p])) → w.grownBy w' v.ownBlock → wpList Tryz.prog ops Q rest (a.put o.dst (.slice A1 k c1)) w') : wpList Tryz.prog ops Q (o :: rest) a w :=
  wpList_plain hgd fun _ hK => by
    subst hk
    subst hn
    obtain ⟨v', w', hrun, h2, h3⟩ := run_append_pt base o.type w v l hown q p hq hl hbase
    unfold Oper.wp execOp
    simp only [ho, resolve, invoke, builtin, Sem.run_bind, Sem.run_pure, Result.andThen_ok, List.map_toArray, List.map_cons, List.map_nil, hs, hx, hrun]
    obtain ⟨A1, c1, rfl⟩ := row_slice h2
    exact hK _ _ (h A1 c1 w' h2 h3)
theorem part_grow {w w' : World} {Bo G : Nat} {v : Value} {l : List Pt} {A B : Obj} (hB : w.heap[Bo]? = some (.cells #[v] 99 (0, 0))) (hv : w.ownsRow G 125 4 v l.length (flatP l)) (hBG : Bo < G) (hG : G ≤ w.heap.size)
    (hg : ((w.alloc A).alloc B).grownBy w' v.ownBlock) : w'.cell? ⟨Bo, 0, none⟩ = some v ∧ w'.frozen? ⟨Bo, 0, none⟩ = false ∧ w'.heap[Bo]? = some (.cells #[v] 99 (0, 0)) ∧ RelO Bo G w w' := by
  have lB : Bo < w.heap.size := (Array.getElem?_eq_some_iff.1 hB).1
  have hown : ∀ b, b < G → some b ≠ v.ownBlock := fun b hb e => by have := (hv.lt b e.symm).1; omega
  have hsz : ((w.alloc A).alloc B).heap.size = w.heap.size + 1 + 1 := by simp
  have old : ∀ b, b < w.heap.size → ((w.alloc A).alloc B).heap[b]? = w.heap[b]? := fun b hb => (heap_alloc_old _ _ (by simp; omega)).trans (heap_alloc_old _ _ hb)
  have hh : w'.heap[Bo]? = some (.cells #[v] 99 (0, 0)) := by
    rw [hg.block Bo (by omega) (hown Bo hBG), old Bo lB, hB]
  refine ⟨by simp only [World.cell?, hh]; rfl, by simp [World.frozen?, hh], hh, hg.os, hg.tape, hg.output, by have := hg.size; omega, fun b h1 h2 => ?_⟩
  by_cases hb : b < w.heap.size
  · rw [hg.block b (by omega) (hown b h1), old b hb]
  · omega
set_option maxRecDepth 100000 in
set_option maxHeartbeats 4000000 in
theorem t_write (p : Pt) (g Bo G : Nat) (v : Value) (l : List Pt) (w : World) (hg : w.heap[g]? = some (.cells p.cells.toArray 125 (0, 0)))
    (hB : w.heap[Bo]? = some (.cells #[v] 99 (0, 0))) (hBG : Bo < G) (hG : G ≤ w.heap.size) (hv : w.ownsRow G 125 4 v l.length (flatP l)) (hl : l.length ≤ 1000) :
    Calls Tryz.prog 110 #[.slice (some ⟨g, 0, none⟩) 1 1, .pointer (some ⟨Bo, 0, none⟩)] w fun e w' => e = .returned (.tuple #[]) ∧ ∃ v', w'.heap[Bo]? = some (.cells #[v'] 99 (0, 0)) ∧ w'.ownsRow G 125 4 v' (l.length + 1) (flatP (l ++ [{ p with write := true }])) ∧ RelO Bo G w w' := by
  obtain ⟨k, i, n, b⟩ := p
  have cg : ∀ (j : Nat) (u : Value), (Pt.cells ⟨k, i, n, b⟩)[j]? = some u → w.cell? ⟨g, j, none⟩ = some u := fun j u hu => by
    simp only [World.cell?, hg]
    simpa using hu
  have g0 := cg 0 _ rfl
  have g1 := cg 1 _ rfl
  have g2 := cg 2 _ rfl
  have g3 := cg 3 _ rfl
  have cB : w.cell? ⟨Bo, 0, none⟩ = some v := by simp only [World.cell?, hB]; rfl
  have lB : Bo < w.heap.size := (Array.getElem?_eq_some_iff.1 hB).1
  have HB := Lib.hid hB
  have HV := Lib.hid hv
  clear hg hB hv cg
  go_enter Tryz.func110, Tryz.ntmps110
  go_wp2
  go_loopw [7] (fun x wr => (x = .int .i64 0 ∧ wr = w) ∨ (x = .int .i64 1 ∧ Hid (∃ v', wr.heap[Bo]? = some (.cells #[v'] 99 (0, 0)) ∧ wr.ownsRow G 125 4 v' (l.length + 1) (flatP (l ++ [(⟨k, i, n, true⟩ : Pt)])) ∧ RelO Bo G w wr))) (fun x _ => 2 - (intOf x).toNat)
  case atStart => exact .inl ⟨rfl, rfl⟩
  case round =>
    rcases hrel with ⟨rfl, rfl⟩ | ⟨rfl, HR⟩
    · have hx1 : ∀ c : Array Value, ((wr.alloc (.cells c 125)).alloc (.cells #[.int .u8 k, .int .u32 i, .string n, .bool true] 125)).heap[wr.heap.size + 1]? = some (.cells (Pt.cells ⟨k, i, n, true⟩).toArray 125 (0, 0)) := fun c => by
        have := heap_alloc_new (wr.alloc (.cells c 125)) (.cells #[.int .u8 k, .int .u32 i, .string n, .bool true] 125)
        rw [show (wr.alloc (.cells c 125)).heap.size = wr.heap.size + 1 by simp] at this
        exact this
      have HX := Lib.hid hx1
      clear hx1
      go_wp2_with (at_builtin; refine wpList_append_pt rfl (.tmp 12) (.tmp 14) rfl G v l l.length (l.length + 1) rfl rfl rfl ((HV.out.alloc _).alloc _) (wr.heap.size + 1) ⟨k, i, n, true⟩ rfl (HX.out _) (by omega) (by simp; omega) ?_; intro A1 c1 w' h2 h3; have H2 := Lib.hid h2; have hw := part_grow HB.out HV.out hBG hG h3; have cB' := hw.1; have fB' := hw.2.1; have HW := Lib.hid hw; clear h2 h3 hw)
      refine ⟨.inr ⟨rfl, ?_⟩, by decide⟩
      have hb := HW.out.2.2.1
      refine ⟨_, by rw [pheap_set _ Bo 0 _ _ _ hb]; rfl, ?_, ?_⟩
      · exact H2.out.kept (pgrown_set w' Bo 0 _) (by
          cases hvo : (Value.slice A1 (l.length + 1) c1).ownBlock with
          | none => exact .inl rfl
          | some x => exact .inr (fun e => by injection e with e; have := (H2.out.lt x hvo).1; omega))
      · have hr := HW.out.2.2.2
        have hg := pgrown_set w' Bo 0 (.slice A1 (l.length + 1) c1)
        exact ⟨hg.os.trans hr.os, hg.tape.trans hr.tape, hg.output.trans hr.output, Nat.le_trans hr.size hg.size, fun b h1 h2 => (hg.block b (by have := hr.size; omega) (fun e => h2 (by injection e))).trans (hr.old b h1 h2)⟩
    · go_wp2
      go_end0
      exact ⟨rfl, HR.out⟩
end Go.Proofs.YtogljgiefmfafaaGreat
