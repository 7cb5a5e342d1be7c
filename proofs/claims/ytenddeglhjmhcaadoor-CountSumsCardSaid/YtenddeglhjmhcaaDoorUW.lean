/- A region whose last operations come one behind the other: what comes ahead may read what the last ones write. -/
import Derived.Test.YtenddeglhjmhcaaDoorOR
namespace Go.Proofs.YtenddeglhjmhcaaDoor
open Go.RowKit

section
variable {Q : Exit → Act → World → Prop}
def OpDoesM (m : Nat) (ops : Array Oper) (a0 : Act) (w0 : World) (Φ : Nat → Value → World → Prop) (Q : Exit → Act → World → Prop) (i : Nat) (o : Oper) : Prop :=
  o.guard = none ∧ ∀ a W, Below w0.heap.size w0 W → (∀ k, ((ops.toList.take m).all fun o => o.dst != some k) = true → a.eval (.tmp k) = slot a0 k) →
    (∀ e ∈ o.after, Region.binds .any e = true → ∀ oe d, ops[e.on]? = some oe → oe.dst = some d → Φ e.on (a.eval (.tmp d)) W) →
    ∀ K : Act → World → Prop, (∀ v W', Below W.heap.size W W' → Φ i v W' → K (a.put o.dst v) W') → o.wp Tryd.prog a W K Q
theorem wp_region_frontM {ops : Array Oper} {id : Nat} {a0 : Act} {w0 : World} (m : Nat) (Φ : Nat → Value → World → Prop)
    (hm : Tryd.prog.follows .mixedOrders = true) (hok : regionOk ops a0.tmps.size = true) (hfr : frontOk ops m = true)
    (hmono : ∀ i v W W', Φ i v W → Below W.heap.size W W' → Φ i v W')
    (hops : AllOps (OpDoesM m ops a0 w0 Φ Q) 0 (ops.toList.take m))
    (hend : ∀ (vs : Nat → Value) W, Below w0.heap.size w0 W → (∀ i, i < m → (ops[i]?.bind (·.dst)).isSome = true → Φ i (vs i) W) → wpAny Tryd.prog .any ops Q (ops.size - m) (frontL m ops.size) (putAll (ops.toList.take m) 0 vs a0) W) :
    (Code.region id ops true).wp Tryd.prog Q a0 w0 := by
  obtain ⟨fm, f1, f2⟩ := frontOk_spec hfr
  let Inv : Array Bool → Act → World → Prop := fun listed a W => Below w0.heap.size w0 W ∧ a.defers = a0.defers ∧ a.tmps.size = a0.tmps.size ∧
    (∀ k, (∀ j o, ops[j]? = some o → o.dst = some k → listed.getD j false = false) → slot a k = slot a0 k) ∧
    (∀ i o d, ops[i]? = some o → listed.getD i false = true → o.dst = some d → Φ i (slot a d) W) ∧ listed.size = ops.size ∧
    (∀ j, m ≤ j → listed.getD j false = false) ∧ (∀ i o, ops[i]? = some o → listed.getD i false = true → ∀ e ∈ o.after, Region.binds .any e = true → listed.getD e.on false = true)
  have getD_set : ∀ (listed : Array Bool) (i j : Nat), i < listed.size → (listed.setIfInBounds i true).getD j false = if j = i then true else listed.getD j false := fun listed i j hi => by
    by_cases hji : j = i
    · subst hji; simp [Array.getD, hi]
    · rw [if_neg hji, Array.getD_eq_getD_getElem?, Array.getD_eq_getD_getElem?, Array.getElem?_setIfInBounds_ne (fun e => hji e.symm)]
  have done : ∀ (listed : Array Bool) (a : Act) (W : World), Inv listed a W → (∀ i, i < m → listed.getD i false = true) → ∀ fuel, fuel = unlisted listed → wpAny Tryd.prog .any ops Q fuel listed a W := by
    intro listed a W ⟨hB, hdf, hsz, hoth, hphi, hls, hlate, _⟩ all fuel hfuel
    have hle : listed = frontL m ops.size := by
      refine Array.ext (by simp [frontL, hls]) fun i hi hi' => ?_
      have h2 : listed.getD i false = listed[i] := by simp [Array.getD, hi]
      rw [← h2]
      by_cases him : i < m
      · rw [all i him]; simp [frontL, him]
      · rw [hlate i (by omega)]; simp [frontL, him]
    have hun : unlisted listed = ops.size - m := by
      rw [hle]
      unfold unlisted frontL
      rw [List.toList_toArray, List.countP_map]
      have : ∀ n, List.countP ((fun b => !b) ∘ fun i => decide (i < m)) (List.range n) = n - m := by
        intro n
        induction n with
        | zero => simp
        | succ n ih =>
          rw [List.range_succ, List.countP_append, ih]
          by_cases hnm : n < m
          · simp [hnm]; omega
          · simp [hnm]; omega
      exact this _
    let vs : Nat → Value := fun i => match ops[i]?.bind (·.dst) with | some d => slot a d | none => undef
    have hq := hend vs W hB (fun i hi hs => by
      cases ho : ops[i]? with
      | none => simp [ho] at hs
      | some o =>
        cases hd : o.dst with
        | none => simp [ho, hd] at hs
        | some d =>
          have := hphi i o d ho (all i hi) hd
          simpa [vs, ho, hd] using this)
    have he : putAll (ops.toList.take m) 0 vs a0 = a := by
      obtain ⟨p1, p2⟩ := putAll_size (ops.toList.take m) 0 vs a0
      refine act_ext (p1.trans hsz.symm) (p2.trans hdf.symm) fun k => ?_
      have tk : ∀ j o, (ops.toList.take m)[j]? = some o → j < m ∧ ops[j]? = some o := fun j o h => by
        rw [List.getElem?_take] at h
        split at h
        · exact ⟨by assumption, by simpa using h⟩
        · cases h
      by_cases hk : ∃ j : Nat, ∃ o, j < m ∧ ops[j]? = some o ∧ o.dst = some k
      · obtain ⟨j, o, hjm, hj, hd⟩ := hk
        obtain ⟨_, hin, huniq⟩ := regionOk_spec hok hj
        rw [putAll_dst (ops.toList.take m) 0 vs a0 j o k (by rw [List.getElem?_take, if_pos hjm]; simpa using hj) hd (hin k hd) (fun j' o' h1 h2 => (huniq j' o' k (tk j' o' h1).2 hd h2).symm)]
        simp [vs, hj, hd]
      · rw [putAll_other _ _ _ _ _ (fun o ho e => by
          obtain ⟨j, hj⟩ := List.getElem?_of_mem ho
          obtain ⟨q1, q2⟩ := tk j o hj
          exact hk ⟨j, o, q1, q2, e⟩)]
        exact (hoth k (fun j o hj hd => by
          by_cases hjm : j < m
          · exact absurd ⟨j, o, hjm, hj, hd⟩ hk
          · exact hlate j (by omega))).symm
    rw [hfuel, hun, hle, ← he]; exact hq
  have early : ∀ (listed : Array Bool) (a : Act) (W : World), Inv listed a W → (¬ ∀ i, i < m → listed.getD i false = true) → ∀ i ∈ Region.ready .any ops listed, i < m := by
    intro listed a W ⟨_, _, _, _, _, _, hlate, hcl⟩ hnot i hi
    obtain ⟨_, o, ho, haft⟩ := mem_ready.1 hi
    refine Decidable.byContradiction fun him => hnot ?_
    by_cases hie : i = m
    · subst hie
      -- all ahead are listed
      have : ∀ d, ∀ j, j + d = i → j < i → listed.getD j false = true := by
        intro d
        induction d using Nat.strongRecOn with
        | _ d ih =>
          intro j hjd hj
          obtain ⟨k, k1, k2, ok, hok', e, he, e1, e2⟩ := f1 j hj
          by_cases hki : k = i
          · subst hki
            rw [ho] at hok'; cases hok'
            have := haft e he e2
            rwa [e1] at this
          · have hk := ih (i - k) (by omega) k (by omega) (by omega)
            have := hcl k ok hok' hk e he e2
            rwa [e1] at this
      exact fun j hj => this (i - j) j (by omega) hj
    · exfalso
      obtain ⟨e, he, e1, e2⟩ := f2 i o (by omega) ho
      have := haft e he e2
      rw [e1, hlate (i - 1) (by omega)] at this
      cases this
  have main : ∀ (fuel : Nat) (listed : Array Bool) (a : Act) (W : World), fuel = unlisted listed → Inv listed a W → wpAny Tryd.prog .any ops Q fuel listed a W := by
    have step : ∀ (listed : Array Bool) (a : Act) (W : World), Inv listed a W → ∀ i ∈ Region.ready .any ops listed, i < m → ∀ K : Act → World → Prop, (∀ a' W', Inv (listed.setIfInBounds i true) a' W' → K a' W') → wpOp Tryd.prog ops Q i K a W := by
      intro listed a W ⟨hB, hdf, hsz, hoth, hphi, hls, hlate, hcl⟩ i hi him K hK
      obtain ⟨hun, o, ho, haft⟩ := mem_ready.1 hi
      have hil : i < ops.size := (Array.getElem?_eq_some_iff.1 ho).1
      obtain ⟨hg, hdo⟩ := hops.get (k := i) (o := o) (by rw [List.getElem?_take, if_pos him]; simpa using ho)
      obtain ⟨hback, hin, huniq⟩ := regionOk_spec hok ho
      unfold wpOp
      rw [ho]
      simp only [Region.wanted, hg, if_true]
      left
      refine hdo a W hB (fun k hk => ?_) (fun e he hb oe d hoe hd => hphi e.on oe d hoe (haft e he hb) hd) K (fun v W' hbW hv => hK _ _ ⟨ptrans hB hbW, (defers_put _ _ _).trans hdf, (size_put _ _ _).trans hsz, fun k hk => ?_, fun j oj d hj hlj hd => ?_, by simpa using hls, fun j hj => ?_, fun j oj hj hlj e he hb => ?_⟩)
      · rw [List.all_eq_true] at hk
        exact hoth k (fun j oj hj hd => by
          by_cases hjm : j < m
          · have := hk oj (List.mem_of_getElem? (i := j) (by rw [List.getElem?_take, if_pos hjm]; simpa using hj))
            rw [hd] at this; simp at this
          · exact hlate j (by omega))
      · have hne : ¬ o.dst = some k := fun e => by
          have := hk i o ho e
          rw [getD_set listed i i (by omega), if_pos rfl] at this
          cases this
        rw [slot_put, if_neg (fun hh => hne hh.1)]
        refine hoth k (fun j oj hj hd => ?_)
        have := hk j oj hj hd
        rw [getD_set listed i j (by omega)] at this
        by_cases hji : j = i
        · subst hji; rw [ho] at hj; cases hj; exact absurd hd hne
        · rwa [if_neg hji] at this
      · rw [getD_set listed i j (by omega)] at hlj
        by_cases hji : j = i
        · subst hji
          rw [ho] at hj; cases hj
          rw [slot_put, if_pos ⟨hd, by rw [hsz]; exact hin d hd⟩]
          rw [show 0 + j = j by omega] at hv
          exact hv
        · rw [if_neg hji] at hlj
          have hne : ¬ o.dst = some d := fun e => hji (huniq j oj d hj e hd).symm
          rw [slot_put, if_neg (fun hh => hne hh.1)]
          exact hmono j _ W W' (hphi j oj d hj hlj hd) hbW
      · rw [getD_set listed i j (by omega), if_neg (by omega)]; exact hlate j hj
      · rw [getD_set listed i j (by omega)] at hlj
        have : listed.getD e.on false = true := by
          by_cases hji : j = i
          · subst hji; rw [ho] at hj; cases hj; exact haft e he hb
          · rw [if_neg hji] at hlj; exact hcl j oj hj hlj e he hb
        rw [getD_set listed i e.on (by omega)]
        split
        · rfl
        · exact this
    intro fuel
    induction fuel with
    | zero =>
      intro listed a W hf hI
      refine done listed a W hI (fun i hi => ?_) 0 hf
      cases hh : listed.getD i false with
      | true => rfl
      | false =>
        exfalso
        have : listed.getD i true = false := by
          have hls := hI.2.2.2.2.2.1
          have : i < listed.size := by omega
          simpa [Array.getD, this] using hh
        have := unlisted_set this
        omega
    | succ fuel ih =>
      intro listed a W hf hI
      by_cases hall : ∀ i, i < m → listed.getD i false = true
      · exact done listed a W hI hall _ hf
      · refine ⟨fun hr => ?_, fun i hi => step listed a W hI i hi (early listed a W hI hall i hi) _ (fun a' W' hI' => ih _ a' W' ?_ hI')⟩
        · exfalso
          refine hall ?_
          intro i
          induction i using Nat.strongRecOn with
          | _ i ihi =>
            intro hi
            cases hl : listed.getD i false with
            | true => rfl
            | false =>
              exfalso
              have hls := hI.2.2.2.2.2.1
              have hio : i < ops.size := by omega
              have : i ∈ Region.ready .any ops listed := mem_ready.2 ⟨by rw [← hl]; simp [Array.getD, hls, hio], ops[i], Array.getElem?_eq_getElem hio, fun e he hbd => by
                have := (regionOk_spec hok (Array.getElem?_eq_getElem hio)).1 e he hbd
                exact ihi e.on this (by omega)⟩
              rw [hr] at this
              cases this
        · have := unlisted_set (mem_ready.1 hi).1
          omega
  refine wp_region_any hm (main _ _ _ _ ?_ ?_)
  · unfold unlisted
    rw [Array.toList_replicate, List.countP_replicate]
    simp
  · refine ⟨⟨rfl, rfl, rfl, Nat.le_refl _, fun _ _ => rfl⟩, rfl, rfl, fun _ _ => rfl, fun i o d ho hl _ => ?_, by simp, fun j _ => ?_, fun i o ho hl => ?_⟩
    · have hil : i < ops.size := (Array.getElem?_eq_some_iff.1 ho).1
      simp [Array.getD, hil] at hl
    · simp [Array.getD]
    · simp [Array.getD] at hl
theorem opM_mk {m : Nat} {ops : Array Oper} {a0 : Act} {w0 : World} {Φ : Nat → Value → World → Prop} {i : Nat} {o : Oper} (hg : o.guard = none)
    (h : ∀ a W, Below w0.heap.size w0 W → (∀ k, ((ops.toList.take m).all fun o => o.dst != some k) = true → a.tmps[k]?.getD undef = slot a0 k) →
      (∀ j d, (o.after.toList.any fun e => e.on == j && Region.binds .any e) = true → (ops[j]?.bind (·.dst)) = some d → Φ j (a.tmps[d]?.getD undef) W) →
      ∀ K : Act → World → Prop, (∀ v W', Below W.heap.size W W' → Φ i v W' → K (a.put o.dst v) W') → o.wp Tryd.prog a W K Q) : OpDoesM m ops a0 w0 Φ Q i o := by
  refine ⟨hg, fun a W h1 h2 h3 K hK => h a W h1 (fun k hk => (eval_slot a k).symm.trans (h2 k hk)) (fun j d hj hd => ?_) K hK⟩
  rw [List.any_eq_true] at hj
  obtain ⟨e, he, hb⟩ := hj
  simp only [Bool.and_eq_true, beq_iff_eq] at hb
  obtain ⟨rfl, hb⟩ := hb
  cases ho : ops[e.on]? with
  | none => simp [ho] at hd
  | some oe => rw [← eval_slot]; exact h3 e (by simpa using he) hb oe d ho (by simpa [ho] using hd)
end
theorem stays_phiF {l : List Ph} (h : ∀ p ∈ l, ∀ v W W', p v W → Below W.heap.size W W' → p v W') (i : Nat) (v : Value) (W W' : World) (hp : phi l i v W) (hb : Below W.heap.size W W') : phi l i v W' := by
  unfold phi at *
  rw [List.getD_eq_getElem?_getD] at *
  cases hi : l[i]? with
  | none => trivial
  | some p => rw [hi] at hp; exact h p (List.mem_of_getElem? hi) v W W' hp hb
end Go.Proofs.YtenddeglhjmhcaaDoor
