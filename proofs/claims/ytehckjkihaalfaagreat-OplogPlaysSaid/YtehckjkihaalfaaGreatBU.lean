/- A drawn region in which one operation turns memory, and the last one stores. -/
import Derived.Test.YtehckjkihaalfaaGreatBT
namespace Go.Proofs.YtehckjkihaalfaaGreat
open Go.RowKit Go.Maps

variable {Q : Exit → Act → World → Prop}
/-- What the one operation that turns memory is to do. -/
def OpDoesP (ops : Array Oper) (a0 : Act) (w0 : World) (Rel RelP : World → World → Prop) (Φ : Nat → Value → World → Prop) (Q : Exit → Act → World → Prop) (i : Nat) (o : Oper) : Prop :=
  ∀ a W, Rel w0 W → (∀ k, (ops.toList.all fun o => o.dst != some k) = true → slot a k = slot a0 k) →
    (∀ e ∈ o.after, Region.binds .any e = true → ∀ oe, ops[e.on]? = some oe → Φ e.on (valOf a oe) W) →
    ∀ K : Act → World → Prop, (∀ v W', RelP W W' → Φ i (match o.dst with | some _ => v | none => valOf a o) W' → K (a.put o.dst v) W') →
      if Region.wanted o (yielded ops a.tmps) = true then o.wp Tryz.prog a W K Q else K (a.put o.dst undef) W
/-- What each other one is to do, ahead of it or behind it. -/
def OpDoesA (ops : Array Oper) (a0 : Act) (w0 : World) (RelA Rel : World → World → Prop) (Φ : Nat → Value → World → Prop) (Q : Exit → Act → World → Prop) (i : Nat) (o : Oper) : Prop :=
  ∀ a W, RelA w0 W → (∀ k, (ops.toList.all fun o => o.dst != some k) = true → slot a k = slot a0 k) →
    (∀ e ∈ o.after, Region.binds .any e = true → ∀ oe, ops[e.on]? = some oe → Φ e.on (valOf a oe) W) →
    ∀ K : Act → World → Prop, (∀ v W', Rel W W' → Φ i (match o.dst with | some _ => v | none => valOf a o) W' → K (a.put o.dst v) W') →
      if Region.wanted o (yielded ops a.tmps) = true then o.wp Tryz.prog a W K Q else K (a.put o.dst undef) W
theorem wp_region_mid {ops : Array Oper} {id : Nat} {a0 : Act} {w0 : World} (N p : Nat) (Rel RelP RelA : World → World → Prop) (Φ : Nat → Value → World → Prop) (Fin : World → Prop)
    (hm : Tryz.prog.follows .mixedOrders = true) (hok : regionOk ops a0.tmps.size = true) (hlo : lastOk ops N = true)
    (hpN : p < N) (hdrew : Rel w0 w0.drew) (htrans : ∀ W W' W'', Rel W W' → Rel W' W'' → Rel W W'')
    (hA : ∀ W W', Rel W W' → RelA W W') (hPA : ∀ W W', RelP W W' → RelA W W') (hAA : ∀ W W' W'', RelA W W' → RelA W' W'' → RelA W W'')
    (hmono : ∀ i v W W', Φ i v W → Rel W W' → Φ i v W') (hmonoP : ∀ i v W W', i ≠ p → Φ i v W → RelP W W' → Φ i v W')
    (hops : AllOps (fun i o => if i = p then OpDoesP ops a0 w0 Rel RelP Φ Q i o else OpDoesA ops a0 w0 RelA Rel Φ Q i o) 0 (ops.toList.take N))
    (hlast : ∀ oN, ops[N]? = some oN → ∀ a W, RelA w0 W → (∀ k, (ops.toList.all fun o => o.dst != some k) = true → a.tmps[k]?.getD undef = slot a0 k) → (∀ i o, i < N → ops[i]? = some o → Φ i (dstV a o) W) →
      ∀ K : Act → World → Prop, (∀ W', Fin W' → K a W') → oN.wp Tryz.prog a W K Q)
    (hend : ∀ (vs : Nat → Value) W, Fin W → (∀ i, i < N → ∃ W0, Φ i (vs i) W0) → Q .normal (putAll ops.toList 0 vs a0) W) :
    (Code.region id ops true).wp Tryz.prog Q a0 w0 := by
  obtain ⟨hsz1, oN, hoN, hdN, hgN, hwait, hdst⟩ := lastOk_spec hlo
  let Inv : Array Bool → Act → World → Prop := fun listed a W => a.defers = a0.defers ∧ a.tmps.size = a0.tmps.size ∧
    (∀ k, (∀ j o, ops[j]? = some o → o.dst = some k → listed.getD j false = false) → slot a k = slot a0 k) ∧ listed.size = ops.size ∧
    (∀ i o, ops[i]? = some o → listed.getD i false = true → ∀ e ∈ o.after, Region.binds .any e = true → listed.getD e.on false = true) ∧
    (listed.getD N false = false → (RelA w0 W ∧ (listed.getD p false = false → Rel w0 W)) ∧ ∀ i o, ops[i]? = some o → listed.getD i false = true → Φ i (valOf a o) W) ∧
    (listed.getD N false = true → Fin W ∧ ∀ i o, i < N → ops[i]? = some o → ∃ W0, Φ i (valOf a o) W0)
  have getD_set : ∀ (listed : Array Bool) (i j : Nat), i < listed.size → (listed.setIfInBounds i true).getD j false = if j = i then true else listed.getD j false := fun listed i j hi => by
    by_cases hji : j = i
    · subst hji; simp [Array.getD, hi]
    · rw [if_neg hji, Array.getD_eq_getD_getElem?, Array.getD_eq_getD_getElem?, Array.getElem?_setIfInBounds_ne (fun e => hji e.symm)]
  have main : ∀ (fuel : Nat) (listed : Array Bool) (a : Act) (W : World), unlisted listed ≤ fuel → Inv listed a W → wpAny Tryz.prog .any ops Q fuel listed a W := by
    have done : ∀ (listed : Array Bool) (a : Act) (W : World), Inv listed a W → Region.ready .any ops listed = [] → Q .normal a W := by
      intro listed a W ⟨hdf, hsz, hoth, hls, _, _, hfin⟩ hr
      have all : ∀ i, i < ops.size → listed.getD i false = true := by
        intro i
        induction i using Nat.strongRecOn with
        | _ i ih =>
          intro hi
          cases hl : listed.getD i false with
          | true => rfl
          | false =>
            exfalso
            have : i ∈ Region.ready .any ops listed := mem_ready.2 ⟨by rw [← hl]; simp [Array.getD, hls, hi], ops[i], Array.getElem?_eq_getElem hi, fun e he hbd => by
              have := (regionOk_spec hok (Array.getElem?_eq_getElem hi)).1 e he hbd
              exact ih e.on this (by omega)⟩
            rw [hr] at this
            cases this
      obtain ⟨hF, hphi⟩ := hfin (all N (by omega))
      let vs : Nat → Value := fun i => match ops[i]?.bind (·.dst) with | some d => slot a d | none => undef
      have hq := hend vs W hF (fun i hi => by
        have ho := Array.getElem?_eq_getElem (xs := ops) (i := i) (by omega)
        obtain ⟨W0, h0⟩ := hphi i _ hi ho
        have hsm := hdst i _ hi ho
        unfold valOf keyOf' at h0
        refine ⟨W0, ?_⟩
        cases hd : (ops[i]'(by omega)).dst with
        | none => rw [hd] at hsm; cases hsm
        | some d => rw [hd] at h0; simpa [vs, ho, hd] using h0)
      have he : putAll ops.toList 0 vs a0 = a := by
        obtain ⟨p1, p2⟩ := putAll_size ops.toList 0 vs a0
        refine act_ext (p1.trans hsz.symm) (p2.trans hdf.symm) fun k => ?_
        by_cases hk : ∃ j : Nat, ∃ o, ops[j]? = some o ∧ o.dst = some k
        · obtain ⟨j, o, hj, hd⟩ := hk
          obtain ⟨_, hin, huniq⟩ := regionOk_spec hok hj
          rw [putAll_dst ops.toList 0 vs a0 j o k (by simpa using hj) hd (hin k hd) (fun j' o' h1 h2 => (huniq j' o' k (by simpa using h1) hd h2).symm)]
          simp [vs, hj, hd]
        · rw [putAll_other _ _ _ _ _ (fun o ho e => by
            obtain ⟨j, hj, rfl⟩ := List.getElem_of_mem ho
            exact hk ⟨j, ops.toList[j], by simp, e⟩)]
          exact (hoth k (fun j o hj hd => absurd ⟨j, o, hj, hd⟩ hk)).symm
      rw [← he]; exact hq
    have step : ∀ (listed : Array Bool) (a : Act) (W : World), Inv listed a W → ∀ i ∈ Region.ready .any ops listed, ∀ K : Act → World → Prop, (∀ a' W', Inv (listed.setIfInBounds i true) a' W' → K a' W') → wpOp Tryz.prog ops Q i K a W := by
      intro listed a W ⟨hdf, hsz, hoth, hls, haf, hrel, hfin⟩ i hi K hK
      obtain ⟨hun, o, ho, haft⟩ := mem_ready.1 hi
      have hil : i < ops.size := (Array.getElem?_eq_some_iff.1 ho).1
      obtain ⟨hback, hin, huniq⟩ := regionOk_spec hok ho
      have hun' : listed.getD i false = false := by
        cases hh : listed.getD i false with
        | false => rfl
        | true => simp [Array.getD, hls, hil] at hun hh; rw [hun] at hh; cases hh
      have hNf : listed.getD N false = false := by
        cases hh : listed.getD N false with
        | false => rfl
        | true =>
          exfalso
          by_cases hiN : i = N
          · subst hiN
            rw [hun'] at hh
            cases hh
          · have := hwait (fun i => listed.getD i false = true) (fun e he hb => haf N oN hoN hh e he hb) (fun i o ho hl e he hb => haf i o ho hl e he hb) i (by omega)
            rw [hun'] at this
            cases this
      obtain ⟨⟨hB, hB0⟩, hphi⟩ := hrel hNf
      have hslots : ∀ k, (ops.toList.all fun o => o.dst != some k) = true → slot a k = slot a0 k := fun k hk => by
        rw [List.all_eq_true] at hk
        exact hoth k (fun j oj hj hd => by
          have := hk oj (List.mem_of_getElem? (i := j) (by simpa using hj))
          rw [hd] at this; simp at this)
      have hafN : ∀ (j : Nat) (oj : Oper), ops[j]? = some oj → (listed.setIfInBounds i true).getD j false = true → ∀ e ∈ oj.after, Region.binds .any e = true → (listed.setIfInBounds i true).getD e.on false = true := fun j oj hj hlj e he hb => by
        rw [getD_set listed i j (by omega)] at hlj
        rw [getD_set listed i e.on (by omega)]
        split
        · rfl
        · by_cases hji : j = i
          · subst hji
            rw [ho] at hj; cases hj
            exact haft e he hb
          · rw [if_neg hji] at hlj
            exact haf j oj hj hlj e he hb
      unfold wpOp
      rw [ho]
      by_cases hiN : i = N
      · subst hiN
        rw [hoN] at ho
        cases ho
        have hall : ∀ j, j < i → listed.getD j false = true := fun j hj => hwait (fun i => listed.getD i false = true) (fun e he hb => haft e he hb) (fun i o ho hl e he hb => haf i o ho hl e he hb) j hj
        have key := hlast oN hoN a W hB (fun k hk => (eval_slot a k).symm.trans (hslots k hk)) (fun j oj hj hoj => by rw [← valOf_dst]; exact hphi j oj hoj (hall j hj)) K (fun W' hF => hK a W' ⟨hdf, hsz, fun k hk => hoth k fun j oj hj hd => by
            have := hk j oj hj hd
            rw [getD_set listed i j (by omega)] at this
            split at this
            · cases this
            · exact this, by simpa using hls, hafN, (fun h => absurd h (by rw [getD_set listed i i (by omega), if_pos rfl]; simp)), fun _ => ⟨hF, fun j oj hj hoj => ⟨W, hphi j oj hoj (hall j hj)⟩⟩⟩)
        show if Region.wanted oN (yielded ops a.tmps) = true then _ else _
        rw [if_pos (by simp [Region.wanted, hgN])]
        exact .inl key
      · have hiN2 : i < N := by omega
        have hod := hdst i o hiN2 ho
        have hdo := hops.get (k := i) (o := o) (by rw [List.getElem?_take_of_lt hiN2]; simpa using ho)
        rw [Nat.zero_add] at hdo
        have key : if Region.wanted o (yielded ops a.tmps) = true then o.wp Tryz.prog a W K Q else K (a.put o.dst undef) W := by
          have hgo : ∀ (v : Value) (W' : World), RelA W W' → (i ≠ p → Rel W W') → (∀ j u, j ≠ i → listed.getD j false = true → Φ j u W → Φ j u W') → Φ i (match o.dst with | some _ => v | none => valOf a o) W' → K (a.put o.dst v) W' := fun v W' hbA hbR hkeep hv => hK _ _ ⟨(defers_put _ _ _).trans hdf, (size_put _ _ _).trans hsz, fun k hk => ?_, by simpa using hls, hafN, fun _ => ⟨⟨hAA _ _ _ hB hbA, fun hp => ?_⟩, fun j oj hj hlj => ?_⟩, fun h => ?_⟩
          · by_cases hip : i = p
            · subst hip
              rw [if_pos rfl] at hdo
              exact hdo a W (hB0 hun') hslots (fun e he hb oe hoe => hphi e.on oe hoe (haft e he hb)) K (fun v W' hP hv => hgo v W' (hPA _ _ hP) (fun h => absurd rfl h) (fun j u hj _ h => hmonoP j u W W' hj h hP) hv)
            · rw [if_neg hip] at hdo
              exact hdo a W hB hslots (fun e he hb oe hoe => hphi e.on oe hoe (haft e he hb)) K (fun v W' hR hv => hgo v W' (hA _ _ hR) (fun _ => hR) (fun j u _ _ h => hmono j u W W' h hR) hv)
          · have hne : ¬ o.dst = some k := fun e => by
              have := hk i o ho e
              rw [getD_set listed i i (by omega), if_pos rfl] at this
              cases this
            rw [slot_put, if_neg (fun hh => hne hh.1)]
            refine hoth k (fun j o hj hd => ?_)
            have := hk j o hj hd
            rw [getD_set listed i j (by omega)] at this
            by_cases hji : j = i
            · subst hji; rw [ho] at hj; cases hj; exact absurd hd hne
            · rwa [if_neg hji] at this
          · rw [getD_set listed i p (by omega)] at hp
            by_cases hip : p = i
            · rw [if_pos hip] at hp; cases hp
            · rw [if_neg hip] at hp
              exact htrans _ _ _ (hB0 hp) (hbR (fun e => hip e.symm))
          · rw [getD_set listed i j (by omega)] at hlj
            by_cases hji : j = i
            · subst hji
              rw [ho] at hj; cases hj
              unfold valOf keyOf' at hv ⊢
              cases hd : o.dst with
              | none => rw [hd] at hod; cases hod
              | some d =>
                rw [hd] at hv
                simp only at hv ⊢
                rw [slot_put, if_pos ⟨rfl, by rw [hsz]; exact hin d hd⟩]
                exact hv
            · rw [if_neg hji] at hlj
              have hjN : j < N := by
                have h1 := (Array.getElem?_eq_some_iff.1 hj).1
                by_cases e : j = N
                · subst e
                  rw [hNf] at hlj
                  cases hlj
                · omega
              have hjd := hdst j oj hjN hj
              have h1 := hkeep j _ hji hlj (hphi j oj hj hlj)
              unfold valOf keyOf' at h1 ⊢
              cases hd : oj.dst with
              | none => rw [hd] at hjd; cases hjd
              | some d =>
                rw [hd] at h1
                simp only at h1 ⊢
                have hne : ¬ o.dst = some d := fun e => hji (huniq j oj d hj e hd).symm
                rw [slot_put, if_neg (fun hh => hne hh.1)]
                exact h1
          · exfalso
            rw [getD_set listed i N (by omega), if_neg (by omega), hNf] at h
            cases h
        show if Region.wanted o (yielded ops a.tmps) = true then _ else _
        split
        · rename_i hw
          rw [if_pos hw] at key
          exact .inl key
        · rename_i hw
          rw [if_neg hw] at key
          exact key
    intro fuel
    induction fuel with
    | zero =>
      intro listed a W hf hI
      have hr : Region.ready .any ops listed = [] := by
        cases hr : Region.ready .any ops listed with
        | nil => rfl
        | cons i l =>
          exfalso
          have hi : i ∈ Region.ready .any ops listed := by rw [hr]; simp
          have := unlisted_set (mem_ready.1 hi).1
          omega
      exact ⟨hr, done listed a W hI hr⟩
    | succ fuel ih =>
      intro listed a W hf hI
      refine ⟨done listed a W hI, fun i hi => step listed a W hI i hi _ (fun a' W' hI' => ih _ a' W' ?_ hI')⟩
      have := unlisted_set (mem_ready.1 hi).1
      omega
  refine wp_region_any hm (main _ _ _ _ ?_ ?_)
  · unfold unlisted
    rw [Array.toList_replicate, List.countP_replicate]
    split <;> omega
  · refine ⟨rfl, rfl, fun _ _ => rfl, by simp, fun i o ho hl => ?_, fun _ => ⟨⟨hA _ _ hdrew, fun _ => hdrew⟩, fun i o ho hl => ?_⟩, fun h => ?_⟩
    · have hil : i < ops.size := (Array.getElem?_eq_some_iff.1 ho).1
      simp [Array.getD, hil] at hl
    · have hil : i < ops.size := (Array.getElem?_eq_some_iff.1 ho).1
      simp [Array.getD, hil] at hl
    · have hil : N < ops.size := by omega
      simp [Array.getD, hil] at h
section
variable {ops : Array Oper} {a0 : Act} {w0 : World} {Rel RelP RelA : World → World → Prop} {Φ : Nat → Value → World → Prop} {i p : Nat} {o : Oper}
theorem opA_mk (hip : i ≠ p) (hg : o.guard = none)
    (h : ∀ a W, RelA w0 W → (∀ k, (ops.toList.all fun o => o.dst != some k) = true → a.tmps[k]?.getD undef = slot a0 k) →
      (∀ j oe, (o.after.toList.any fun e => e.on == j && Region.binds .any e) = true → ops[j]? = some oe → Φ j (dstV a oe) W) →
      ∀ K : Act → World → Prop, (∀ v W', Rel W W' → Φ i (match o.dst with | some _ => v | none => dstV a o) W' → K (a.put o.dst v) W') → o.wp Tryz.prog a W K Q) :
    if i = p then OpDoesP ops a0 w0 Rel RelP Φ Q i o else OpDoesA ops a0 w0 RelA Rel Φ Q i o := by
  rw [if_neg hip]
  intro a W h1 h2 h3 K hK
  rw [if_pos (by simp [Region.wanted, hg])]
  refine h a W h1 (fun k hk => (eval_slot a k).symm.trans (h2 k hk)) (fun j oe hj ho => ?_) K (fun v W' hr hp => hK v W' hr (by rw [valOf_dst]; exact hp))
  rw [List.any_eq_true] at hj
  obtain ⟨e, he, hb⟩ := hj
  simp only [Bool.and_eq_true, beq_iff_eq] at hb
  obtain ⟨rfl, hb⟩ := hb
  rw [← valOf_dst]
  exact h3 e (by simpa using he) hb oe ho
theorem opP_mk (hip : i = p) (hg : o.guard = none)
    (h : ∀ a W, Rel w0 W → (∀ k, (ops.toList.all fun o => o.dst != some k) = true → a.tmps[k]?.getD undef = slot a0 k) →
      (∀ j oe, (o.after.toList.any fun e => e.on == j && Region.binds .any e) = true → ops[j]? = some oe → Φ j (dstV a oe) W) →
      ∀ K : Act → World → Prop, (∀ v W', RelP W W' → Φ i (match o.dst with | some _ => v | none => dstV a o) W' → K (a.put o.dst v) W') → o.wp Tryz.prog a W K Q) :
    if i = p then OpDoesP ops a0 w0 Rel RelP Φ Q i o else OpDoesA ops a0 w0 RelA Rel Φ Q i o := by
  rw [if_pos hip]
  intro a W h1 h2 h3 K hK
  rw [if_pos (by simp [Region.wanted, hg])]
  refine h a W h1 (fun k hk => (eval_slot a k).symm.trans (h2 k hk)) (fun j oe hj ho => ?_) K (fun v W' hr hp => hK v W' hr (by rw [valOf_dst]; exact hp))
  rw [List.any_eq_true] at hj
  obtain ⟨e, he, hb⟩ := hj
  simp only [Bool.and_eq_true, beq_iff_eq] at hb
  obtain ⟨rfl, hb⟩ := hb
  rw [← valOf_dst]
  exact h3 e (by simpa using he) hb oe ho
end
end Go.Proofs.YtehckjkihaalfaaGreat
