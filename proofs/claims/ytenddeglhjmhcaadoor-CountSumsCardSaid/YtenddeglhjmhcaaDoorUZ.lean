/- A drawn region whose last operation is a store that waits for all others: each operation is met once. -/
import Derived.Test.YtenddeglhjmhcaaDoorOR
namespace Go.Proofs.YtenddeglhjmhcaaDoor
open Go.RowKit

variable {Q : Exit → Act → World → Prop}
/-- What an operation waits for. -/
def backs (o : Oper) : List Nat := (o.after.toList.filter fun e => Region.binds .any e).map (·.on)
/-- What is waited for, by itself or by what is. -/
def reachUp (ops : Array Oper) : Nat → List Nat → List Nat
  | 0, acc => acc
  | k + 1, acc => reachUp ops k (if acc.contains k then (match ops[k]? with | some o => backs o ++ acc | none => acc) else acc)
theorem mem_backs {o : Oper} {i : Nat} (h : i ∈ backs o) : ∃ e ∈ o.after, e.on = i ∧ Region.binds .any e = true := by
  unfold backs at h
  obtain ⟨e, he, rfl⟩ := List.mem_map.1 h
  rw [List.mem_filter] at he
  exact ⟨e, by simpa using he.1, rfl, he.2⟩
theorem reach_all {ops : Array Oper} (Lp : Nat → Prop) (hL : ∀ i o, ops[i]? = some o → Lp i → ∀ e ∈ o.after, Region.binds .any e = true → Lp e.on) : ∀ (k : Nat) (acc : List Nat), (∀ i ∈ acc, Lp i) → ∀ i ∈ reachUp ops k acc, Lp i
  | 0, acc, h => h
  | k + 1, acc, h => reach_all Lp hL k _ fun i hi => by
    split at hi
    · rename_i hk
      cases ho : ops[k]? with
      | none =>
        rw [ho] at hi
        exact h i hi
      | some o =>
        rw [ho] at hi
        rcases List.mem_append.1 hi with hi | hi
        · obtain ⟨e, he, rfl, hb⟩ := mem_backs hi
          exact hL k o ho (h k (by simpa using hk)) e he hb
        · exact h i hi
    · exact h i hi
/-- The last operation yields nothing, and waits for every other one; each of these yields. -/
def lastOk (ops : Array Oper) (N : Nat) : Bool :=
  (ops.size == N + 1 && (match ops[N]? with
    | some o => o.dst.isNone && o.guard.isNone && (List.range N).all fun i => (reachUp ops N (backs o)).contains i
    | none => false)) && (List.range N).all fun i => match ops[i]? with | some o => o.dst.isSome | none => false
theorem lastOk_spec {ops : Array Oper} {N : Nat} (h : lastOk ops N = true) : ops.size = N + 1 ∧ ∃ o, ops[N]? = some o ∧ o.dst = none ∧ o.guard = none ∧
    (∀ Lp : Nat → Prop, (∀ e ∈ o.after, Region.binds .any e = true → Lp e.on) → (∀ i o, ops[i]? = some o → Lp i → ∀ e ∈ o.after, Region.binds .any e = true → Lp e.on) → ∀ i, i < N → Lp i) ∧ ∀ i o', i < N → ops[i]? = some o' → o'.dst.isSome = true := by
  unfold lastOk at h
  simp only [Bool.and_eq_true, beq_iff_eq, List.all_eq_true, List.mem_range] at h
  obtain ⟨⟨h1, h2⟩, h3⟩ := h
  refine ⟨h1, ?_⟩
  cases ho : ops[N]? with
  | none => rw [ho] at h2; cases h2
  | some o =>
    rw [ho] at h2
    simp only [Bool.and_eq_true, List.all_eq_true, List.mem_range, Option.isNone_iff_eq_none] at h2
    refine ⟨o, rfl, h2.1.1, h2.1.2, fun Lp k1 k2 i hi => ?_, fun i o' hi ho' => ?_⟩
    · have h4 := h2.2 i hi
      refine reach_all Lp k2 N (backs o) (fun j hj => ?_) i (by simpa using h4)
      obtain ⟨e, he, rfl, hb⟩ := mem_backs hj
      exact k1 e he hb
    · have := h3 i hi
      rw [ho'] at this
      exact this
theorem wp_region_last {ops : Array Oper} {id : Nat} {a0 : Act} {w0 : World} (N : Nat) (Rel : World → World → Prop) (Φ : Nat → Value → World → Prop) (Fin : World → Prop)
    (hm : Tryd.prog.follows .mixedOrders = true) (hok : regionOk ops a0.tmps.size = true) (hlo : lastOk ops N = true)
    (hdrew : Rel w0 w0.drew) (htrans : ∀ W W' W'', Rel W W' → Rel W' W'' → Rel W W'')
    (hmono : ∀ i v W W', Φ i v W → Rel W W' → Φ i v W')
    (hops : AllOps (OpDoesR ops a0 w0 Rel Φ Q) 0 (ops.toList.take N))
    (hlast : ∀ oN, ops[N]? = some oN → ∀ a W, Rel w0 W → (∀ k, (ops.toList.all fun o => o.dst != some k) = true → a.tmps[k]?.getD undef = slot a0 k) → (∀ i o, i < N → ops[i]? = some o → Φ i (dstV a o) W) →
      ∀ K : Act → World → Prop, (∀ W', Fin W' → K a W') → oN.wp Tryd.prog a W K Q)
    (hend : ∀ (vs : Nat → Value) W, Fin W → (∀ i, i < N → ∃ W0, Φ i (vs i) W0) → Q .normal (putAll ops.toList 0 vs a0) W) :
    (Code.region id ops true).wp Tryd.prog Q a0 w0 := by
  obtain ⟨hsz1, oN, hoN, hdN, hgN, hwait, hdst⟩ := lastOk_spec hlo
  let Inv : Array Bool → Act → World → Prop := fun listed a W => a.defers = a0.defers ∧ a.tmps.size = a0.tmps.size ∧
    (∀ k, (∀ j o, ops[j]? = some o → o.dst = some k → listed.getD j false = false) → slot a k = slot a0 k) ∧ listed.size = ops.size ∧
    (∀ i o, ops[i]? = some o → listed.getD i false = true → ∀ e ∈ o.after, Region.binds .any e = true → listed.getD e.on false = true) ∧
    (listed.getD N false = false → Rel w0 W ∧ ∀ i o, ops[i]? = some o → listed.getD i false = true → Φ i (valOf a o) W) ∧
    (listed.getD N false = true → Fin W ∧ ∀ i o, i < N → ops[i]? = some o → ∃ W0, Φ i (valOf a o) W0)
  have getD_set : ∀ (listed : Array Bool) (i j : Nat), i < listed.size → (listed.setIfInBounds i true).getD j false = if j = i then true else listed.getD j false := fun listed i j hi => by
    by_cases hji : j = i
    · subst hji; simp [Array.getD, hi]
    · rw [if_neg hji, Array.getD_eq_getD_getElem?, Array.getD_eq_getD_getElem?, Array.getElem?_setIfInBounds_ne (fun e => hji e.symm)]
  have main : ∀ (fuel : Nat) (listed : Array Bool) (a : Act) (W : World), unlisted listed ≤ fuel → Inv listed a W → wpAny Tryd.prog .any ops Q fuel listed a W := by
    have done : ∀ (listed : Array Bool) (a : Act) (W : World), Inv listed a W → Region.ready .any ops listed = [] → Q .normal a W := by
      intro listed a W ⟨hdf, hsz, hoth, hls, _, _, hfin⟩ hr
      have all : ∀ i, i < ops.size → listed.getD i false = true := by
        intro i
        induction i using Nat.strongRecOn with
        | _ i ih =>
          intro hi
          cases hl : listed.getD i false with
          | true => rfl
          | false =>
            exfalso
            have : i ∈ Region.ready .any ops listed := mem_ready.2 ⟨by rw [← hl]; simp [Array.getD, hls, hi], ops[i], Array.getElem?_eq_getElem hi, fun e he hbd => by
              have := (regionOk_spec hok (Array.getElem?_eq_getElem hi)).1 e he hbd
              exact ih e.on this (by omega)⟩
            rw [hr] at this
            cases this
      obtain ⟨hF, hphi⟩ := hfin (all N (by omega))
      let vs : Nat → Value := fun i => match ops[i]?.bind (·.dst) with | some d => slot a d | none => undef
      have hq := hend vs W hF (fun i hi => by
        have ho := Array.getElem?_eq_getElem (xs := ops) (i := i) (by omega)
        obtain ⟨W0, h0⟩ := hphi i _ hi ho
        have hsm := hdst i _ hi ho
        unfold valOf keyOf' at h0
        refine ⟨W0, ?_⟩
        cases hd : (ops[i]'(by omega)).dst with
        | none => rw [hd] at hsm; cases hsm
        | some d => rw [hd] at h0; simpa [vs, ho, hd] using h0)
      have he : putAll ops.toList 0 vs a0 = a := by
        obtain ⟨p1, p2⟩ := putAll_size ops.toList 0 vs a0
        refine act_ext (p1.trans hsz.symm) (p2.trans hdf.symm) fun k => ?_
        by_cases hk : ∃ j : Nat, ∃ o, ops[j]? = some o ∧ o.dst = some k
        · obtain ⟨j, o, hj, hd⟩ := hk
          obtain ⟨_, hin, huniq⟩ := regionOk_spec hok hj
          rw [putAll_dst ops.toList 0 vs a0 j o k (by simpa using hj) hd (hin k hd) (fun j' o' h1 h2 => (huniq j' o' k (by simpa using h1) hd h2).symm)]
          simp [vs, hj, hd]
        · rw [putAll_other _ _ _ _ _ (fun o ho e => by
            obtain ⟨j, hj, rfl⟩ := List.getElem_of_mem ho
            exact hk ⟨j, ops.toList[j], by simp, e⟩)]
          exact (hoth k (fun j o hj hd => absurd ⟨j, o, hj, hd⟩ hk)).symm
      rw [← he]; exact hq
    have step : ∀ (listed : Array Bool) (a : Act) (W : World), Inv listed a W → ∀ i ∈ Region.ready .any ops listed, ∀ K : Act → World → Prop, (∀ a' W', Inv (listed.setIfInBounds i true) a' W' → K a' W') → wpOp Tryd.prog ops Q i K a W := by
      intro listed a W ⟨hdf, hsz, hoth, hls, haf, hrel, hfin⟩ i hi K hK
      obtain ⟨hun, o, ho, haft⟩ := mem_ready.1 hi
      have hil : i < ops.size := (Array.getElem?_eq_some_iff.1 ho).1
      obtain ⟨hback, hin, huniq⟩ := regionOk_spec hok ho
      have hun' : listed.getD i false = false := by
        cases hh : listed.getD i false with
        | false => rfl
        | true => simp [Array.getD, hls, hil] at hun hh; rw [hun] at hh; cases hh
      have hNf : listed.getD N false = false := by
        cases hh : listed.getD N false with
        | false => rfl
        | true =>
          exfalso
          by_cases hiN : i = N
          · subst hiN
            rw [hun'] at hh
            cases hh
          · have := hwait (fun i => listed.getD i false = true) (fun e he hb => haf N oN hoN hh e he hb) (fun i o ho hl e he hb => haf i o ho hl e he hb) i (by omega)
            rw [hun'] at this
            cases this
      obtain ⟨hB, hphi⟩ := hrel hNf
      have hslots : ∀ k, (ops.toList.all fun o => o.dst != some k) = true → slot a k = slot a0 k := fun k hk => by
        rw [List.all_eq_true] at hk
        exact hoth k (fun j oj hj hd => by
          have := hk oj (List.mem_of_getElem? (i := j) (by simpa using hj))
          rw [hd] at this; simp at this)
      have hafN : ∀ (j : Nat) (oj : Oper), ops[j]? = some oj → (listed.setIfInBounds i true).getD j false = true → ∀ e ∈ oj.after, Region.binds .any e = true → (listed.setIfInBounds i true).getD e.on false = true := fun j oj hj hlj e he hb => by
        rw [getD_set listed i j (by omega)] at hlj
        rw [getD_set listed i e.on (by omega)]
        split
        · rfl
        · by_cases hji : j = i
          · subst hji
            rw [ho] at hj; cases hj
            exact haft e he hb
          · rw [if_neg hji] at hlj
            exact haf j oj hj hlj e he hb
      unfold wpOp
      rw [ho]
      by_cases hiN : i = N
      · subst hiN
        rw [hoN] at ho
        cases ho
        have hall : ∀ j, j < i → listed.getD j false = true := fun j hj => hwait (fun i => listed.getD i false = true) (fun e he hb => haft e he hb) (fun i o ho hl e he hb => haf i o ho hl e he hb) j hj
        have key := hlast oN hoN a W hB (fun k hk => (eval_slot a k).symm.trans (hslots k hk)) (fun j oj hj hoj => by rw [← valOf_dst]; exact hphi j oj hoj (hall j hj)) K (fun W' hF => hK a W' ⟨hdf, hsz, fun k hk => hoth k fun j oj hj hd => by
            have := hk j oj hj hd
            rw [getD_set listed i j (by omega)] at this
            split at this
            · cases this
            · exact this, by simpa using hls, hafN, (fun h => absurd h (by rw [getD_set listed i i (by omega), if_pos rfl]; simp)), fun _ => ⟨hF, fun j oj hj hoj => ⟨W, hphi j oj hoj (hall j hj)⟩⟩⟩)
        show if Region.wanted oN (yielded ops a.tmps) = true then _ else _
        rw [if_pos (by simp [Region.wanted, hgN])]
        exact .inl key
      · have hiN2 : i < N := by omega
        have hod := hdst i o hiN2 ho
        have hdo := hops.get (k := i) (o := o) (by rw [List.getElem?_take_of_lt hiN2]; simpa using ho)
        rw [Nat.zero_add] at hdo
        have key := hdo a W hB hslots (fun e he hb oe hoe => hphi e.on oe hoe (haft e he hb)) K (fun v W' hbW hv => hK _ _ ⟨(defers_put _ _ _).trans hdf, (size_put _ _ _).trans hsz, fun k hk => ?_, by simpa using hls, hafN, fun _ => ⟨htrans _ _ _ hB hbW, fun j oj hj hlj => ?_⟩, fun h => ?_⟩)
        · show if Region.wanted o (yielded ops a.tmps) = true then _ else _
          split
          · rename_i hw
            rw [if_pos hw] at key
            exact .inl key
          · rename_i hw
            rw [if_neg hw] at key
            exact key
        · have hne : ¬ o.dst = some k := fun e => by
            have := hk i o ho e
            rw [getD_set listed i i (by omega), if_pos rfl] at this
            cases this
          rw [slot_put, if_neg (fun hh => hne hh.1)]
          refine hoth k (fun j o hj hd => ?_)
          have := hk j o hj hd
          rw [getD_set listed i j (by omega)] at this
          by_cases hji : j = i
          · subst hji; rw [ho] at hj; cases hj; exact absurd hd hne
          · rwa [if_neg hji] at this
        · rw [getD_set listed i j (by omega)] at hlj
          by_cases hji : j = i
          · subst hji
            rw [ho] at hj; cases hj
            unfold valOf keyOf' at hv ⊢
            cases hd : o.dst with
            | none => rw [hd] at hod; cases hod
            | some d =>
              rw [hd] at hv
              simp only at hv ⊢
              rw [slot_put, if_pos ⟨rfl, by rw [hsz]; exact hin d hd⟩]
              exact hv
          · rw [if_neg hji] at hlj
            have hjN : j < N := by
              have h1 := (Array.getElem?_eq_some_iff.1 hj).1
              by_cases e : j = N
              · subst e
                rw [hNf] at hlj
                cases hlj
              · omega
            have hjd := hdst j oj hjN hj
            have h1 := hmono j _ W W' (hphi j oj hj hlj) hbW
            unfold valOf keyOf' at h1 ⊢
            cases hd : oj.dst with
            | none => rw [hd] at hjd; cases hjd
            | some d =>
              rw [hd] at h1
              simp only at h1 ⊢
              have hne : ¬ o.dst = some d := fun e => hji (huniq j oj d hj e hd).symm
              rw [slot_put, if_neg (fun hh => hne hh.1)]
              exact h1
        · exfalso
          rw [getD_set listed i N (by omega), if_neg (by omega), hNf] at h
          cases h
    intro fuel
    induction fuel with
    | zero =>
      intro listed a W hf hI
      have hr : Region.ready .any ops listed = [] := by
        cases hr : Region.ready .any ops listed with
        | nil => rfl
        | cons i l =>
          exfalso
          have hi : i ∈ Region.ready .any ops listed := by rw [hr]; simp
          have := unlisted_set (mem_ready.1 hi).1
          omega
      exact ⟨hr, done listed a W hI hr⟩
    | succ fuel ih =>
      intro listed a W hf hI
      refine ⟨done listed a W hI, fun i hi => step listed a W hI i hi _ (fun a' W' hI' => ih _ a' W' ?_ hI')⟩
      have := unlisted_set (mem_ready.1 hi).1
      omega
  refine wp_region_any hm (main _ _ _ _ ?_ ?_)
  · unfold unlisted
    rw [Array.toList_replicate, List.countP_replicate]
    split <;> omega
  · refine ⟨rfl, rfl, fun _ _ => rfl, by simp, fun i o ho hl => ?_, fun _ => ⟨hdrew, fun i o ho hl => ?_⟩, fun h => ?_⟩
    · have hil : i < ops.size := (Array.getElem?_eq_some_iff.1 ho).1
      simp [Array.getD, hil] at hl
    · have hil : i < ops.size := (Array.getElem?_eq_some_iff.1 ho).1
      simp [Array.getD, hil] at hl
    · have hil : N < ops.size := by omega
      simp [Array.getD, hil] at h
end Go.Proofs.YtenddeglhjmhcaaDoor
