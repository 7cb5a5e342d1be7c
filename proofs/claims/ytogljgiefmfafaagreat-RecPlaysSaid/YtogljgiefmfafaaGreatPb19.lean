/- A drawn region in which each operation, be it guarded, be it a store, is met once: what it yields, and what stays. -/
import Derived.Test.YtogljgiefmfafaaGreatPb00
import Derived.Test.YtogljgiefmfafaaGreatPb02
namespace Go.Proofs.YtogljgiefmfafaaGreat
section
open Go.RowKit Go.Maps
variable {Q : Exit → Act → World → Prop}
def ptrOf : Op → Option Tmp
 | .store _ (.tmp p) _ => some p
 | _ => none
def keyOf' (o : Oper) : Option Tmp := match o.dst with | some d => some d | none => ptrOf o.op
def valOf (a : Act) (o : Oper) : Value := match keyOf' o with | some d => slot a d | none => undef
def storesOk (ops : Array Oper) : Bool :=
 (List.range ops.size).all fun i => match ops[i]? with
  | none => true
  | some o => match o.dst with
   | some _ => true
   | none => match ptrOf o.op with
    | none => true
    | some p => o.after.toList.any fun e => Region.binds .any e && match ops[e.on]? with | some oe => oe.dst == some p | none => false
theorem storesOk_spec {ops : Array Oper} (h : storesOk ops = true) {i : Nat} {o : Oper} {p : Tmp} (hi : ops[i]? = some o) (hd : o.dst = none) (hp : ptrOf o.op = some p) :
  ∃ e ∈ o.after, Region.binds .any e = true ∧ ∃ oe, ops[e.on]? = some oe ∧ oe.dst = some p := by
 unfold storesOk at h
 rw [List.all_eq_true] at h
 have h1 := h i (List.mem_range.2 (Array.getElem?_eq_some_iff.1 hi).1)
 simp only [hi, hd, hp, List.any_eq_true, Bool.and_eq_true] at h1
 obtain ⟨e, he, hb, h2⟩ := h1
 refine ⟨e, by simpa using he, hb, ?_⟩
 cases ho : ops[e.on]? with
 | none => rw [ho] at h2; cases h2
 | some oe => rw [ho] at h2; exact ⟨oe, rfl, by simpa using h2⟩
def OpDoesR (ops : Array Oper) (a0 : Act) (w0 : World) (Rel : World → World → Prop) (Φ : Nat → Value → World → Prop) (Q : Exit → Act → World → Prop) (i : Nat) (o : Oper) : Prop :=
 ∀ a W, Rel w0 W → (∀ k, (ops.toList.all fun o => o.dst != some k) = true → slot a k = slot a0 k) →
  (∀ e ∈ o.after, Region.binds .any e = true → ∀ oe, ops[e.on]? = some oe → Φ e.on (valOf a oe) W) →
  ∀ K : Act → World → Prop, (∀ v W', Rel W W' → Φ i (match o.dst with | some _ => v | none => valOf a o) W' → K (a.put o.dst v) W') →
   if Region.wanted o (yielded ops a.tmps) = true then o.wp Tryz.prog a W K Q else K (a.put o.dst undef) W
theorem wp_region_rel {ops : Array Oper} {id : Nat} {a0 : Act} {w0 : World} (Rel : World → World → Prop) (Φ : Nat → Value → World → Prop)
  (hm : Tryz.prog.follows .mixedOrders = true) (hok : regionOk ops a0.tmps.size = true) (hst : storesOk ops = true)
  (hdrew : Rel w0 w0.drew) (htrans : ∀ W W' W'', Rel W W' → Rel W' W'' → Rel W W'')
  (hmono : ∀ i v W W', Φ i v W → Rel W W' → Φ i v W')
  (hops : AllOps (OpDoesR ops a0 w0 Rel Φ Q) 0 ops.toList)
  (hend : ∀ (vs : Nat → Value) W, Rel w0 W → (∀ i o, ops[i]? = some o → o.dst.isSome = true → Φ i (vs i) W) → (∀ i o p j oj, ops[i]? = some o → o.dst = none → ptrOf o.op = some p → ops[j]? = some oj → oj.dst = some p → Φ i (vs j) W) → Q .normal (putAll ops.toList 0 vs a0) W) :
  (Code.region id ops true).wp Tryz.prog Q a0 w0 := by
 let Inv : Array Bool → Act → World → Prop := fun listed a W => Rel w0 W ∧ a.defers = a0.defers ∧ a.tmps.size = a0.tmps.size ∧
  (∀ k, (∀ j o, ops[j]? = some o → o.dst = some k → listed.getD j false = false) → slot a k = slot a0 k) ∧
  (∀ i o, ops[i]? = some o → listed.getD i false = true → Φ i (valOf a o) W) ∧ listed.size = ops.size ∧
  (∀ i o, ops[i]? = some o → listed.getD i false = true → ∀ e ∈ o.after, Region.binds .any e = true → listed.getD e.on false = true)
 have getD_set : ∀ (listed : Array Bool) (i j : Nat), i < listed.size → (listed.setIfInBounds i true).getD j false = if j = i then true else listed.getD j false := fun listed i j hi => by
  by_cases hji : j = i
  · subst hji; simp [Array.getD, hi]
  · rw [if_neg hji, Array.getD_eq_getD_getElem?, Array.getD_eq_getD_getElem?, Array.getElem?_setIfInBounds_ne (fun e => hji e.symm)]
 have main : ∀ (fuel : Nat) (listed : Array Bool) (a : Act) (W : World), unlisted listed ≤ fuel → Inv listed a W → wpAny Tryz.prog .any ops Q fuel listed a W := by
  have done : ∀ (listed : Array Bool) (a : Act) (W : World), Inv listed a W → Region.ready .any ops listed = [] → Q .normal a W := by
   intro listed a W ⟨hB, hdf, hsz, hoth, hphi, hls, _⟩ hr
   have all : ∀ i, i < ops.size → listed.getD i false = true := by
    intro i
    induction i using Nat.strongRecOn with
    | _ i ih =>
     intro hi
     cases hl : listed.getD i false with
     | true => rfl
     | false =>
      exfalso
      have : i ∈ Region.ready .any ops listed := mem_ready.2 ⟨by rw [← hl]; simp [Array.getD, hls, hi], ops[i], Array.getElem?_eq_getElem hi, fun e he hbd => by
       have := (regionOk_spec hok (Array.getElem?_eq_getElem hi)).1 e he hbd
       exact ih e.on this (by omega)⟩
      rw [hr] at this
      cases this
   let vs : Nat → Value := fun i => match ops[i]?.bind (·.dst) with | some d => slot a d | none => undef
   have hq := hend vs W hB (fun i o ho hsm => by
    have := hphi i o ho (all i (Array.getElem?_eq_some_iff.1 ho).1)
    unfold valOf keyOf' at this
    cases hd : o.dst with
    | none => rw [hd] at hsm; cases hsm
    | some d => rw [hd] at this; simpa [vs, ho, hd] using this) (fun i o p j oj ho hd hp hj hjd => by
    have := hphi i o ho (all i (Array.getElem?_eq_some_iff.1 ho).1)
    unfold valOf keyOf' at this
    rw [hd] at this
    simp only [hp] at this
    simpa [vs, hj, hjd] using this)
   have he : putAll ops.toList 0 vs a0 = a := by
    obtain ⟨p1, p2⟩ := putAll_size ops.toList 0 vs a0
    refine act_ext (p1.trans hsz.symm) (p2.trans hdf.symm) fun k => ?_
    by_cases hk : ∃ j : Nat, ∃ o, ops[j]? = some o ∧ o.dst = some k
    · obtain ⟨j, o, hj, hd⟩ := hk
      obtain ⟨_, hin, huniq⟩ := regionOk_spec hok hj
      rw [putAll_dst ops.toList 0 vs a0 j o k (by simpa using hj) hd (hin k hd) (fun j' o' h1 h2 => (huniq j' o' k (by simpa using h1) hd h2).symm)]
      simp [vs, hj, hd]
    · rw [putAll_other _ _ _ _ _ (fun o ho e => by
       obtain ⟨j, hj, rfl⟩ := List.getElem_of_mem ho
       exact hk ⟨j, ops.toList[j], by simp, e⟩)]
      exact (hoth k (fun j o hj hd => absurd ⟨j, o, hj, hd⟩ hk)).symm
   rw [← he]; exact hq
  have step : ∀ (listed : Array Bool) (a : Act) (W : World), Inv listed a W → ∀ i ∈ Region.ready .any ops listed, ∀ K : Act → World → Prop, (∀ a' W', Inv (listed.setIfInBounds i true) a' W' → K a' W') → wpOp Tryz.prog ops Q i K a W := by
   intro listed a W ⟨hB, hdf, hsz, hoth, hphi, hls, haf⟩ i hi K hK
   obtain ⟨hun, o, ho, haft⟩ := mem_ready.1 hi
   have hil : i < ops.size := (Array.getElem?_eq_some_iff.1 ho).1
   have hdo := hops.get (k := i) (o := o) (by simpa using ho)
   obtain ⟨hback, hin, huniq⟩ := regionOk_spec hok ho
   unfold wpOp
   rw [ho]
   have hun' : listed.getD i false = false := by
    cases hh : listed.getD i false with
    | false => rfl
    | true => simp [Array.getD, hls, hil] at hun hh; rw [hun] at hh; cases hh
   have key := hdo a W hB (fun k hk => ?_) (fun e he hb oe hoe => hphi e.on oe hoe (haft e he hb)) K (fun v W' hbW hv => hK _ _ ⟨htrans _ _ _ hB hbW, (defers_put _ _ _).trans hdf, (size_put _ _ _).trans hsz, fun k hk => ?_, fun j oj hj hlj => ?_, by simpa using hls, fun j oj hj hlj e he hb => ?_⟩)
   · show if Region.wanted o (yielded ops a.tmps) = true then _ else _
     split
     · rename_i hw
       rw [if_pos hw] at key
       exact .inl key
     · rename_i hw
       rw [if_neg hw] at key
       exact key
   · rw [List.all_eq_true] at hk
     exact hoth k (fun j oj hj hd => by
      have := hk oj (List.mem_of_getElem? (i := j) (by simpa using hj))
      rw [hd] at this; simp at this)
   · have hne : ¬ o.dst = some k := fun e => by
      have := hk i o ho e
      rw [getD_set listed i i (by omega), if_pos rfl] at this
      cases this
     rw [slot_put, if_neg (fun hh => hne hh.1)]
     refine hoth k (fun j oj hj hd => ?_)
     have := hk j oj hj hd
     rw [getD_set listed i j (by omega)] at this
     by_cases hji : j = i
     · subst hji; rw [ho] at hj; cases hj; exact absurd hd hne
     · rwa [if_neg hji] at this
   · rw [getD_set listed i j (by omega)] at hlj
     by_cases hji : j = i
     · subst hji
       rw [ho] at hj; cases hj
       rw [show 0 + j = j by omega] at hv
       unfold valOf keyOf' at hv ⊢
       cases hd : o.dst with
       | none =>
        rw [hd] at hv
        simp only at hv ⊢
        cases hp : ptrOf o.op with
        | none => rw [hp] at hv; exact hv
        | some p =>
         rw [hp] at hv
         simp only at hv ⊢
         rw [slot_put, if_neg (fun hh => by cases hh.1)]
         exact hv
       | some d =>
        rw [hd] at hv
        simp only at hv ⊢
        rw [slot_put, if_pos ⟨rfl, by rw [hsz]; exact hin d hd⟩]
        exact hv
     · rw [if_neg hji] at hlj
       have h1 := hmono j _ W W' (hphi j oj hj hlj) hbW
       unfold valOf keyOf' at h1 ⊢
       cases hd : oj.dst with
       | none =>
        rw [hd] at h1
        simp only at h1 ⊢
        cases hp : ptrOf oj.op with
        | none => rw [hp] at h1; exact h1
        | some p =>
         rw [hp] at h1
         simp only at h1 ⊢
         obtain ⟨e, he, hb, oe, hoe, hed⟩ := storesOk_spec hst hj hd hp
         have hle := haf j oj hj hlj e he hb
         have hne : ¬ o.dst = some p := fun e' => by
          have := huniq e.on oe p hoe e' hed
          rw [← this, hun'] at hle
          cases hle
         rw [slot_put, if_neg (fun hh => hne hh.1)]
         exact h1
       | some d =>
        rw [hd] at h1
        simp only at h1 ⊢
        have hne : ¬ o.dst = some d := fun e => hji (huniq j oj d hj e hd).symm
        rw [slot_put, if_neg (fun hh => hne hh.1)]
        exact h1
   · rw [getD_set listed i j (by omega)] at hlj
     rw [getD_set listed i e.on (by omega)]
     split
     · rfl
     · by_cases hji : j = i
       · subst hji
         rw [ho] at hj; cases hj
         exact haft e he hb
       · rw [if_neg hji] at hlj
         exact haf j oj hj hlj e he hb
  intro fuel
  induction fuel with
  | zero =>
   intro listed a W hf hI
   have hr : Region.ready .any ops listed = [] := by
    cases hr : Region.ready .any ops listed with
    | nil => rfl
    | cons i l =>
     exfalso
     have hi : i ∈ Region.ready .any ops listed := by rw [hr]; simp
     have := unlisted_set (mem_ready.1 hi).1
     omega
   exact ⟨hr, done listed a W hI hr⟩
  | succ fuel ih =>
   intro listed a W hf hI
   refine ⟨done listed a W hI, fun i hi => step listed a W hI i hi _ (fun a' W' hI' => ih _ a' W' ?_ hI')⟩
   have := unlisted_set (mem_ready.1 hi).1
   omega
 refine wp_region_any hm (main _ _ _ _ ?_ ?_)
 · unfold unlisted
   rw [Array.toList_replicate, List.countP_replicate]
   split <;> omega
 · refine ⟨hdrew, rfl, rfl, fun _ _ => rfl, fun i o ho hl => ?_, by simp, fun i o ho hl => ?_⟩
   · have hil : i < ops.size := (Array.getElem?_eq_some_iff.1 ho).1
     simp [Array.getD, hil] at hl
   · have hil : i < ops.size := (Array.getElem?_eq_some_iff.1 ho).1
     simp [Array.getD, hil] at hl
section
variable {ops : Array Oper} {a0 : Act} {w0 : World} {Rel : World → World → Prop} {Φ : Nat → Value → World → Prop} {i : Nat} {o : Oper}
def dstV (a : Act) (o : Oper) : Value := match keyOf' o with | some d => a.tmps[d]?.getD undef | none => undef
theorem valOf_dst (a : Act) (o : Oper) : valOf a o = dstV a o := by
 unfold valOf dstV
 cases keyOf' o with
 | none => rfl
 | some d => exact eval_slot a d
theorem opR_any
  (h : ∀ a W, Rel w0 W → (∀ k, (ops.toList.all fun o => o.dst != some k) = true → a.tmps[k]?.getD undef = slot a0 k) →
   (∀ j oe, (o.after.toList.any fun e => e.on == j && Region.binds .any e) = true → ops[j]? = some oe → Φ j (dstV a oe) W) →
   ∀ K : Act → World → Prop, (∀ v W', Rel W W' → Φ i (match o.dst with | some _ => v | none => dstV a o) W' → K (a.put o.dst v) W') →
    if Region.wanted o (yielded ops a.tmps) = true then o.wp Tryz.prog a W K Q else K (a.put o.dst undef) W) : OpDoesR ops a0 w0 Rel Φ Q i o := by
 intro a W h1 h2 h3 K hK
 refine h a W h1 (fun k hk => (eval_slot a k).symm.trans (h2 k hk)) (fun j oe hj ho => ?_) K (fun v W' hr hp => hK v W' hr (by rw [valOf_dst]; exact hp))
 rw [List.any_eq_true] at hj
 obtain ⟨e, he, hb⟩ := hj
 simp only [Bool.and_eq_true, beq_iff_eq] at hb
 obtain ⟨rfl, hb⟩ := hb
 rw [← valOf_dst]
 exact h3 e (by simpa using he) hb oe ho
theorem opR_mk (hg : o.guard = none)
  (h : ∀ a W, Rel w0 W → (∀ k, (ops.toList.all fun o => o.dst != some k) = true → a.tmps[k]?.getD undef = slot a0 k) →
   (∀ j oe, (o.after.toList.any fun e => e.on == j && Region.binds .any e) = true → ops[j]? = some oe → Φ j (dstV a oe) W) →
   ∀ K : Act → World → Prop, (∀ v W', Rel W W' → Φ i (match o.dst with | some _ => v | none => dstV a o) W' → K (a.put o.dst v) W') → o.wp Tryz.prog a W K Q) : OpDoesR ops a0 w0 Rel Φ Q i o := by
 refine opR_any fun a W h1 h2 h3 K hK => ?_
 rw [if_pos (by simp [Region.wanted, hg])]
 exact h a W h1 h2 h3 K hK
theorem opR_guard {j d : Nat} {want c : Bool} {oj : Oper} (hod : o.dst.isSome = true) (hg : o.guard = some (j, want)) (haft : (o.after.toList.any fun e => e.on == j && Region.binds .any e) = true) (hj : ops[j]? = some oj) (hjd : oj.dst = some d)
  (hc : ∀ v W, Φ j v W → v = .bool c) (hrefl : ∀ W, Rel W W) (hskip : c ≠ want → ∀ W, Φ i undef W)
  (h : c = want → ∀ a W, Rel w0 W → (∀ k, (ops.toList.all fun o => o.dst != some k) = true → a.tmps[k]?.getD undef = slot a0 k) →
   (∀ j oe, (o.after.toList.any fun e => e.on == j && Region.binds .any e) = true → ops[j]? = some oe → Φ j (dstV a oe) W) →
   ∀ K : Act → World → Prop, (∀ v W', Rel W W' → Φ i (match o.dst with | some _ => v | none => dstV a o) W' → K (a.put o.dst v) W') → o.wp Tryz.prog a W K Q) : OpDoesR ops a0 w0 Rel Φ Q i o := by
 refine opR_any fun a W h1 h2 h3 K hK => ?_
 have hv := hc _ _ (h3 j oj haft hj)
 have hy : yielded ops a.tmps j = some c := by
  unfold dstV keyOf' at hv
  rw [hjd] at hv
  simp only at hv
  unfold yielded
  rw [hj]
  simp only [Option.bind_some, hjd]
  cases ht : a.tmps[d]? with
  | none => rw [ht] at hv; cases hv
  | some x => rw [ht] at hv; simp only [Option.getD_some] at hv; rw [hv]
 by_cases hcw : c = want
 · rw [if_pos (by simp [Region.wanted, hg, hy, hcw])]
   exact h hcw a W h1 h2 h3 K hK
 · rw [if_neg (by simp [Region.wanted, hg, hy, hcw])]
   refine hK undef W (hrefl W) ?_
   cases hd : o.dst with
   | some d => exact hskip hcw W
   | none => rw [hd] at hod; cases hod
end
end

section
open Go.RowKit Go.Maps
variable {Q : Exit → Act → World → Prop}
def stepOf (ks : List Nat) (i : Nat) : Option Nat := ks.idxOf? i
theorem stepOf_some {ks : List Nat} {i m : Nat} (h : stepOf ks i = some m) : ks[m]? = some i := by
 unfold stepOf at h
 rw [List.idxOf?_eq_some_iff] at h
 obtain ⟨h1, h2, _⟩ := h
 rw [List.getElem?_eq_getElem h1]
 rw [h2]
theorem stepOf_none {ks : List Nat} {i : Nat} (h : stepOf ks i = none) : ∀ m : Nat, ks[m]? ≠ some i := fun m hm => by
 unfold stepOf at h
 rw [List.idxOf?_eq_none_iff] at h
 exact h (List.mem_of_getElem? hm)
def chainOk (ops : Array Oper) (ks : List Nat) : Bool :=
 decide ks.Nodup && (List.range ks.length).all fun m => match ks[m]?, ks[m + 1]? with
  | some k, some k' => (match ops[k']? with | some o => o.after.toList.any fun e => e.on == k && Region.binds .any e | none => false)
  | _, _ => true
theorem chainOk_spec {ops : Array Oper} {ks : List Nat} (h : chainOk ops ks = true) : ks.Nodup ∧ ∀ (m k k' : Nat) (o : Oper), ks[m]? = some k → ks[m + 1]? = some k' → ops[k']? = some o → ∃ e ∈ o.after, e.on = k ∧ Region.binds .any e = true := by
 unfold chainOk at h
 rw [Bool.and_eq_true, List.all_eq_true] at h
 refine ⟨by simpa using h.1, fun m k k' o h1 h2 h3 => ?_⟩
 have := h.2 m (List.mem_range.2 (List.getElem?_eq_some_iff.1 h1).1)
 simp only [h1, h2, h3, List.any_eq_true, Bool.and_eq_true, beq_iff_eq] at this
 obtain ⟨e, he, h4, h5⟩ := this
 exact ⟨e, by simpa using he, h4, h5⟩
def storesOk2 (ops : Array Oper) : Bool :=
 (List.range ops.size).all fun i => match ops[i]? with
  | none => true
  | some o => match o.dst with
   | some _ => true
   | none => match ptrOf o.op with
    | none => true
    | some p => (o.after.toList.any fun e => Region.binds .any e && match ops[e.on]? with | some oe => oe.dst == some p | none => false) || ops.toList.all fun oo => oo.dst != some p
theorem storesOk2_spec {ops : Array Oper} (h : storesOk2 ops = true) {i : Nat} {o : Oper} {p : Tmp} (hi : ops[i]? = some o) (hd : o.dst = none) (hp : ptrOf o.op = some p) :
  (∃ e ∈ o.after, Region.binds .any e = true ∧ ∃ oe, ops[e.on]? = some oe ∧ oe.dst = some p) ∨ ∀ (k : Nat) (oo : Oper), ops[k]? = some oo → oo.dst ≠ some p := by
 unfold storesOk2 at h
 rw [List.all_eq_true] at h
 have h1 := h i (List.mem_range.2 (Array.getElem?_eq_some_iff.1 hi).1)
 simp only [hi, hd, hp, Bool.or_eq_true] at h1
 rcases h1 with h1 | h1
 · left
   simp only [List.any_eq_true, Bool.and_eq_true] at h1
   obtain ⟨e, he, hb, h2⟩ := h1
   refine ⟨e, by simpa using he, hb, ?_⟩
   cases ho : ops[e.on]? with
   | none => rw [ho] at h2; cases h2
   | some oe => rw [ho] at h2; exact ⟨oe, rfl, by simpa using h2⟩
 · right
   intro k oo hk e
   rw [List.all_eq_true] at h1
   have := h1 oo (List.mem_of_getElem? (i := k) (by simpa using hk))
   rw [e] at this
   simp at this
def OpDoesS (ops : Array Oper) (a0 : Act) (J : Nat → World → Prop) (RelS RelW : World → World → Prop) (ks : List Nat) (Φ : Nat → Value → World → Prop) (Q : Exit → Act → World → Prop) (i : Nat) (o : Oper) : Prop :=
 ∀ a W n, J n W → n ≤ ks.length → (∀ m, stepOf ks i = some m → n = m) → (∀ k, (ops.toList.all fun o => o.dst != some k) = true → slot a k = slot a0 k) →
  (∀ e ∈ o.after, Region.binds .any e = true → ∀ oe, ops[e.on]? = some oe → Φ e.on (valOf a oe) W) →
  ∀ K : Act → World → Prop, (∀ v W', (match stepOf ks i with | some m => RelW W W' ∧ J (m + 1) W' | none => RelS W W') → Φ i (match o.dst with | some _ => v | none => valOf a o) W' → K (a.put o.dst v) W') →
   if Region.wanted o (yielded ops a.tmps) = true then o.wp Tryz.prog a W K Q else K (a.put o.dst undef) W
theorem wp_region_st {ops : Array Oper} {id : Nat} {a0 : Act} {w0 : World} (J : Nat → World → Prop) (RelS RelW : World → World → Prop) (ks : List Nat) (Φ : Nat → Value → World → Prop)
  (hm : Tryz.prog.follows .mixedOrders = true) (hok : regionOk ops a0.tmps.size = true) (hst : storesOk2 ops = true) (hks0 : (ks.all fun k => decide (k < ops.size)) = true)
  (hch : chainOk ops ks = true) (hdrew : J 0 w0.drew) (hst1 : ∀ n W W', J n W → RelS W W' → J n W') (hsw : ∀ W W', RelS W W' → RelW W W')
  (hmono : ∀ i v W W', Φ i v W → RelW W W' → Φ i v W')
  (hops : AllOps (OpDoesS ops a0 J RelS RelW ks Φ Q) 0 ops.toList)
  (hend : ∀ (vs : Nat → Value) W, J ks.length W → (∀ i o, ops[i]? = some o → o.dst.isSome = true → Φ i (vs i) W) → (∀ i o p j oj, ops[i]? = some o → o.dst = none → ptrOf o.op = some p → ops[j]? = some oj → oj.dst = some p → Φ i (vs j) W) → Q .normal (putAll ops.toList 0 vs a0) W) :
  (Code.region id ops true).wp Tryz.prog Q a0 w0 := by
 let Inv : Array Bool → Act → World → Prop := fun listed a W => (∃ n, J n W ∧ n ≤ ks.length ∧ ∀ m k : Nat, ks[m]? = some k → listed.getD k false = decide (m < n)) ∧ a.defers = a0.defers ∧ a.tmps.size = a0.tmps.size ∧
  (∀ k, (∀ j o, ops[j]? = some o → o.dst = some k → listed.getD j false = false) → slot a k = slot a0 k) ∧
  (∀ i o, ops[i]? = some o → listed.getD i false = true → Φ i (valOf a o) W) ∧ listed.size = ops.size ∧
  (∀ i o, ops[i]? = some o → listed.getD i false = true → ∀ e ∈ o.after, Region.binds .any e = true → listed.getD e.on false = true)
 obtain ⟨hnd, hchn⟩ := chainOk_spec hch
 have hks : ∀ m k : Nat, ks[m]? = some k → k < ops.size := fun m k h => by
  rw [List.all_eq_true] at hks0
  simpa using hks0 k (List.mem_of_getElem? h)
 have getD_set : ∀ (listed : Array Bool) (i j : Nat), i < listed.size → (listed.setIfInBounds i true).getD j false = if j = i then true else listed.getD j false := fun listed i j hi => by
  by_cases hji : j = i
  · subst hji; simp [Array.getD, hi]
  · rw [if_neg hji, Array.getD_eq_getD_getElem?, Array.getD_eq_getD_getElem?, Array.getElem?_setIfInBounds_ne (fun e => hji e.symm)]
 have main : ∀ (fuel : Nat) (listed : Array Bool) (a : Act) (W : World), unlisted listed ≤ fuel → Inv listed a W → wpAny Tryz.prog .any ops Q fuel listed a W := by
  have done : ∀ (listed : Array Bool) (a : Act) (W : World), Inv listed a W → Region.ready .any ops listed = [] → Q .normal a W := by
   intro listed a W ⟨hB, hdf, hsz, hoth, hphi, hls, _⟩ hr
   have all : ∀ i, i < ops.size → listed.getD i false = true := by
    intro i
    induction i using Nat.strongRecOn with
    | _ i ih =>
     intro hi
     cases hl : listed.getD i false with
     | true => rfl
     | false =>
      exfalso
      have : i ∈ Region.ready .any ops listed := mem_ready.2 ⟨by rw [← hl]; simp [Array.getD, hls, hi], ops[i], Array.getElem?_eq_getElem hi, fun e he hbd => by
       have := (regionOk_spec hok (Array.getElem?_eq_getElem hi)).1 e he hbd
       exact ih e.on this (by omega)⟩
      rw [hr] at this
      cases this
   have hB : J ks.length W := by
    obtain ⟨n, hn, hnl, hst⟩ := hB
    have : n = ks.length := by
     rcases Nat.lt_or_ge n ks.length with h | h
     · exfalso
       have h1 := hst n _ (List.getElem?_eq_getElem h)
       rw [all _ (hks n _ (List.getElem?_eq_getElem h))] at h1
       simp at h1
     · omega
    rw [← this]; exact hn
   let vs : Nat → Value := fun i => match ops[i]?.bind (·.dst) with | some d => slot a d | none => undef
   have hq := hend vs W hB (fun i o ho hsm => by
    have := hphi i o ho (all i (Array.getElem?_eq_some_iff.1 ho).1)
    unfold valOf keyOf' at this
    cases hd : o.dst with
    | none => rw [hd] at hsm; cases hsm
    | some d => rw [hd] at this; simpa [vs, ho, hd] using this) (fun i o p j oj ho hd hp hj hjd => by
    have := hphi i o ho (all i (Array.getElem?_eq_some_iff.1 ho).1)
    unfold valOf keyOf' at this
    rw [hd] at this
    simp only [hp] at this
    simpa [vs, hj, hjd] using this)
   have he : putAll ops.toList 0 vs a0 = a := by
    obtain ⟨p1, p2⟩ := putAll_size ops.toList 0 vs a0
    refine act_ext (p1.trans hsz.symm) (p2.trans hdf.symm) fun k => ?_
    by_cases hk : ∃ j : Nat, ∃ o, ops[j]? = some o ∧ o.dst = some k
    · obtain ⟨j, o, hj, hd⟩ := hk
      obtain ⟨_, hin, huniq⟩ := regionOk_spec hok hj
      rw [putAll_dst ops.toList 0 vs a0 j o k (by simpa using hj) hd (hin k hd) (fun j' o' h1 h2 => (huniq j' o' k (by simpa using h1) hd h2).symm)]
      simp [vs, hj, hd]
    · rw [putAll_other _ _ _ _ _ (fun o ho e => by
       obtain ⟨j, hj, rfl⟩ := List.getElem_of_mem ho
       exact hk ⟨j, ops.toList[j], by simp, e⟩)]
      exact (hoth k (fun j o hj hd => absurd ⟨j, o, hj, hd⟩ hk)).symm
   rw [← he]; exact hq
  have step : ∀ (listed : Array Bool) (a : Act) (W : World), Inv listed a W → ∀ i ∈ Region.ready .any ops listed, ∀ K : Act → World → Prop, (∀ a' W', Inv (listed.setIfInBounds i true) a' W' → K a' W') → wpOp Tryz.prog ops Q i K a W := by
   intro listed a W ⟨hB, hdf, hsz, hoth, hphi, hls, haf⟩ i hi K hK
   obtain ⟨hun, o, ho, haft⟩ := mem_ready.1 hi
   have hil : i < ops.size := (Array.getElem?_eq_some_iff.1 ho).1
   have hdo := hops.get (k := i) (o := o) (by simpa using ho)
   obtain ⟨hback, hin, huniq⟩ := regionOk_spec hok ho
   unfold wpOp
   rw [ho]
   have hun' : listed.getD i false = false := by
    cases hh : listed.getD i false with
    | false => rfl
    | true => simp [Array.getD, hls, hil] at hun hh; rw [hun] at hh; cases hh
   obtain ⟨n, hJ, hnl, hstg⟩ := hB
   have hn : ∀ m, stepOf ks (0 + i) = some m → n = m := fun m hm => by
    rw [Nat.zero_add] at hm
    have hkm := stepOf_some hm
    have h1 := hstg m i hkm
    rw [hun'] at h1
    have h2 : ¬ m < n := by simpa using h1.symm
    cases m with
    | zero => omega
    | succ m =>
     have hm1 : m < ks.length := by have := (List.getElem?_eq_some_iff.1 hkm).1; omega
     obtain ⟨e, he, he2, he3⟩ := hchn m _ i o (List.getElem?_eq_getElem hm1) hkm ho
     have h3 := haft e he he3
     rw [he2, hstg m _ (List.getElem?_eq_getElem hm1)] at h3
     have : m < n := by simpa using h3
     omega
   have hW : ∀ W', (match stepOf ks (0 + i) with | some m => RelW W W' ∧ J (m + 1) W' | none => RelS W W') → RelW W W' ∧ ∃ n, J n W' ∧ n ≤ ks.length ∧ ∀ m k : Nat, ks[m]? = some k → (listed.setIfInBounds i true).getD k false = decide (m < n) := fun W' hh => by
    cases hso : stepOf ks (0 + i) with
    | none =>
     rw [hso] at hh
     refine ⟨hsw _ _ hh, n, hst1 _ _ _ hJ hh, hnl, fun m k hk => ?_⟩
     rw [getD_set listed i k (by omega)]
     rw [Nat.zero_add] at hso
     rw [if_neg (fun e => stepOf_none hso m (by rw [← e]; exact hk))]
     exact hstg m k hk
    | some m =>
     rw [hso] at hh
     have hnm := hn m hso
     rw [Nat.zero_add] at hso
     have hkm := stepOf_some hso
     have hml := (List.getElem?_eq_some_iff.1 hkm).1
     refine ⟨hh.1, m + 1, hh.2, hml, fun m' k hk => ?_⟩
     rw [getD_set listed i k (by omega)]
     by_cases hki : k = i
     · subst hki
       have : m' = m := (List.getElem?_inj (List.getElem?_eq_some_iff.1 hk).1 hnd).1 (hk.trans hkm.symm)
       subst this
       simp
     · rw [if_neg hki, hstg m' k hk]
       have : m' ≠ m := fun e => by subst e; rw [hkm] at hk; injection hk with hk; exact hki hk.symm
       rw [hnm]
       simp only [decide_eq_decide]
       omega
   have key := hdo a W n hJ hnl hn (fun k hk => ?_) (fun e he hb oe hoe => hphi e.on oe hoe (haft e he hb)) K (fun v W' hbW hv => hK _ _ ⟨(hW W' hbW).2, (defers_put _ _ _).trans hdf, (size_put _ _ _).trans hsz, fun k hk => ?_, fun j oj hj hlj => ?_, by simpa using hls, fun j oj hj hlj e he hb => ?_⟩)
   · show if Region.wanted o (yielded ops a.tmps) = true then _ else _
     split
     · rename_i hw
       rw [if_pos hw] at key
       exact .inl key
     · rename_i hw
       rw [if_neg hw] at key
       exact key
   · rw [List.all_eq_true] at hk
     exact hoth k (fun j oj hj hd => by
      have := hk oj (List.mem_of_getElem? (i := j) (by simpa using hj))
      rw [hd] at this; simp at this)
   · have hne : ¬ o.dst = some k := fun e => by
      have := hk i o ho e
      rw [getD_set listed i i (by omega), if_pos rfl] at this
      cases this
     rw [slot_put, if_neg (fun hh => hne hh.1)]
     refine hoth k (fun j oj hj hd => ?_)
     have := hk j oj hj hd
     rw [getD_set listed i j (by omega)] at this
     by_cases hji : j = i
     · subst hji; rw [ho] at hj; cases hj; exact absurd hd hne
     · rwa [if_neg hji] at this
   · rw [getD_set listed i j (by omega)] at hlj
     by_cases hji : j = i
     · subst hji
       rw [ho] at hj; cases hj
       rw [show 0 + j = j by omega] at hv
       unfold valOf keyOf' at hv ⊢
       cases hd : o.dst with
       | none =>
        rw [hd] at hv
        simp only at hv ⊢
        cases hp : ptrOf o.op with
        | none => rw [hp] at hv; exact hv
        | some p =>
         rw [hp] at hv
         simp only at hv ⊢
         rw [slot_put, if_neg (fun hh => by cases hh.1)]
         exact hv
       | some d =>
        rw [hd] at hv
        simp only at hv ⊢
        rw [slot_put, if_pos ⟨rfl, by rw [hsz]; exact hin d hd⟩]
        exact hv
     · rw [if_neg hji] at hlj
       have h1 := hmono j _ W W' (hphi j oj hj hlj) (hW W' hbW).1
       unfold valOf keyOf' at h1 ⊢
       cases hd : oj.dst with
       | none =>
        rw [hd] at h1
        simp only at h1 ⊢
        cases hp : ptrOf oj.op with
        | none => rw [hp] at h1; exact h1
        | some p =>
         rw [hp] at h1
         simp only at h1 ⊢
         have hne : ¬ o.dst = some p := by
          rcases storesOk2_spec hst hj hd hp with ⟨e, he, hb, oe, hoe, hed⟩ | hno
          · have hle := haf j oj hj hlj e he hb
            intro e'
            have := huniq e.on oe p hoe e' hed
            rw [← this, hun'] at hle
            cases hle
          · exact hno i o ho
         rw [slot_put, if_neg (fun hh => hne hh.1)]
         exact h1
       | some d =>
        rw [hd] at h1
        simp only at h1 ⊢
        have hne : ¬ o.dst = some d := fun e => hji (huniq j oj d hj e hd).symm
        rw [slot_put, if_neg (fun hh => hne hh.1)]
        exact h1
   · rw [getD_set listed i j (by omega)] at hlj
     rw [getD_set listed i e.on (by omega)]
     split
     · rfl
     · by_cases hji : j = i
       · subst hji
         rw [ho] at hj; cases hj
         exact haft e he hb
       · rw [if_neg hji] at hlj
         exact haf j oj hj hlj e he hb
  intro fuel
  induction fuel with
  | zero =>
   intro listed a W hf hI
   have hr : Region.ready .any ops listed = [] := by
    cases hr : Region.ready .any ops listed with
    | nil => rfl
    | cons i l =>
     exfalso
     have hi : i ∈ Region.ready .any ops listed := by rw [hr]; simp
     have := unlisted_set (mem_ready.1 hi).1
     omega
   exact ⟨hr, done listed a W hI hr⟩
  | succ fuel ih =>
   intro listed a W hf hI
   refine ⟨done listed a W hI, fun i hi => step listed a W hI i hi _ (fun a' W' hI' => ih _ a' W' ?_ hI')⟩
   have := unlisted_set (mem_ready.1 hi).1
   omega
 refine wp_region_any hm (main _ _ _ _ ?_ ?_)
 · unfold unlisted
   rw [Array.toList_replicate, List.countP_replicate]
   split <;> omega
 · refine ⟨⟨0, hdrew, Nat.zero_le _, fun m k hk => by have := hks m k hk; simp [Array.getD]⟩, rfl, rfl, fun _ _ => rfl, fun i o ho hl => ?_, by simp, fun i o ho hl => ?_⟩
   · have hil : i < ops.size := (Array.getElem?_eq_some_iff.1 ho).1
     simp [Array.getD, hil] at hl
   · have hil : i < ops.size := (Array.getElem?_eq_some_iff.1 ho).1
     simp [Array.getD, hil] at hl
section
variable {ops : Array Oper} {a0 : Act} {J : Nat → World → Prop} {RelS RelW : World → World → Prop} {ks : List Nat} {Φ : Nat → Value → World → Prop} {i : Nat} {o : Oper}
theorem opS_any
  (h : ∀ a W n, J n W → n ≤ ks.length → (∀ m, stepOf ks i = some m → n = m) → (∀ k, (ops.toList.all fun o => o.dst != some k) = true → a.tmps[k]?.getD undef = slot a0 k) →
   (∀ j oe, (o.after.toList.any fun e => e.on == j && Region.binds .any e) = true → ops[j]? = some oe → Φ j (dstV a oe) W) →
   ∀ K : Act → World → Prop, (∀ v W', (match stepOf ks i with | some m => RelW W W' ∧ J (m + 1) W' | none => RelS W W') → Φ i (match o.dst with | some _ => v | none => dstV a o) W' → K (a.put o.dst v) W') →
    if Region.wanted o (yielded ops a.tmps) = true then o.wp Tryz.prog a W K Q else K (a.put o.dst undef) W) : OpDoesS ops a0 J RelS RelW ks Φ Q i o := by
 intro a W n h1 hnl hn h2 h3 K hK
 refine h a W n h1 hnl hn (fun k hk => (eval_slot a k).symm.trans (h2 k hk)) (fun j oe hj ho => ?_) K (fun v W' hr hp => hK v W' hr (by rw [valOf_dst]; exact hp))
 rw [List.any_eq_true] at hj
 obtain ⟨e, he, hb⟩ := hj
 simp only [Bool.and_eq_true, beq_iff_eq] at hb
 obtain ⟨rfl, hb⟩ := hb
 rw [← valOf_dst]
 exact h3 e (by simpa using he) hb oe ho
theorem opS_mk (hs : stepOf ks i = none) (hg : o.guard = none)
  (h : ∀ a W n, J n W → (∀ k, (ops.toList.all fun o => o.dst != some k) = true → a.tmps[k]?.getD undef = slot a0 k) →
   (∀ j oe, (o.after.toList.any fun e => e.on == j && Region.binds .any e) = true → ops[j]? = some oe → Φ j (dstV a oe) W) →
   ∀ K : Act → World → Prop, (∀ v W', RelS W W' → Φ i (match o.dst with | some _ => v | none => dstV a o) W' → K (a.put o.dst v) W') → o.wp Tryz.prog a W K Q) : OpDoesS ops a0 J RelS RelW ks Φ Q i o := by
 refine opS_any fun a W n h1 _ _ h2 h3 K hK => ?_
 rw [if_pos (by simp [Region.wanted, hg])]
 rw [hs] at hK
 exact h a W n h1 h2 h3 K hK
theorem opS_at {m : Nat} (hs : stepOf ks i = some m) (hg : o.guard = none)
  (h : ∀ a W, J m W → (∀ k, (ops.toList.all fun o => o.dst != some k) = true → a.tmps[k]?.getD undef = slot a0 k) →
   (∀ j oe, (o.after.toList.any fun e => e.on == j && Region.binds .any e) = true → ops[j]? = some oe → Φ j (dstV a oe) W) →
   ∀ K : Act → World → Prop, (∀ v W', RelW W W' → J (m + 1) W' → Φ i (match o.dst with | some _ => v | none => dstV a o) W' → K (a.put o.dst v) W') → o.wp Tryz.prog a W K Q) : OpDoesS ops a0 J RelS RelW ks Φ Q i o := by
 refine opS_any fun a W n h1 _ hn h2 h3 K hK => ?_
 rw [if_pos (by simp [Region.wanted, hg])]
 rw [hs] at hK
 exact h a W ((hn m hs) ▸ h1) h2 h3 K (fun v W' h4 h5 h6 => hK v W' ⟨h4, h5⟩ h6)
end
end

section
open Go.RowKit
structure R where
 stamp : Int
 act : Int
 dir : Int
 name : ByteArray
 ino : Int
 kind : Int
 dir2 : Int
 name2 : ByteArray
 old : Int
 size : Int
 page : Int
 data : ByteArray
structure R.Ok (r : R) : Prop where
 stamp : 0 ≤ r.stamp ∧ r.stamp ≤ 18446744073709551615
 act : 0 ≤ r.act ∧ r.act ≤ 255
 dir : 0 ≤ r.dir ∧ r.dir ≤ 4294967295
 ino : 0 ≤ r.ino ∧ r.ino ≤ 4294967295
 kind : 0 ≤ r.kind ∧ r.kind ≤ 255
 dir2 : 0 ≤ r.dir2 ∧ r.dir2 ≤ 4294967295
 old : 0 ≤ r.old ∧ r.old ≤ 4294967295
 size : 0 ≤ r.size ∧ r.size ≤ 4294967295
def leB : Nat → Nat → List UInt8
 | _, 0 => []
 | v, n + 1 => UInt8.ofNat v :: leB (v / 256) n
def leN : List UInt8 → Nat
 | [] => 0
 | b :: l => b.toNat + 256 * leN l
theorem leB_len : ∀ n v, (leB v n).length = n
 | 0, _ => rfl
 | n + 1, v => by
  show (leB (v / 256) n).length + 1 = n + 1
  rw [leB_len]
theorem leN_leB : ∀ n v, v < 256 ^ n → leN (leB v n) = v
 | 0, v, h => by
  have : v = 0 := by simpa using h
  subst this
  rfl
 | n + 1, v, h => by
  show (UInt8.ofNat v).toNat + 256 * leN (leB (v / 256) n) = v
  rw [leN_leB n (v / 256) (by rw [Nat.pow_succ] at h; omega)]
  rw [UInt8.toNat_ofNat']
  omega
theorem leN_lt : ∀ l : List UInt8, leN l < 256 ^ l.length
 | [] => by simp [leN]
 | b :: l => by
  have h1 := leN_lt l
  have h2 := b.toNat_lt
  show b.toNat + 256 * leN l < 256 ^ (l.length + 1)
  rw [Nat.pow_succ]
  omega
def kEntry (a : Int) : Bool := decide (1 ≤ a ∧ a ≤ 4)
def kKind (a : Int) : Bool := decide (a = 1 ∨ a = 3 ∨ a = 4)
def kMove (a : Int) : Bool := decide (a = 4)
def kSized (a : Int) : Bool := decide (a = 5 ∨ a = 6)
def kData (a : Int) : Bool := decide (a = 6)
structure Rd where
 bad : Bool
 s : List UInt8
def cutR (n : Nat) (d : Rd) : List UInt8 × Rd := if d.bad = true ∨ d.s.length < n then (List.replicate n 0, ⟨true, d.s⟩) else (d.s.take n, ⟨false, d.s.drop n⟩)
def numR (n : Nat) (d : Rd) : Nat × Rd := (leN (cutR n d).1, (cutR n d).2)
def wordR (d : Rd) : List UInt8 × Rd := cutR (numR 1 d).1 (numR 1 d).2
def optN (c : Bool) (n : Nat) (d : Rd) : Nat × Rd := if c = true then numR n d else (0, d)
def optW (c : Bool) (d : Rd) : List UInt8 × Rd := if c = true then wordR d else ([], d)
def optC (c : Bool) (n : Nat) (d : Rd) : List UInt8 × Rd := if c = true then cutR n d else ([], d)
def onB (c : Bool) (l : List UInt8) : List UInt8 := if c = true then l else []
theorem cut_on (l s : List UInt8) : cutR l.length ⟨false, l ++ s⟩ = (l, ⟨false, s⟩) := by
 unfold cutR
 rw [if_neg (by simp)]
 simp
theorem num_on (n v : Nat) (h : v < 256 ^ n) (s : List UInt8) : numR n ⟨false, leB v n ++ s⟩ = (v, ⟨false, s⟩) := by
 have h1 := cut_on (leB v n) s
 rw [leB_len] at h1
 unfold numR
 rw [h1, leN_leB n v h]
theorem word_on (l s : List UInt8) (h : l.length < 256) : wordR ⟨false, leB l.length 1 ++ l ++ s⟩ = (l, ⟨false, s⟩) := by
 unfold wordR
 rw [List.append_assoc, num_on 1 l.length (by omega), cut_on]
theorem optN_on (c : Bool) (n v : Nat) (h : v < 256 ^ n) (h0 : c = false → v = 0) (s : List UInt8) : optN c n ⟨false, onB c (leB v n) ++ s⟩ = (v, ⟨false, s⟩) := by
 unfold optN onB
 cases c
 · simp [h0 rfl]
 · simpa using num_on n v h s
theorem optW_on (c : Bool) (l : List UInt8) (h : l.length < 256) (h0 : c = false → l = []) (s : List UInt8) : optW c ⟨false, onB c (leB l.length 1 ++ l) ++ s⟩ = (l, ⟨false, s⟩) := by
 unfold optW onB
 cases c
 · simp [h0 rfl]
 · simpa using word_on l s h
theorem optC_on (c : Bool) (n : Nat) (l : List UInt8) (h : c = true → l.length = n) (h0 : c = false → l = []) (s : List UInt8) : optC c n ⟨false, onB c l ++ s⟩ = (l, ⟨false, s⟩) := by
 unfold optC onB
 cases c
 · simp [h0 rfl]
 · rw [← h rfl]; simpa using cut_on l s
def R.bytes (r : R) : List UInt8 :=
 leB r.stamp.toNat 8 ++ (leB r.act.toNat 1 ++ (onB (kEntry r.act) (leB r.dir.toNat 4) ++ (onB (kEntry r.act) (leB r.name.data.toList.length 1 ++ r.name.data.toList) ++ (leB r.ino.toNat 4 ++ (onB (kKind r.act) (leB r.kind.toNat 1)
  ++ (onB (kMove r.act) (leB r.dir2.toNat 4) ++ (onB (kMove r.act) (leB r.name2.data.toList.length 1 ++ r.name2.data.toList) ++ (onB (kMove r.act) (leB r.old.toNat 4) ++ (onB (kSized r.act) (leB r.size.toNat 4) ++ (onB (kData r.act) (leB r.page.toNat 1) ++ onB (kData r.act) r.data.data.toList))))))))))
def getR (s : List UInt8) : R × Rd :=
 let p0 := numR 8 ⟨false, s⟩
 let p1 := numR 1 p0.2
 let a : Int := (p1.1 : Int)
 let p2 := optN (kEntry a) 4 p1.2
 let p3 := optW (kEntry a) p2.2
 let p4 := numR 4 p3.2
 let p5 := optN (kKind a) 1 p4.2
 let p6 := optN (kMove a) 4 p5.2
 let p7 := optW (kMove a) p6.2
 let p8 := optN (kMove a) 4 p7.2
 let p9 := optN (kSized a) 4 p8.2
 let pA := optN (kData a) 1 p9.2
 let pB := optC (kData a) 64 pA.2
 (⟨(p0.1 : Int), a, (p2.1 : Int), ⟨p3.1.toArray⟩, (p4.1 : Int), (p5.1 : Int), (p6.1 : Int), ⟨p7.1.toArray⟩, (p8.1 : Int), (p9.1 : Int), (pA.1 : Int), ⟨pB.1.toArray⟩⟩, pB.2)
structure R.Bare (r : R) : Prop where
 ok : r.Ok
 dir : kEntry r.act = false → r.dir = 0
 name : kEntry r.act = false → r.name.data.toList = []
 name_ : r.name.data.toList.length < 256
 kind : kKind r.act = false → r.kind = 0
 dir2 : kMove r.act = false → r.dir2 = 0
 name2 : kMove r.act = false → r.name2.data.toList = []
 name2_ : r.name2.data.toList.length < 256
 old : kMove r.act = false → r.old = 0
 size : kSized r.act = false → r.size = 0
 page : kData r.act = false → r.page = 0
 page_ : 0 ≤ r.page ∧ r.page < 256
 data : kData r.act = false → r.data.data.toList = []
 data_ : kData r.act = true → r.data.data.toList.length = 64
theorem ofNat_toNat {x : Int} (h : 0 ≤ x) : ((x.toNat : Nat) : Int) = x := Int.toNat_of_nonneg h
theorem get_put {r : R} (h : r.Bare) (s : List UInt8) : getR (r.bytes ++ s) = (r, ⟨false, s⟩) := by
 have hok := h.ok
 obtain ⟨o1, o2, o3, o4, o5, o6, o7, o8⟩ := hok
 unfold getR R.bytes
 simp only [List.append_assoc]
 have e0 := num_on 8 r.stamp.toNat (by omega)
 simp only [e0]
 have e1 := num_on 1 r.act.toNat (by omega)
 simp only [e1, ofNat_toNat o2.1]
 have e2 := optN_on (kEntry r.act) 4 r.dir.toNat (by omega) (fun c => by rw [h.dir c]; rfl)
 simp only [e2]
 have e3 := optW_on (kEntry r.act) r.name.data.toList h.name_ h.name
 simp only [e3]
 have e4 := num_on 4 r.ino.toNat (by omega)
 simp only [e4]
 have e5 := optN_on (kKind r.act) 1 r.kind.toNat (by omega) (fun c => by rw [h.kind c]; rfl)
 simp only [e5]
 have e6 := optN_on (kMove r.act) 4 r.dir2.toNat (by omega) (fun c => by rw [h.dir2 c]; rfl)
 simp only [e6]
 have e7 := optW_on (kMove r.act) r.name2.data.toList h.name2_ h.name2
 simp only [e7]
 have e8 := optN_on (kMove r.act) 4 r.old.toNat (by omega) (fun c => by rw [h.old c]; rfl)
 simp only [e8]
 have e9 := optN_on (kSized r.act) 4 r.size.toNat (by omega) (fun c => by rw [h.size c]; rfl)
 simp only [e9]
 have eA := optN_on (kData r.act) 1 r.page.toNat (by have := h.page_; omega) (fun c => by rw [h.page c]; rfl)
 simp only [eA]
 have eB := optC_on (kData r.act) 64 r.data.data.toList h.data_ h.data
 simp only [eB]
 simp only [ofNat_toNat o1.1, ofNat_toNat o3.1, ofNat_toNat o4.1, ofNat_toNat o5.1, ofNat_toNat o6.1, ofNat_toNat o7.1, ofNat_toNat o8.1, ofNat_toNat h.page_.1]
def R.val (r : R) : Value := .agg #[.int .u64 r.stamp, .int .u8 r.act, .int .u32 r.dir, .string r.name, .int .u32 r.ino, .int .u8 r.kind, .int .u32 r.dir2, .string r.name2, .int .u32 r.old, .int .u32 r.size, .int .i64 r.page, .string r.data]
def inoB (i : Int) : Bool := decide (1 ≤ i ∧ i ≤ 256)
def fitB (c a b : Bool) : Bool := c && a || !c && b
def checkB (r : R) : Bool :=
 decide (1 ≤ r.act ∧ r.act ≤ 7) && inoB r.ino && fitB (kEntry r.act) (inoB r.dir && pnameB r.name) (r.dir == 0 && r.name.size == 0) && fitB (kKind r.act) (r.kind == 1 || r.kind == 2) (r.kind == 0)
  && fitB (kMove r.act) (inoB r.dir2 && pnameB r.name2 && decide (r.old ≤ 256)) (r.dir2 == 0 && r.name2.size == 0 && r.old == 0) && fitB (kSized r.act) (decide (r.size ≤ 2304)) (r.size == 0)
  && fitB (kData r.act) (decide (0 ≤ r.page ∧ r.page < 36) && r.data.size == 64) (r.page == 0 && r.data.size == 0)
def checkE (r : R) : Int := if checkB r = true then 0 else 2
end

section
open Go.RowKit Go.Maps
abbrev kind1 : Value := .agg #[.string ⟨#[109, 97, 107, 101]⟩, .bool true, .bool true, .bool false, .bool false, .bool false, .func (.func 125) #[] #[]]
abbrev kind2 : Value := .agg #[.string ⟨#[108, 105, 110, 107]⟩, .bool true, .bool false, .bool false, .bool false, .bool false, .func (.func 126) #[] #[]]
abbrev kind3 : Value := .agg #[.string ⟨#[117, 110, 108, 105, 110, 107]⟩, .bool true, .bool true, .bool false, .bool false, .bool false, .func (.func 127) #[] #[]]
abbrev kind4 : Value := .agg #[.string ⟨#[114, 101, 110, 97, 109, 101]⟩, .bool true, .bool true, .bool true, .bool false, .bool false, .func (.func 128) #[] #[]]
abbrev kind5 : Value := .agg #[.string ⟨#[115, 105, 122, 101]⟩, .bool false, .bool false, .bool false, .bool true, .bool false, .func (.func 129) #[] #[]]
abbrev kind6 : Value := .agg #[.string ⟨#[112, 97, 103, 101]⟩, .bool false, .bool false, .bool false, .bool true, .bool true, .func (.func 130) #[] #[]]
abbrev kind7 : Value := .agg #[.string ⟨#[102, 114, 101, 101]⟩, .bool false, .bool false, .bool false, .bool false, .bool false, .func (.func 131) #[] #[]]
abbrev kind0 : Value := .agg #[.string ⟨#[]⟩, .bool false, .bool false, .bool false, .bool false, .bool false, .nilFunc]
def kindO (a : Int) : Option Value := if a = 7 then some kind7 else if a = 6 then some kind6 else if a = 5 then some kind5 else if a = 4 then some kind4 else if a = 3 then some kind3 else if a = 2 then some kind2 else if a = 1 then some kind1 else none
def kindsM : Lit → Option Value
 | .int .u8 a => kindO a
 | _ => none
theorem pkey8 {i : Int} (h : 0 ≤ i ∧ i ≤ 255) : keyOf Tryz.prog 5 (.int .u8 i) = some (.int .u8 i) :=
 keyOf_int_mk Tryz.underlying5 (by simp [Lit.wf, IntKind.min, IntKind.max, IntKind.signed, IntKind.bits]; omega)
theorem law8 : Keyed Tryz.prog 5 := int_keyed Tryz.underlying5
set_option maxRecDepth 100000 in
theorem t_rkinds (w : World) : Calls Tryz.prog 68 #[] w fun e w' => ∃ b, e = .returned (.map (some b)) ∧ MapAt w' Tryz.prog 5 b 7 kindsM ∧ Below w.heap.size w w' ∧ w.heap.size ≤ b := by
 have hmm := @run_makeMap Tryz.prog
 have m0 := MapAt.made w Tryz.prog 5
 obtain ⟨w1, r1, m1, t1⟩ := m0.update law8 Tryz.underlying119 (by unfold maxLen; omega) (val := kind1) (pkey8 (i := 1) (by omega))
 obtain ⟨w2, r2, m2, t2⟩ := m1.update law8 Tryz.underlying119 (by unfold maxLen; omega) (val := kind2) (pkey8 (i := 2) (by omega))
 obtain ⟨w3, r3, m3, t3⟩ := m2.update law8 Tryz.underlying119 (by unfold maxLen; omega) (val := kind3) (pkey8 (i := 3) (by omega))
 obtain ⟨w4, r4, m4, t4⟩ := m3.update law8 Tryz.underlying119 (by unfold maxLen; omega) (val := kind4) (pkey8 (i := 4) (by omega))
 obtain ⟨w5, r5, m5, t5⟩ := m4.update law8 Tryz.underlying119 (by unfold maxLen; omega) (val := kind5) (pkey8 (i := 5) (by omega))
 obtain ⟨w6, r6, m6, t6⟩ := m5.update law8 Tryz.underlying119 (by unfold maxLen; omega) (val := kind6) (pkey8 (i := 6) (by omega))
 obtain ⟨w7, r7, m7, t7⟩ := m6.update law8 Tryz.underlying119 (by unfold maxLen; omega) (val := kind7) (pkey8 (i := 7) (by omega))
 have HM : Hid (MapAt w7 Tryz.prog 5 w.heap.size 7 kindsM) := m7.congr fun kl _ => by
  cases kl with
  | int q a =>
   cases q <;> try (unfold updM; simp [kindsM, Lit.sameKey]; done)
   show updM _ _ _ _ = kindO a
   unfold updM kindO
   by_cases h7 : a = 7
   · simp [h7, Lit.sameKey]
   by_cases h6 : a = 6
   · simp [h6, Lit.sameKey]
   by_cases h5 : a = 5
   · simp [h5, Lit.sameKey]
   by_cases h4 : a = 4
   · simp [h4, Lit.sameKey]
   by_cases h3 : a = 3
   · simp [h3, Lit.sameKey]
   by_cases h2 : a = 2
   · simp [h2, Lit.sameKey]
   by_cases h1 : a = 1
   · simp [h1, Lit.sameKey]
   simp [h1, h2, h3, h4, h5, h6, h7, Lit.sameKey]
  | _ => unfold updM; simp [kindsM, Lit.sameKey]
 have HB : Hid (Below w.heap.size w w7) := by
  have hg := ((((((t1.grown.trans t2.grown).trans t3.grown).trans t4.grown).trans t5.grown).trans t6.grown).trans t7.grown)
  have ha : Below w.heap.size w (w.alloc (.map #[] 0)) := (Below.refl _ _).alloc (Nat.le_refl _) _
  refine ⟨hg.os.trans ha.os, hg.tape.trans ha.tape, hg.output.trans ha.output, Nat.le_trans ha.size hg.size, fun b hb => (hg.block b (Nat.lt_of_lt_of_le hb ha.size) fun e => ?_).trans (ha.block b hb)⟩
  injection e with e
  omega
 clear m0 m1 m2 m3 m4 m5 m6 m7 t1 t2 t3 t4 t5 t6 t7
 go_enter Tryz.func68, Tryz.ntmps68
 go_wp2
 go_ret
 exact ⟨_, rfl, HM.out, HB.out, Nat.le_refl _⟩
end
end Go.Proofs.YtogljgiefmfafaaGreat
