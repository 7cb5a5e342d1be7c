/- A drawn region in which each operation, be it guarded, be it a store, is met once: what it yields, and what stays. -/
import Derived.Test.YtpcnolkdnmolgaaGreatDoorPh02
namespace Go.Proofs.YtpcnolkdnmolgaaGreatDoor
section
open Go.RowKit Go.Maps
variable {Q : Exit → Act → World → Prop}
def ptrOf : Op → Option Tmp
 | .store _ (.tmp p) _ => some p
 | _ => none
def keyOf' (o : Oper) : Option Tmp := match o.dst with | some d => some d | none => ptrOf o.op
def valOf (a : Act) (o : Oper) : Value := match keyOf' o with | some d => slot a d | none => undef
def storesOk (ops : Array Oper) : Bool :=
 (List.range ops.size).all fun i => match ops[i]? with
  | none => true
  | some o => match o.dst with
   | some _ => true
   | none => match ptrOf o.op with
    | none => true
    | some p => o.after.toList.any fun e => Region.binds .any e && match ops[e.on]? with | some oe => oe.dst == some p | none => false
theorem storesOk_spec {ops : Array Oper} (h : storesOk ops = true) {i : Nat} {o : Oper} {p : Tmp} (hi : ops[i]? = some o) (hd : o.dst = none) (hp : ptrOf o.op = some p) :
  ∃ e ∈ o.after, Region.binds .any e = true ∧ ∃ oe, ops[e.on]? = some oe ∧ oe.dst = some p := by
 unfold storesOk at h
 rw [List.all_eq_true] at h
 have h1 := h i (List.mem_range.2 (Array.getElem?_eq_some_iff.1 hi).1)
 simp only [hi, hd, hp, List.any_eq_true, Bool.and_eq_true] at h1
 obtain ⟨e, he, hb, h2⟩ := h1
 refine ⟨e, by simpa using he, hb, ?_⟩
 cases ho : ops[e.on]? with
 | none => rw [ho] at h2; cases h2
 | some oe => rw [ho] at h2; exact ⟨oe, rfl, by simpa using h2⟩
def OpDoesR (ops : Array Oper) (a0 : Act) (w0 : World) (Rel : World → World → Prop) (Φ : Nat → Value → World → Prop) (Q : Exit → Act → World → Prop) (i : Nat) (o : Oper) : Prop :=
 ∀ a W, Rel w0 W → (∀ k, (ops.toList.all fun o => o.dst != some k) = true → slot a k = slot a0 k) →
  (∀ e ∈ o.after, Region.binds .any e = true → ∀ oe, ops[e.on]? = some oe → Φ e.on (valOf a oe) W) →
  ∀ K : Act → World → Prop, (∀ v W', Rel W W' → Φ i (match o.dst with | some _ => v | none => valOf a o) W' → K (a.put o.dst v) W') →
   if Region.wanted o (yielded ops a.tmps) = true then o.wp Tryz.prog a W K Q else K (a.put o.dst undef) W
theorem wp_region_rel {ops : Array Oper} {id : Nat} {a0 : Act} {w0 : World} (Rel : World → World → Prop) (Φ : Nat → Value → World → Prop)
  (hm : Tryz.prog.follows .mixedOrders = true) (hok : regionOk ops a0.tmps.size = true) (hst : storesOk ops = true)
  (hdrew : Rel w0 w0.drew) (htrans : ∀ W W' W'', Rel W W' → Rel W' W'' → Rel W W'')
  (hmono : ∀ i v W W', Φ i v W → Rel W W' → Φ i v W')
  (hops : AllOps (OpDoesR ops a0 w0 Rel Φ Q) 0 ops.toList)
  (hend : ∀ (vs : Nat → Value) W, Rel w0 W → (∀ i o, ops[i]? = some o → o.dst.isSome = true → Φ i (vs i) W) → (∀ i o p j oj, ops[i]? = some o → o.dst = none → ptrOf o.op = some p → ops[j]? = some oj → oj.dst = some p → Φ i (vs j) W) → Q .normal (putAll ops.toList 0 vs a0) W) :
  (Code.region id ops true).wp Tryz.prog Q a0 w0 := by
 let Inv : Array Bool → Act → World → Prop := fun listed a W => Rel w0 W ∧ a.defers = a0.defers ∧ a.tmps.size = a0.tmps.size ∧
  (∀ k, (∀ j o, ops[j]? = some o → o.dst = some k → listed.getD j false = false) → slot a k = slot a0 k) ∧
  (∀ i o, ops[i]? = some o → listed.getD i false = true → Φ i (valOf a o) W) ∧ listed.size = ops.size ∧
  (∀ i o, ops[i]? = some o → listed.getD i false = true → ∀ e ∈ o.after, Region.binds .any e = true → listed.getD e.on false = true)
 have getD_set : ∀ (listed : Array Bool) (i j : Nat), i < listed.size → (listed.setIfInBounds i true).getD j false = if j = i then true else listed.getD j false := fun listed i j hi => by
  by_cases hji : j = i
  · subst hji; simp [Array.getD, hi]
  · rw [if_neg hji, Array.getD_eq_getD_getElem?, Array.getD_eq_getD_getElem?, Array.getElem?_setIfInBounds_ne (fun e => hji e.symm)]
 have main : ∀ (fuel : Nat) (listed : Array Bool) (a : Act) (W : World), unlisted listed ≤ fuel → Inv listed a W → wpAny Tryz.prog .any ops Q fuel listed a W := by
  have done : ∀ (listed : Array Bool) (a : Act) (W : World), Inv listed a W → Region.ready .any ops listed = [] → Q .normal a W := by
   intro listed a W ⟨hB, hdf, hsz, hoth, hphi, hls, _⟩ hr
   have all : ∀ i, i < ops.size → listed.getD i false = true := by
    intro i
    induction i using Nat.strongRecOn with
    | _ i ih =>
     intro hi
     cases hl : listed.getD i false with
     | true => rfl
     | false =>
      exfalso
      have : i ∈ Region.ready .any ops listed := mem_ready.2 ⟨by rw [← hl]; simp [Array.getD, hls, hi], ops[i], Array.getElem?_eq_getElem hi, fun e he hbd => by
       have := (regionOk_spec hok (Array.getElem?_eq_getElem hi)).1 e he hbd
       exact ih e.on this (by omega)⟩
      rw [hr] at this
      cases this
   let vs : Nat → Value := fun i => match ops[i]?.bind (·.dst) with | some d => slot a d | none => undef
   have hq := hend vs W hB (fun i o ho hsm => by
    have := hphi i o ho (all i (Array.getElem?_eq_some_iff.1 ho).1)
    unfold valOf keyOf' at this
    cases hd : o.dst with
    | none => rw [hd] at hsm; cases hsm
    | some d => rw [hd] at this; simpa [vs, ho, hd] using this) (fun i o p j oj ho hd hp hj hjd => by
    have := hphi i o ho (all i (Array.getElem?_eq_some_iff.1 ho).1)
    unfold valOf keyOf' at this
    rw [hd] at this
    simp only [hp] at this
    simpa [vs, hj, hjd] using this)
   have he : putAll ops.toList 0 vs a0 = a := by
    obtain ⟨p1, p2⟩ := putAll_size ops.toList 0 vs a0
    refine act_ext (p1.trans hsz.symm) (p2.trans hdf.symm) fun k => ?_
    by_cases hk : ∃ j : Nat, ∃ o, ops[j]? = some o ∧ o.dst = some k
    · obtain ⟨j, o, hj, hd⟩ := hk
      obtain ⟨_, hin, huniq⟩ := regionOk_spec hok hj
      rw [putAll_dst ops.toList 0 vs a0 j o k (by simpa using hj) hd (hin k hd) (fun j' o' h1 h2 => (huniq j' o' k (by simpa using h1) hd h2).symm)]
      simp [vs, hj, hd]
    · rw [putAll_other _ _ _ _ _ (fun o ho e => by
       obtain ⟨j, hj, rfl⟩ := List.getElem_of_mem ho
       exact hk ⟨j, ops.toList[j], by simp, e⟩)]
      exact (hoth k (fun j o hj hd => absurd ⟨j, o, hj, hd⟩ hk)).symm
   rw [← he]; exact hq
  have step : ∀ (listed : Array Bool) (a : Act) (W : World), Inv listed a W → ∀ i ∈ Region.ready .any ops listed, ∀ K : Act → World → Prop, (∀ a' W', Inv (listed.setIfInBounds i true) a' W' → K a' W') → wpOp Tryz.prog ops Q i K a W := by
   intro listed a W ⟨hB, hdf, hsz, hoth, hphi, hls, haf⟩ i hi K hK
   obtain ⟨hun, o, ho, haft⟩ := mem_ready.1 hi
   have hil : i < ops.size := (Array.getElem?_eq_some_iff.1 ho).1
   have hdo := hops.get (k := i) (o := o) (by simpa using ho)
   obtain ⟨hback, hin, huniq⟩ := regionOk_spec hok ho
   unfold wpOp
   rw [ho]
   have hun' : listed.getD i false = false := by
    cases hh : listed.getD i false with
    | false => rfl
    | true => simp [Array.getD, hls, hil] at hun hh; rw [hun] at hh; cases hh
   have key := hdo a W hB (fun k hk => ?_) (fun e he hb oe hoe => hphi e.on oe hoe (haft e he hb)) K (fun v W' hbW hv => hK _ _ ⟨htrans _ _ _ hB hbW, (defers_put _ _ _).trans hdf, (size_put _ _ _).trans hsz, fun k hk => ?_, fun j oj hj hlj => ?_, by simpa using hls, fun j oj hj hlj e he hb => ?_⟩)
   · show if Region.wanted o (yielded ops a.tmps) = true then _ else _
     split
     · rename_i hw
       rw [if_pos hw] at key
       exact .inl key
     · rename_i hw
       rw [if_neg hw] at key
       exact key
   · rw [List.all_eq_true] at hk
     exact hoth k (fun j oj hj hd => by
      have := hk oj (List.mem_of_getElem? (i := j) (by simpa using hj))
      rw [hd] at this; simp at this)
   · have hne : ¬ o.dst = some k := fun e => by
      have := hk i o ho e
      rw [getD_set listed i i (by omega), if_pos rfl] at this
      cases this
     rw [slot_put, if_neg (fun hh => hne hh.1)]
     refine hoth k (fun j oj hj hd => ?_)
     have := hk j oj hj hd
     rw [getD_set listed i j (by omega)] at this
     by_cases hji : j = i
     · subst hji; rw [ho] at hj; cases hj; exact absurd hd hne
     · rwa [if_neg hji] at this
   · rw [getD_set listed i j (by omega)] at hlj
     by_cases hji : j = i
     · subst hji
       rw [ho] at hj; cases hj
       rw [show 0 + j = j by omega] at hv
       unfold valOf keyOf' at hv ⊢
       cases hd : o.dst with
       | none =>
        rw [hd] at hv
        simp only at hv ⊢
        cases hp : ptrOf o.op with
        | none => rw [hp] at hv; exact hv
        | some p =>
         rw [hp] at hv
         simp only at hv ⊢
         rw [slot_put, if_neg (fun hh => by cases hh.1)]
         exact hv
       | some d =>
        rw [hd] at hv
        simp only at hv ⊢
        rw [slot_put, if_pos ⟨rfl, by rw [hsz]; exact hin d hd⟩]
        exact hv
     · rw [if_neg hji] at hlj
       have h1 := hmono j _ W W' (hphi j oj hj hlj) hbW
       unfold valOf keyOf' at h1 ⊢
       cases hd : oj.dst with
       | none =>
        rw [hd] at h1
        simp only at h1 ⊢
        cases hp : ptrOf oj.op with
        | none => rw [hp] at h1; exact h1
        | some p =>
         rw [hp] at h1
         simp only at h1 ⊢
         obtain ⟨e, he, hb, oe, hoe, hed⟩ := storesOk_spec hst hj hd hp
         have hle := haf j oj hj hlj e he hb
         have hne : ¬ o.dst = some p := fun e' => by
          have := huniq e.on oe p hoe e' hed
          rw [← this, hun'] at hle
          cases hle
         rw [slot_put, if_neg (fun hh => hne hh.1)]
         exact h1
       | some d =>
        rw [hd] at h1
        simp only at h1 ⊢
        have hne : ¬ o.dst = some d := fun e => hji (huniq j oj d hj e hd).symm
        rw [slot_put, if_neg (fun hh => hne hh.1)]
        exact h1
   · rw [getD_set listed i j (by omega)] at hlj
     rw [getD_set listed i e.on (by omega)]
     split
     · rfl
     · by_cases hji : j = i
       · subst hji
         rw [ho] at hj; cases hj
         exact haft e he hb
       · rw [if_neg hji] at hlj
         exact haf j oj hj hlj e he hb
  intro fuel
  induction fuel with
  | zero =>
   intro listed a W hf hI
   have hr : Region.ready .any ops listed = [] := by
    cases hr : Region.ready .any ops listed with
    | nil => rfl
    | cons i l =>
     exfalso
     have hi : i ∈ Region.ready .any ops listed := by rw [hr]; simp
     have := unlisted_set (mem_ready.1 hi).1
     omega
   exact ⟨hr, done listed a W hI hr⟩
  | succ fuel ih =>
   intro listed a W hf hI
   refine ⟨done listed a W hI, fun i hi => step listed a W hI i hi _ (fun a' W' hI' => ih _ a' W' ?_ hI')⟩
   have := unlisted_set (mem_ready.1 hi).1
   omega
 refine wp_region_any hm (main _ _ _ _ ?_ ?_)
 · unfold unlisted
   rw [Array.toList_replicate, List.countP_replicate]
   split <;> omega
 · refine ⟨hdrew, rfl, rfl, fun _ _ => rfl, fun i o ho hl => ?_, by simp, fun i o ho hl => ?_⟩
   · have hil : i < ops.size := (Array.getElem?_eq_some_iff.1 ho).1
     simp [Array.getD, hil] at hl
   · have hil : i < ops.size := (Array.getElem?_eq_some_iff.1 ho).1
     simp [Array.getD, hil] at hl
section
variable {ops : Array Oper} {a0 : Act} {w0 : World} {Rel : World → World → Prop} {Φ : Nat → Value → World → Prop} {i : Nat} {o : Oper}
def dstV (a : Act) (o : Oper) : Value := match keyOf' o with | some d => a.tmps[d]?.getD undef | none => undef
theorem valOf_dst (a : Act) (o : Oper) : valOf a o = dstV a o := by
 unfold valOf dstV
 cases keyOf' o with
 | none => rfl
 | some d => exact eval_slot a d
theorem opR_any
  (h : ∀ a W, Rel w0 W → (∀ k, (ops.toList.all fun o => o.dst != some k) = true → a.tmps[k]?.getD undef = slot a0 k) →
   (∀ j oe, (o.after.toList.any fun e => e.on == j && Region.binds .any e) = true → ops[j]? = some oe → Φ j (dstV a oe) W) →
   ∀ K : Act → World → Prop, (∀ v W', Rel W W' → Φ i (match o.dst with | some _ => v | none => dstV a o) W' → K (a.put o.dst v) W') →
    if Region.wanted o (yielded ops a.tmps) = true then o.wp Tryz.prog a W K Q else K (a.put o.dst undef) W) : OpDoesR ops a0 w0 Rel Φ Q i o := by
 intro a W h1 h2 h3 K hK
 refine h a W h1 (fun k hk => (eval_slot a k).symm.trans (h2 k hk)) (fun j oe hj ho => ?_) K (fun v W' hr hp => hK v W' hr (by rw [valOf_dst]; exact hp))
 rw [List.any_eq_true] at hj
 obtain ⟨e, he, hb⟩ := hj
 simp only [Bool.and_eq_true, beq_iff_eq] at hb
 obtain ⟨rfl, hb⟩ := hb
 rw [← valOf_dst]
 exact h3 e (by simpa using he) hb oe ho
theorem opR_mk (hg : o.guard = none)
  (h : ∀ a W, Rel w0 W → (∀ k, (ops.toList.all fun o => o.dst != some k) = true → a.tmps[k]?.getD undef = slot a0 k) →
   (∀ j oe, (o.after.toList.any fun e => e.on == j && Region.binds .any e) = true → ops[j]? = some oe → Φ j (dstV a oe) W) →
   ∀ K : Act → World → Prop, (∀ v W', Rel W W' → Φ i (match o.dst with | some _ => v | none => dstV a o) W' → K (a.put o.dst v) W') → o.wp Tryz.prog a W K Q) : OpDoesR ops a0 w0 Rel Φ Q i o := by
 refine opR_any fun a W h1 h2 h3 K hK => ?_
 rw [if_pos (by simp [Region.wanted, hg])]
 exact h a W h1 h2 h3 K hK
theorem opR_guard {j d : Nat} {want c : Bool} {oj : Oper} (hod : o.dst.isSome = true) (hg : o.guard = some (j, want)) (haft : (o.after.toList.any fun e => e.on == j && Region.binds .any e) = true) (hj : ops[j]? = some oj) (hjd : oj.dst = some d)
  (hc : ∀ v W, Φ j v W → v = .bool c) (hrefl : ∀ W, Rel W W) (hskip : c ≠ want → ∀ W, Φ i undef W)
  (h : c = want → ∀ a W, Rel w0 W → (∀ k, (ops.toList.all fun o => o.dst != some k) = true → a.tmps[k]?.getD undef = slot a0 k) →
   (∀ j oe, (o.after.toList.any fun e => e.on == j && Region.binds .any e) = true → ops[j]? = some oe → Φ j (dstV a oe) W) →
   ∀ K : Act → World → Prop, (∀ v W', Rel W W' → Φ i (match o.dst with | some _ => v | none => dstV a o) W' → K (a.put o.dst v) W') → o.wp Tryz.prog a W K Q) : OpDoesR ops a0 w0 Rel Φ Q i o := by
 refine opR_any fun a W h1 h2 h3 K hK => ?_
 have hv := hc _ _ (h3 j oj haft hj)
 have hy : yielded ops a.tmps j = some c := by
  unfold dstV keyOf' at hv
  rw [hjd] at hv
  simp only at hv
  unfold yielded
  rw [hj]
  simp only [Option.bind_some, hjd]
  cases ht : a.tmps[d]? with
  | none => rw [ht] at hv; cases hv
  | some x => rw [ht] at hv; simp only [Option.getD_some] at hv; rw [hv]
 by_cases hcw : c = want
 · rw [if_pos (by simp [Region.wanted, hg, hy, hcw])]
   exact h hcw a W h1 h2 h3 K hK
 · rw [if_neg (by simp [Region.wanted, hg, hy, hcw])]
   refine hK undef W (hrefl W) ?_
   cases hd : o.dst with
   | some d => exact hskip hcw W
   | none => rw [hd] at hod; cases hod
end
end

section
open Go.RowKit Go.Maps
variable {Q : Exit → Act → World → Prop}
def stepOf (ks : List Nat) (i : Nat) : Option Nat := ks.idxOf? i
theorem stepOf_some {ks : List Nat} {i m : Nat} (h : stepOf ks i = some m) : ks[m]? = some i := by
 unfold stepOf at h
 rw [List.idxOf?_eq_some_iff] at h
 obtain ⟨h1, h2, _⟩ := h
 rw [List.getElem?_eq_getElem h1]
 rw [h2]
theorem stepOf_none {ks : List Nat} {i : Nat} (h : stepOf ks i = none) : ∀ m : Nat, ks[m]? ≠ some i := fun m hm => by
 unfold stepOf at h
 rw [List.idxOf?_eq_none_iff] at h
 exact h (List.mem_of_getElem? hm)
def chainOk (ops : Array Oper) (ks : List Nat) : Bool :=
 decide ks.Nodup && (List.range ks.length).all fun m => match ks[m]?, ks[m + 1]? with
  | some k, some k' => (match ops[k']? with | some o => o.after.toList.any fun e => e.on == k && Region.binds .any e | none => false)
  | _, _ => true
theorem chainOk_spec {ops : Array Oper} {ks : List Nat} (h : chainOk ops ks = true) : ks.Nodup ∧ ∀ (m k k' : Nat) (o : Oper), ks[m]? = some k → ks[m + 1]? = some k' → ops[k']? = some o → ∃ e ∈ o.after, e.on = k ∧ Region.binds .any e = true := by
 unfold chainOk at h
 rw [Bool.and_eq_true, List.all_eq_true] at h
 refine ⟨by simpa using h.1, fun m k k' o h1 h2 h3 => ?_⟩
 have := h.2 m (List.mem_range.2 (List.getElem?_eq_some_iff.1 h1).1)
 simp only [h1, h2, h3, List.any_eq_true, Bool.and_eq_true, beq_iff_eq] at this
 obtain ⟨e, he, h4, h5⟩ := this
 exact ⟨e, by simpa using he, h4, h5⟩
def storesOk2 (ops : Array Oper) : Bool :=
 (List.range ops.size).all fun i => match ops[i]? with
  | none => true
  | some o => match o.dst with
   | some _ => true
   | none => match ptrOf o.op with
    | none => true
    | some p => (o.after.toList.any fun e => Region.binds .any e && match ops[e.on]? with | some oe => oe.dst == some p | none => false) || ops.toList.all fun oo => oo.dst != some p
theorem storesOk2_spec {ops : Array Oper} (h : storesOk2 ops = true) {i : Nat} {o : Oper} {p : Tmp} (hi : ops[i]? = some o) (hd : o.dst = none) (hp : ptrOf o.op = some p) :
  (∃ e ∈ o.after, Region.binds .any e = true ∧ ∃ oe, ops[e.on]? = some oe ∧ oe.dst = some p) ∨ ∀ (k : Nat) (oo : Oper), ops[k]? = some oo → oo.dst ≠ some p := by
 unfold storesOk2 at h
 rw [List.all_eq_true] at h
 have h1 := h i (List.mem_range.2 (Array.getElem?_eq_some_iff.1 hi).1)
 simp only [hi, hd, hp, Bool.or_eq_true] at h1
 rcases h1 with h1 | h1
 · left
   simp only [List.any_eq_true, Bool.and_eq_true] at h1
   obtain ⟨e, he, hb, h2⟩ := h1
   refine ⟨e, by simpa using he, hb, ?_⟩
   cases ho : ops[e.on]? with
   | none => rw [ho] at h2; cases h2
   | some oe => rw [ho] at h2; exact ⟨oe, rfl, by simpa using h2⟩
 · right
   intro k oo hk e
   rw [List.all_eq_true] at h1
   have := h1 oo (List.mem_of_getElem? (i := k) (by simpa using hk))
   rw [e] at this
   simp at this
def OpDoesS (ops : Array Oper) (a0 : Act) (J : Nat → World → Prop) (RelS RelW : World → World → Prop) (ks : List Nat) (Φ : Nat → Value → World → Prop) (Q : Exit → Act → World → Prop) (i : Nat) (o : Oper) : Prop :=
 ∀ a W n, J n W → n ≤ ks.length → (∀ m, stepOf ks i = some m → n = m) → (∀ m k ok, ks[m]? = some k → ops[k]? = some ok → (ok.after.toList.any fun e => e.on == i && Region.binds .any e) = true → n ≤ m) → (∀ k, (ops.toList.all fun o => o.dst != some k || (o.after.toList.any fun e => e.on == i && Region.binds .any e)) = true → slot a k = slot a0 k) →
  (∀ e ∈ o.after, Region.binds .any e = true → ∀ oe, ops[e.on]? = some oe → Φ e.on (valOf a oe) W) →
  ∀ K : Act → World → Prop, (∀ v W', (match stepOf ks i with | some m => RelW W W' ∧ J (m + 1) W' | none => RelS W W') → Φ i (match o.dst with | some _ => v | none => valOf a o) W' → K (a.put o.dst v) W') →
   if Region.wanted o (yielded ops a.tmps) = true then o.wp Tryz.prog a W K Q else K (a.put o.dst undef) W
theorem wp_region_st {ops : Array Oper} {id : Nat} {a0 : Act} {w0 : World} (J : Nat → World → Prop) (RelS RelW : World → World → Prop) (ks : List Nat) (Φ : Nat → Value → World → Prop)
  (hm : Tryz.prog.follows .mixedOrders = true) (hok : regionOk ops a0.tmps.size = true) (hst : storesOk2 ops = true) (hks0 : (ks.all fun k => decide (k < ops.size)) = true)
  (hch : chainOk ops ks = true) (hdrew : J 0 w0.drew) (hst1 : ∀ n W W', J n W → RelS W W' → J n W') (hsw : ∀ W W', RelS W W' → RelW W W')
  (hmono : ∀ i v W W', Φ i v W → RelW W W' → Φ i v W')
  (hops : AllOps (OpDoesS ops a0 J RelS RelW ks Φ Q) 0 ops.toList)
  (hend : ∀ (vs : Nat → Value) W, J ks.length W → (∀ i o, ops[i]? = some o → o.dst.isSome = true → Φ i (vs i) W) → (∀ i o p j oj, ops[i]? = some o → o.dst = none → ptrOf o.op = some p → ops[j]? = some oj → oj.dst = some p → Φ i (vs j) W) → Q .normal (putAll ops.toList 0 vs a0) W) :
  (Code.region id ops true).wp Tryz.prog Q a0 w0 := by
 let Inv : Array Bool → Act → World → Prop := fun listed a W => (∃ n, J n W ∧ n ≤ ks.length ∧ ∀ m k : Nat, ks[m]? = some k → listed.getD k false = decide (m < n)) ∧ a.defers = a0.defers ∧ a.tmps.size = a0.tmps.size ∧
  (∀ k, (∀ j o, ops[j]? = some o → o.dst = some k → listed.getD j false = false) → slot a k = slot a0 k) ∧
  (∀ i o, ops[i]? = some o → listed.getD i false = true → Φ i (valOf a o) W) ∧ listed.size = ops.size ∧
  (∀ i o, ops[i]? = some o → listed.getD i false = true → ∀ e ∈ o.after, Region.binds .any e = true → listed.getD e.on false = true)
 obtain ⟨hnd, hchn⟩ := chainOk_spec hch
 have hks : ∀ m k : Nat, ks[m]? = some k → k < ops.size := fun m k h => by
  rw [List.all_eq_true] at hks0
  simpa using hks0 k (List.mem_of_getElem? h)
 have getD_set : ∀ (listed : Array Bool) (i j : Nat), i < listed.size → (listed.setIfInBounds i true).getD j false = if j = i then true else listed.getD j false := fun listed i j hi => by
  by_cases hji : j = i
  · subst hji; simp [Array.getD, hi]
  · rw [if_neg hji, Array.getD_eq_getD_getElem?, Array.getD_eq_getD_getElem?, Array.getElem?_setIfInBounds_ne (fun e => hji e.symm)]
 have main : ∀ (fuel : Nat) (listed : Array Bool) (a : Act) (W : World), unlisted listed ≤ fuel → Inv listed a W → wpAny Tryz.prog .any ops Q fuel listed a W := by
  have done : ∀ (listed : Array Bool) (a : Act) (W : World), Inv listed a W → Region.ready .any ops listed = [] → Q .normal a W := by
   intro listed a W ⟨hB, hdf, hsz, hoth, hphi, hls, _⟩ hr
   have all : ∀ i, i < ops.size → listed.getD i false = true := by
    intro i
    induction i using Nat.strongRecOn with
    | _ i ih =>
     intro hi
     cases hl : listed.getD i false with
     | true => rfl
     | false =>
      exfalso
      have : i ∈ Region.ready .any ops listed := mem_ready.2 ⟨by rw [← hl]; simp [Array.getD, hls, hi], ops[i], Array.getElem?_eq_getElem hi, fun e he hbd => by
       have := (regionOk_spec hok (Array.getElem?_eq_getElem hi)).1 e he hbd
       exact ih e.on this (by omega)⟩
      rw [hr] at this
      cases this
   have hB : J ks.length W := by
    obtain ⟨n, hn, hnl, hst⟩ := hB
    have : n = ks.length := by
     rcases Nat.lt_or_ge n ks.length with h | h
     · exfalso
       have h1 := hst n _ (List.getElem?_eq_getElem h)
       rw [all _ (hks n _ (List.getElem?_eq_getElem h))] at h1
       simp at h1
     · omega
    rw [← this]; exact hn
   let vs : Nat → Value := fun i => match ops[i]?.bind (·.dst) with | some d => slot a d | none => undef
   have hq := hend vs W hB (fun i o ho hsm => by
    have := hphi i o ho (all i (Array.getElem?_eq_some_iff.1 ho).1)
    unfold valOf keyOf' at this
    cases hd : o.dst with
    | none => rw [hd] at hsm; cases hsm
    | some d => rw [hd] at this; simpa [vs, ho, hd] using this) (fun i o p j oj ho hd hp hj hjd => by
    have := hphi i o ho (all i (Array.getElem?_eq_some_iff.1 ho).1)
    unfold valOf keyOf' at this
    rw [hd] at this
    simp only [hp] at this
    simpa [vs, hj, hjd] using this)
   have he : putAll ops.toList 0 vs a0 = a := by
    obtain ⟨p1, p2⟩ := putAll_size ops.toList 0 vs a0
    refine act_ext (p1.trans hsz.symm) (p2.trans hdf.symm) fun k => ?_
    by_cases hk : ∃ j : Nat, ∃ o, ops[j]? = some o ∧ o.dst = some k
    · obtain ⟨j, o, hj, hd⟩ := hk
      obtain ⟨_, hin, huniq⟩ := regionOk_spec hok hj
      rw [putAll_dst ops.toList 0 vs a0 j o k (by simpa using hj) hd (hin k hd) (fun j' o' h1 h2 => (huniq j' o' k (by simpa using h1) hd h2).symm)]
      simp [vs, hj, hd]
    · rw [putAll_other _ _ _ _ _ (fun o ho e => by
       obtain ⟨j, hj, rfl⟩ := List.getElem_of_mem ho
       exact hk ⟨j, ops.toList[j], by simp, e⟩)]
      exact (hoth k (fun j o hj hd => absurd ⟨j, o, hj, hd⟩ hk)).symm
   rw [← he]; exact hq
  have step : ∀ (listed : Array Bool) (a : Act) (W : World), Inv listed a W → ∀ i ∈ Region.ready .any ops listed, ∀ K : Act → World → Prop, (∀ a' W', Inv (listed.setIfInBounds i true) a' W' → K a' W') → wpOp Tryz.prog ops Q i K a W := by
   intro listed a W ⟨hB, hdf, hsz, hoth, hphi, hls, haf⟩ i hi K hK
   obtain ⟨hun, o, ho, haft⟩ := mem_ready.1 hi
   have hil : i < ops.size := (Array.getElem?_eq_some_iff.1 ho).1
   have hdo := hops.get (k := i) (o := o) (by simpa using ho)
   obtain ⟨hback, hin, huniq⟩ := regionOk_spec hok ho
   unfold wpOp
   rw [ho]
   have hun' : listed.getD i false = false := by
    cases hh : listed.getD i false with
    | false => rfl
    | true => simp [Array.getD, hls, hil] at hun hh; rw [hun] at hh; cases hh
   obtain ⟨n, hJ, hnl, hstg⟩ := hB
   have hn : ∀ m, stepOf ks (0 + i) = some m → n = m := fun m hm => by
    rw [Nat.zero_add] at hm
    have hkm := stepOf_some hm
    have h1 := hstg m i hkm
    rw [hun'] at h1
    have h2 : ¬ m < n := by simpa using h1.symm
    cases m with
    | zero => omega
    | succ m =>
     have hm1 : m < ks.length := by have := (List.getElem?_eq_some_iff.1 hkm).1; omega
     obtain ⟨e, he, he2, he3⟩ := hchn m _ i o (List.getElem?_eq_getElem hm1) hkm ho
     have h3 := haft e he he3
     rw [he2, hstg m _ (List.getElem?_eq_getElem hm1)] at h3
     have : m < n := by simpa using h3
     omega
   have hW : ∀ W', (match stepOf ks (0 + i) with | some m => RelW W W' ∧ J (m + 1) W' | none => RelS W W') → RelW W W' ∧ ∃ n, J n W' ∧ n ≤ ks.length ∧ ∀ m k : Nat, ks[m]? = some k → (listed.setIfInBounds i true).getD k false = decide (m < n) := fun W' hh => by
    cases hso : stepOf ks (0 + i) with
    | none =>
     rw [hso] at hh
     refine ⟨hsw _ _ hh, n, hst1 _ _ _ hJ hh, hnl, fun m k hk => ?_⟩
     rw [getD_set listed i k (by omega)]
     rw [Nat.zero_add] at hso
     rw [if_neg (fun e => stepOf_none hso m (by rw [← e]; exact hk))]
     exact hstg m k hk
    | some m =>
     rw [hso] at hh
     have hnm := hn m hso
     rw [Nat.zero_add] at hso
     have hkm := stepOf_some hso
     have hml := (List.getElem?_eq_some_iff.1 hkm).1
     refine ⟨hh.1, m + 1, hh.2, hml, fun m' k hk => ?_⟩
     rw [getD_set listed i k (by omega)]
     by_cases hki : k = i
     · subst hki
       have : m' = m := (List.getElem?_inj (List.getElem?_eq_some_iff.1 hk).1 hnd).1 (hk.trans hkm.symm)
       subst this
       simp
     · rw [if_neg hki, hstg m' k hk]
       have : m' ≠ m := fun e => by subst e; rw [hkm] at hk; injection hk with hk; exact hki hk.symm
       rw [hnm]
       simp only [decide_eq_decide]
       omega
   have hah : ∀ m k ok, ks[m]? = some k → ops[k]? = some ok → (ok.after.toList.any fun e => e.on == (0 + i) && Region.binds .any e) = true → n ≤ m := fun m k ok hm hk2 he => by
    rcases Nat.lt_or_ge m n with hlt | hge
    · exfalso
      have h1 := hstg m k hm
      rw [decide_eq_true hlt] at h1
      rw [List.any_eq_true] at he
      obtain ⟨e, he1, he2⟩ := he
      rw [Nat.zero_add, Bool.and_eq_true, beq_iff_eq] at he2
      have h2 := haf k ok hk2 h1 e (by simpa using he1) he2.2
      rw [he2.1, hun'] at h2
      cases h2
    · exact hge
   have key := hdo a W n hJ hnl hn hah (fun k hk => ?_) (fun e he hb oe hoe => hphi e.on oe hoe (haft e he hb)) K (fun v W' hbW hv => hK _ _ ⟨(hW W' hbW).2, (defers_put _ _ _).trans hdf, (size_put _ _ _).trans hsz, fun k hk => ?_, fun j oj hj hlj => ?_, by simpa using hls, fun j oj hj hlj e he hb => ?_⟩)
   · show if Region.wanted o (yielded ops a.tmps) = true then _ else _
     split
     · rename_i hw
       rw [if_pos hw] at key
       exact .inl key
     · rename_i hw
       rw [if_neg hw] at key
       exact key
   · rw [List.all_eq_true] at hk
     exact hoth k (fun j oj hj hd => by
      have := hk oj (List.mem_of_getElem? (i := j) (by simpa using hj))
      rw [hd] at this
      rw [Bool.or_eq_true] at this
      rcases this with this | this
      · simp at this
      · cases hlj : listed.getD j false with
        | false => rfl
        | true =>
         exfalso
         rw [List.any_eq_true] at this
         obtain ⟨e, he1, he2⟩ := this
         rw [Nat.zero_add, Bool.and_eq_true, beq_iff_eq] at he2
         have h2 := haf j oj hj hlj e (by simpa using he1) he2.2
         rw [he2.1, hun'] at h2
         cases h2)
   · have hne : ¬ o.dst = some k := fun e => by
      have := hk i o ho e
      rw [getD_set listed i i (by omega), if_pos rfl] at this
      cases this
     rw [slot_put, if_neg (fun hh => hne hh.1)]
     refine hoth k (fun j oj hj hd => ?_)
     have := hk j oj hj hd
     rw [getD_set listed i j (by omega)] at this
     by_cases hji : j = i
     · subst hji; rw [ho] at hj; cases hj; exact absurd hd hne
     · rwa [if_neg hji] at this
   · rw [getD_set listed i j (by omega)] at hlj
     by_cases hji : j = i
     · subst hji
       rw [ho] at hj; cases hj
       rw [show 0 + j = j by omega] at hv
       unfold valOf keyOf' at hv ⊢
       cases hd : o.dst with
       | none =>
        rw [hd] at hv
        simp only at hv ⊢
        cases hp : ptrOf o.op with
        | none => rw [hp] at hv; exact hv
        | some p =>
         rw [hp] at hv
         simp only at hv ⊢
         rw [slot_put, if_neg (fun hh => by cases hh.1)]
         exact hv
       | some d =>
        rw [hd] at hv
        simp only at hv ⊢
        rw [slot_put, if_pos ⟨rfl, by rw [hsz]; exact hin d hd⟩]
        exact hv
     · rw [if_neg hji] at hlj
       have h1 := hmono j _ W W' (hphi j oj hj hlj) (hW W' hbW).1
       unfold valOf keyOf' at h1 ⊢
       cases hd : oj.dst with
       | none =>
        rw [hd] at h1
        simp only at h1 ⊢
        cases hp : ptrOf oj.op with
        | none => rw [hp] at h1; exact h1
        | some p =>
         rw [hp] at h1
         simp only at h1 ⊢
         have hne : ¬ o.dst = some p := by
          rcases storesOk2_spec hst hj hd hp with ⟨e, he, hb, oe, hoe, hed⟩ | hno
          · have hle := haf j oj hj hlj e he hb
            intro e'
            have := huniq e.on oe p hoe e' hed
            rw [← this, hun'] at hle
            cases hle
          · exact hno i o ho
         rw [slot_put, if_neg (fun hh => hne hh.1)]
         exact h1
       | some d =>
        rw [hd] at h1
        simp only at h1 ⊢
        have hne : ¬ o.dst = some d := fun e => hji (huniq j oj d hj e hd).symm
        rw [slot_put, if_neg (fun hh => hne hh.1)]
        exact h1
   · rw [getD_set listed i j (by omega)] at hlj
     rw [getD_set listed i e.on (by omega)]
     split
     · rfl
     · by_cases hji : j = i
       · subst hji
         rw [ho] at hj; cases hj
         exact haft e he hb
       · rw [if_neg hji] at hlj
         exact haf j oj hj hlj e he hb
  intro fuel
  induction fuel with
  | zero =>
   intro listed a W hf hI
   have hr : Region.ready .any ops listed = [] := by
    cases hr : Region.ready .any ops listed with
    | nil => rfl
    | cons i l =>
     exfalso
     have hi : i ∈ Region.ready .any ops listed := by rw [hr]; simp
     have := unlisted_set (mem_ready.1 hi).1
     omega
   exact ⟨hr, done listed a W hI hr⟩
  | succ fuel ih =>
   intro listed a W hf hI
   refine ⟨done listed a W hI, fun i hi => step listed a W hI i hi _ (fun a' W' hI' => ih _ a' W' ?_ hI')⟩
   have := unlisted_set (mem_ready.1 hi).1
   omega
 refine wp_region_any hm (main _ _ _ _ ?_ ?_)
 · unfold unlisted
   rw [Array.toList_replicate, List.countP_replicate]
   split <;> omega
 · refine ⟨⟨0, hdrew, Nat.zero_le _, fun m k hk => by have := hks m k hk; simp [Array.getD]⟩, rfl, rfl, fun _ _ => rfl, fun i o ho hl => ?_, by simp, fun i o ho hl => ?_⟩
   · have hil : i < ops.size := (Array.getElem?_eq_some_iff.1 ho).1
     simp [Array.getD, hil] at hl
   · have hil : i < ops.size := (Array.getElem?_eq_some_iff.1 ho).1
     simp [Array.getD, hil] at hl
section
variable {ops : Array Oper} {a0 : Act} {J : Nat → World → Prop} {RelS RelW : World → World → Prop} {ks : List Nat} {Φ : Nat → Value → World → Prop} {i : Nat} {o : Oper}
theorem opS_any
  (h : ∀ a W n, J n W → n ≤ ks.length → (∀ m, stepOf ks i = some m → n = m) → (∀ m k ok, ks[m]? = some k → ops[k]? = some ok → (ok.after.toList.any fun e => e.on == i && Region.binds .any e) = true → n ≤ m) → (∀ k, (ops.toList.all fun o => o.dst != some k || (o.after.toList.any fun e => e.on == i && Region.binds .any e)) = true → a.tmps[k]?.getD undef = slot a0 k) →
   (∀ j oe, (o.after.toList.any fun e => e.on == j && Region.binds .any e) = true → ops[j]? = some oe → Φ j (dstV a oe) W) →
   ∀ K : Act → World → Prop, (∀ v W', (match stepOf ks i with | some m => RelW W W' ∧ J (m + 1) W' | none => RelS W W') → Φ i (match o.dst with | some _ => v | none => dstV a o) W' → K (a.put o.dst v) W') →
    if Region.wanted o (yielded ops a.tmps) = true then o.wp Tryz.prog a W K Q else K (a.put o.dst undef) W) : OpDoesS ops a0 J RelS RelW ks Φ Q i o := by
 intro a W n h1 hnl hn hah h2 h3 K hK
 refine h a W n h1 hnl hn hah (fun k hk => (eval_slot a k).symm.trans (h2 k hk)) (fun j oe hj ho => ?_) K (fun v W' hr hp => hK v W' hr (by rw [valOf_dst]; exact hp))
 rw [List.any_eq_true] at hj
 obtain ⟨e, he, hb⟩ := hj
 simp only [Bool.and_eq_true, beq_iff_eq] at hb
 obtain ⟨rfl, hb⟩ := hb
 rw [← valOf_dst]
 exact h3 e (by simpa using he) hb oe ho
theorem opS_mk (hs : stepOf ks i = none) (hg : o.guard = none)
  (h : ∀ a W n, J n W → (∀ k, (ops.toList.all fun o => o.dst != some k || (o.after.toList.any fun e => e.on == i && Region.binds .any e)) = true → a.tmps[k]?.getD undef = slot a0 k) →
   (∀ j oe, (o.after.toList.any fun e => e.on == j && Region.binds .any e) = true → ops[j]? = some oe → Φ j (dstV a oe) W) →
   ∀ K : Act → World → Prop, (∀ v W', RelS W W' → Φ i (match o.dst with | some _ => v | none => dstV a o) W' → K (a.put o.dst v) W') → o.wp Tryz.prog a W K Q) : OpDoesS ops a0 J RelS RelW ks Φ Q i o := by
 refine opS_any fun a W n h1 _ _ _ h2 h3 K hK => ?_
 rw [if_pos (by simp [Region.wanted, hg])]
 rw [hs] at hK
 exact h a W n h1 h2 h3 K hK
theorem opS_ahead {m k : Nat} {ok : Oper} (hs : stepOf ks i = none) (hg : o.guard = none) (hm : ks[m]? = some k) (hk : ops[k]? = some ok) (he : (ok.after.toList.any fun e => e.on == i && Region.binds .any e) = true)
  (h : ∀ a W n, n ≤ m → J n W → (∀ k, (ops.toList.all fun o => o.dst != some k || (o.after.toList.any fun e => e.on == i && Region.binds .any e)) = true → a.tmps[k]?.getD undef = slot a0 k) →
   (∀ j oe, (o.after.toList.any fun e => e.on == j && Region.binds .any e) = true → ops[j]? = some oe → Φ j (dstV a oe) W) →
   ∀ K : Act → World → Prop, (∀ v W', RelS W W' → Φ i (match o.dst with | some _ => v | none => dstV a o) W' → K (a.put o.dst v) W') → o.wp Tryz.prog a W K Q) : OpDoesS ops a0 J RelS RelW ks Φ Q i o := by
 refine opS_any fun a W n h1 _ _ hah h2 h3 K hK => ?_
 rw [if_pos (by simp [Region.wanted, hg])]
 rw [hs] at hK
 exact h a W n (hah m k ok hm hk he) h1 h2 h3 K hK
theorem opS_at {m : Nat} (hs : stepOf ks i = some m) (hg : o.guard = none)
  (h : ∀ a W, J m W → (∀ k, (ops.toList.all fun o => o.dst != some k || (o.after.toList.any fun e => e.on == i && Region.binds .any e)) = true → a.tmps[k]?.getD undef = slot a0 k) →
   (∀ j oe, (o.after.toList.any fun e => e.on == j && Region.binds .any e) = true → ops[j]? = some oe → Φ j (dstV a oe) W) →
   ∀ K : Act → World → Prop, (∀ v W', RelW W W' → J (m + 1) W' → Φ i (match o.dst with | some _ => v | none => dstV a o) W' → K (a.put o.dst v) W') → o.wp Tryz.prog a W K Q) : OpDoesS ops a0 J RelS RelW ks Φ Q i o := by
 refine opS_any fun a W n h1 _ hn _ h2 h3 K hK => ?_
 rw [if_pos (by simp [Region.wanted, hg])]
 rw [hs] at hK
 exact h a W ((hn m hs) ▸ h1) h2 h3 K (fun v W' h4 h5 h6 => hK v W' ⟨h4, h5⟩ h6)
end
end

section
open Go.RowKit Go.Maps
def RelB (W W' : World) : Prop := Below W.heap.size W W'
theorem RelB.refl (W : World) : RelB W W := Below.refl _ _
theorem RelB.of {W W' : World} (h : Below W.heap.size W W') : RelB W W' := h
theorem RelB.trans {W W' W'' : World} (h : RelB W W') (g : RelB W' W'') : RelB W W'' := ptrans h g
theorem below_drew (w : World) : Below w.heap.size w w.drew := ⟨rfl, rfl, rfl, Nat.le_refl _, fun _ _ => rfl⟩
theorem stays_phiR {l : List Ph} {Rel : World → World → Prop} (h : ∀ p ∈ l, ∀ v W W', p v W → Rel W W' → p v W') (i : Nat) (v : Value) (W W' : World) (hp : phi l i v W) (hb : Rel W W') : phi l i v W' := by
 unfold phi at *
 rw [List.getD_eq_getElem?_getD] at *
 cases hi : l[i]? with
 | none => trivial
 | some p => rw [hi] at hp; exact h p (List.mem_of_getElem? hi) v W W' hp hb
end
end Go.Proofs.YtpcnolkdnmolgaaGreatDoor
