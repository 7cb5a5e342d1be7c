/- A drawn region in which each operation, be it guarded, be it a store, is met once: what it yields, and what stays. -/
import Derived.Test.YtogljgiefmfafaaGreatPd02
import Derived.Test.YtogljgiefmfafaaGreatPd10
import Derived.Deep.MidRow
namespace Go.Proofs.YtogljgiefmfafaaGreat
open Go.RowKit Go.Maps
variable {Q : Exit → Act → World → Prop}
def ptrOf : Op → Option Tmp
 | .store _ (.tmp p) _ => some p
 | _ => none
def keyOf' (o : Oper) : Option Tmp := match o.dst with | some d => some d | none => ptrOf o.op
def valOf (a : Act) (o : Oper) : Value := match keyOf' o with | some d => slot a d | none => undef
def storesOk (ops : Array Oper) : Bool :=
 (List.range ops.size).all fun i => match ops[i]? with
  | none => true
  | some o => match o.dst with
   | some _ => true
   | none => match ptrOf o.op with
    | none => true
    | some p => o.after.toList.any fun e => Region.binds .any e && match ops[e.on]? with | some oe => oe.dst == some p | none => false
theorem storesOk_spec {ops : Array Oper} (h : storesOk ops = true) {i : Nat} {o : Oper} {p : Tmp} (hi : ops[i]? = some o) (hd : o.dst = none) (hp : ptrOf o.op = some p) :
  ∃ e ∈ o.after, Region.binds .any e = true ∧ ∃ oe, ops[e.on]? = some oe ∧ oe.dst = some p := by
 unfold storesOk at h
 rw [List.all_eq_true] at h
 have h1 := h i (List.mem_range.2 (Array.getElem?_eq_some_iff.1 hi).1)
 simp only [hi, hd, hp, List.any_eq_true, Bool.and_eq_true] at h1
 obtain ⟨e, he, hb, h2⟩ := h1
 refine ⟨e, by simpa using he, hb, ?_⟩
 cases ho : ops[e.on]? with
 | none => rw [ho] at h2; cases h2
 | some oe => rw [ho] at h2; exact ⟨oe, rfl, by simpa using h2⟩
def OpDoesR (ops : Array Oper) (a0 : Act) (w0 : World) (Rel : World → World → Prop) (Φ : Nat → Value → World → Prop) (Q : Exit → Act → World → Prop) (i : Nat) (o : Oper) : Prop :=
 ∀ a W, Rel w0 W → (∀ k, (ops.toList.all fun o => o.dst != some k) = true → slot a k = slot a0 k) →
  (∀ e ∈ o.after, Region.binds .any e = true → ∀ oe, ops[e.on]? = some oe → Φ e.on (valOf a oe) W) →
  ∀ K : Act → World → Prop, (∀ v W', Rel W W' → Φ i (match o.dst with | some _ => v | none => valOf a o) W' → K (a.put o.dst v) W') →
   if Region.wanted o (yielded ops a.tmps) = true then o.wp Tryz.prog a W K Q else K (a.put o.dst undef) W
theorem wp_region_rel {ops : Array Oper} {id : Nat} {a0 : Act} {w0 : World} (Rel : World → World → Prop) (Φ : Nat → Value → World → Prop)
  (hm : Tryz.prog.follows .mixedOrders = true) (hok : regionOk ops a0.tmps.size = true) (hst : storesOk ops = true)
  (hdrew : Rel w0 w0.drew) (htrans : ∀ W W' W'', Rel W W' → Rel W' W'' → Rel W W'')
  (hmono : ∀ i v W W', Φ i v W → Rel W W' → Φ i v W')
  (hops : AllOps (OpDoesR ops a0 w0 Rel Φ Q) 0 ops.toList)
  (hend : ∀ (vs : Nat → Value) W, Rel w0 W → (∀ i o, ops[i]? = some o → o.dst.isSome = true → Φ i (vs i) W) → (∀ i o p j oj, ops[i]? = some o → o.dst = none → ptrOf o.op = some p → ops[j]? = some oj → oj.dst = some p → Φ i (vs j) W) → Q .normal (putAll ops.toList 0 vs a0) W) :
  (Code.region id ops true).wp Tryz.prog Q a0 w0 := by
 let Inv : Array Bool → Act → World → Prop := fun listed a W => Rel w0 W ∧ a.defers = a0.defers ∧ a.tmps.size = a0.tmps.size ∧
  (∀ k, (∀ j o, ops[j]? = some o → o.dst = some k → listed.getD j false = false) → slot a k = slot a0 k) ∧
  (∀ i o, ops[i]? = some o → listed.getD i false = true → Φ i (valOf a o) W) ∧ listed.size = ops.size ∧
  (∀ i o, ops[i]? = some o → listed.getD i false = true → ∀ e ∈ o.after, Region.binds .any e = true → listed.getD e.on false = true)
 have getD_set : ∀ (listed : Array Bool) (i j : Nat), i < listed.size → (listed.setIfInBounds i true).getD j false = if j = i then true else listed.getD j false := fun listed i j hi => by
  by_cases hji : j = i
  · subst hji; simp [Array.getD, hi]
  · rw [if_neg hji, Array.getD_eq_getD_getElem?, Array.getD_eq_getD_getElem?, Array.getElem?_setIfInBounds_ne (fun e => hji e.symm)]
 have main : ∀ (fuel : Nat) (listed : Array Bool) (a : Act) (W : World), unlisted listed ≤ fuel → Inv listed a W → wpAny Tryz.prog .any ops Q fuel listed a W := by
  have done : ∀ (listed : Array Bool) (a : Act) (W : World), Inv listed a W → Region.ready .any ops listed = [] → Q .normal a W := by
   intro listed a W ⟨hB, hdf, hsz, hoth, hphi, hls, _⟩ hr
   have all : ∀ i, i < ops.size → listed.getD i false = true := by
    intro i
    induction i using Nat.strongRecOn with
    | _ i ih =>
     intro hi
     cases hl : listed.getD i false with
     | true => rfl
     | false =>
      exfalso
      have : i ∈ Region.ready .any ops listed := mem_ready.2 ⟨by rw [← hl]; simp [Array.getD, hls, hi], ops[i], Array.getElem?_eq_getElem hi, fun e he hbd => by
       have := (regionOk_spec hok (Array.getElem?_eq_getElem hi)).1 e he hbd
       exact ih e.on this (by omega)⟩
      rw [hr] at this
      cases this
   let vs : Nat → Value := fun i => match ops[i]?.bind (·.dst) with | some d => slot a d | none => undef
   have hq := hend vs W hB (fun i o ho hsm => by
    have := hphi i o ho (all i (Array.getElem?_eq_some_iff.1 ho).1)
    unfold valOf keyOf' at this
    cases hd : o.dst with
    | none => rw [hd] at hsm; cases hsm
    | some d => rw [hd] at this; simpa [vs, ho, hd] using this) (fun i o p j oj ho hd hp hj hjd => by
    have := hphi i o ho (all i (Array.getElem?_eq_some_iff.1 ho).1)
    unfold valOf keyOf' at this
    rw [hd] at this
    simp only [hp] at this
    simpa [vs, hj, hjd] using this)
   have he : putAll ops.toList 0 vs a0 = a := by
    obtain ⟨p1, p2⟩ := putAll_size ops.toList 0 vs a0
    refine act_ext (p1.trans hsz.symm) (p2.trans hdf.symm) fun k => ?_
    by_cases hk : ∃ j : Nat, ∃ o, ops[j]? = some o ∧ o.dst = some k
    · obtain ⟨j, o, hj, hd⟩ := hk
      obtain ⟨_, hin, huniq⟩ := regionOk_spec hok hj
      rw [putAll_dst ops.toList 0 vs a0 j o k (by simpa using hj) hd (hin k hd) (fun j' o' h1 h2 => (huniq j' o' k (by simpa using h1) hd h2).symm)]
      simp [vs, hj, hd]
    · rw [putAll_other _ _ _ _ _ (fun o ho e => by
       obtain ⟨j, hj, rfl⟩ := List.getElem_of_mem ho
       exact hk ⟨j, ops.toList[j], by simp, e⟩)]
      exact (hoth k (fun j o hj hd => absurd ⟨j, o, hj, hd⟩ hk)).symm
   rw [← he]; exact hq
  have step : ∀ (listed : Array Bool) (a : Act) (W : World), Inv listed a W → ∀ i ∈ Region.ready .any ops listed, ∀ K : Act → World → Prop, (∀ a' W', Inv (listed.setIfInBounds i true) a' W' → K a' W') → wpOp Tryz.prog ops Q i K a W := by
   intro listed a W ⟨hB, hdf, hsz, hoth, hphi, hls, haf⟩ i hi K hK
   obtain ⟨hun, o, ho, haft⟩ := mem_ready.1 hi
   have hil : i < ops.size := (Array.getElem?_eq_some_iff.1 ho).1
   have hdo := hops.get (k := i) (o := o) (by simpa using ho)
   obtain ⟨hback, hin, huniq⟩ := regionOk_spec hok ho
   unfold wpOp
   rw [ho]
   have hun' : listed.getD i false = false := by
    cases hh : listed.getD i false with
    | false => rfl
    | true => simp [Array.getD, hls, hil] at hun hh; rw [hun] at hh; cases hh
   have key := hdo a W hB (fun k hk => ?_) (fun e he hb oe hoe => hphi e.on oe hoe (haft e he hb)) K (fun v W' hbW hv => hK _ _ ⟨htrans _ _ _ hB hbW, (defers_put _ _ _).trans hdf, (size_put _ _ _).trans hsz, fun k hk => ?_, fun j oj hj hlj => ?_, by simpa using hls, fun j oj hj hlj e he hb => ?_⟩)
   · show if Region.wanted o (yielded ops a.tmps) = true then _ else _
     split
     · rename_i hw
       rw [if_pos hw] at key
       exact .inl key
     · rename_i hw
       rw [if_neg hw] at key
       exact key
   · rw [List.all_eq_true] at hk
     exact hoth k (fun j oj hj hd => by
      have := hk oj (List.mem_of_getElem? (i := j) (by simpa using hj))
      rw [hd] at this; simp at this)
   · have hne : ¬ o.dst = some k := fun e => by
      have := hk i o ho e
      rw [getD_set listed i i (by omega), if_pos rfl] at this
      cases this
     rw [slot_put, if_neg (fun hh => hne hh.1)]
     refine hoth k (fun j oj hj hd => ?_)
     have := hk j oj hj hd
     rw [getD_set listed i j (by omega)] at this
     by_cases hji : j = i
     · subst hji; rw [ho] at hj; cases hj; exact absurd hd hne
     · rwa [if_neg hji] at this
   · rw [getD_set listed i j (by omega)] at hlj
     by_cases hji : j = i
     · subst hji
       rw [ho] at hj; cases hj
       rw [show 0 + j = j by omega] at hv
       unfold valOf keyOf' at hv ⊢
       cases hd : o.dst with
       | none =>
        rw [hd] at hv
        simp only at hv ⊢
        cases hp : ptrOf o.op with
        | none => rw [hp] at hv; exact hv
        | some p =>
         rw [hp] at hv
         simp only at hv ⊢
         rw [slot_put, if_neg (fun hh => by cases hh.1)]
         exact hv
       | some d =>
        rw [hd] at hv
        simp only at hv ⊢
        rw [slot_put, if_pos ⟨rfl, by rw [hsz]; exact hin d hd⟩]
        exact hv
     · rw [if_neg hji] at hlj
       have h1 := hmono j _ W W' (hphi j oj hj hlj) hbW
       unfold valOf keyOf' at h1 ⊢
       cases hd : oj.dst with
       | none =>
        rw [hd] at h1
        simp only at h1 ⊢
        cases hp : ptrOf oj.op with
        | none => rw [hp] at h1; exact h1
        | some p =>
         rw [hp] at h1
         simp only at h1 ⊢
         obtain ⟨e, he, hb, oe, hoe, hed⟩ := storesOk_spec hst hj hd hp
         have hle := haf j oj hj hlj e he hb
         have hne : ¬ o.dst = some p := fun e' => by
          have := huniq e.on oe p hoe e' hed
          rw [← this, hun'] at hle
          cases hle
         rw [slot_put, if_neg (fun hh => hne hh.1)]
         exact h1
       | some d =>
        rw [hd] at h1
        simp only at h1 ⊢
        have hne : ¬ o.dst = some d := fun e => hji (huniq j oj d hj e hd).symm
        rw [slot_put, if_neg (fun hh => hne hh.1)]
        exact h1
   · rw [getD_set listed i j (by omega)] at hlj
     rw [getD_set listed i e.on (by omega)]
     split
     · rfl
     · by_cases hji : j = i
       · subst hji
         rw [ho] at hj; cases hj
         exact haft e he hb
       · rw [if_neg hji] at hlj
         exact haf j oj hj hlj e he hb
  intro fuel
  induction fuel with
  | zero =>
   intro listed a W hf hI
   have hr : Region.ready .any ops listed = [] := by
    cases hr : Region.ready .any ops listed with
    | nil => rfl
    | cons i l =>
     exfalso
     have hi : i ∈ Region.ready .any ops listed := by rw [hr]; simp
     have := unlisted_set (mem_ready.1 hi).1
     omega
   exact ⟨hr, done listed a W hI hr⟩
  | succ fuel ih =>
   intro listed a W hf hI
   refine ⟨done listed a W hI, fun i hi => step listed a W hI i hi _ (fun a' W' hI' => ih _ a' W' ?_ hI')⟩
   have := unlisted_set (mem_ready.1 hi).1
   omega
 refine wp_region_any hm (main _ _ _ _ ?_ ?_)
 · unfold unlisted
   rw [Array.toList_replicate, List.countP_replicate]
   split <;> omega
 · refine ⟨hdrew, rfl, rfl, fun _ _ => rfl, fun i o ho hl => ?_, by simp, fun i o ho hl => ?_⟩
   · have hil : i < ops.size := (Array.getElem?_eq_some_iff.1 ho).1
     simp [Array.getD, hil] at hl
   · have hil : i < ops.size := (Array.getElem?_eq_some_iff.1 ho).1
     simp [Array.getD, hil] at hl
section
variable {ops : Array Oper} {a0 : Act} {w0 : World} {Rel : World → World → Prop} {Φ : Nat → Value → World → Prop} {i : Nat} {o : Oper}
def dstV (a : Act) (o : Oper) : Value := match keyOf' o with | some d => a.tmps[d]?.getD undef | none => undef
theorem valOf_dst (a : Act) (o : Oper) : valOf a o = dstV a o := by
 unfold valOf dstV
 cases keyOf' o with
 | none => rfl
 | some d => exact eval_slot a d
theorem opR_any
  (h : ∀ a W, Rel w0 W → (∀ k, (ops.toList.all fun o => o.dst != some k) = true → a.tmps[k]?.getD undef = slot a0 k) →
   (∀ j oe, (o.after.toList.any fun e => e.on == j && Region.binds .any e) = true → ops[j]? = some oe → Φ j (dstV a oe) W) →
   ∀ K : Act → World → Prop, (∀ v W', Rel W W' → Φ i (match o.dst with | some _ => v | none => dstV a o) W' → K (a.put o.dst v) W') →
    if Region.wanted o (yielded ops a.tmps) = true then o.wp Tryz.prog a W K Q else K (a.put o.dst undef) W) : OpDoesR ops a0 w0 Rel Φ Q i o := by
 intro a W h1 h2 h3 K hK
 refine h a W h1 (fun k hk => (eval_slot a k).symm.trans (h2 k hk)) (fun j oe hj ho => ?_) K (fun v W' hr hp => hK v W' hr (by rw [valOf_dst]; exact hp))
 rw [List.any_eq_true] at hj
 obtain ⟨e, he, hb⟩ := hj
 simp only [Bool.and_eq_true, beq_iff_eq] at hb
 obtain ⟨rfl, hb⟩ := hb
 rw [← valOf_dst]
 exact h3 e (by simpa using he) hb oe ho
theorem opR_mk (hg : o.guard = none)
  (h : ∀ a W, Rel w0 W → (∀ k, (ops.toList.all fun o => o.dst != some k) = true → a.tmps[k]?.getD undef = slot a0 k) →
   (∀ j oe, (o.after.toList.any fun e => e.on == j && Region.binds .any e) = true → ops[j]? = some oe → Φ j (dstV a oe) W) →
   ∀ K : Act → World → Prop, (∀ v W', Rel W W' → Φ i (match o.dst with | some _ => v | none => dstV a o) W' → K (a.put o.dst v) W') → o.wp Tryz.prog a W K Q) : OpDoesR ops a0 w0 Rel Φ Q i o := by
 refine opR_any fun a W h1 h2 h3 K hK => ?_
 rw [if_pos (by simp [Region.wanted, hg])]
 exact h a W h1 h2 h3 K hK
theorem opR_guard {j d : Nat} {want c : Bool} {oj : Oper} (hod : o.dst.isSome = true) (hg : o.guard = some (j, want)) (haft : (o.after.toList.any fun e => e.on == j && Region.binds .any e) = true) (hj : ops[j]? = some oj) (hjd : oj.dst = some d)
  (hc : ∀ v W, Φ j v W → v = .bool c) (hrefl : ∀ W, Rel W W) (hskip : c ≠ want → ∀ W, Φ i undef W)
  (h : c = want → ∀ a W, Rel w0 W → (∀ k, (ops.toList.all fun o => o.dst != some k) = true → a.tmps[k]?.getD undef = slot a0 k) →
   (∀ j oe, (o.after.toList.any fun e => e.on == j && Region.binds .any e) = true → ops[j]? = some oe → Φ j (dstV a oe) W) →
   ∀ K : Act → World → Prop, (∀ v W', Rel W W' → Φ i (match o.dst with | some _ => v | none => dstV a o) W' → K (a.put o.dst v) W') → o.wp Tryz.prog a W K Q) : OpDoesR ops a0 w0 Rel Φ Q i o := by
 refine opR_any fun a W h1 h2 h3 K hK => ?_
 have hv := hc _ _ (h3 j oj haft hj)
 have hy : yielded ops a.tmps j = some c := by
  unfold dstV keyOf' at hv
  rw [hjd] at hv
  simp only at hv
  unfold yielded
  rw [hj]
  simp only [Option.bind_some, hjd]
  cases ht : a.tmps[d]? with
  | none => rw [ht] at hv; cases hv
  | some x => rw [ht] at hv; simp only [Option.getD_some] at hv; rw [hv]
 by_cases hcw : c = want
 · rw [if_pos (by simp [Region.wanted, hg, hy, hcw])]
   exact h hcw a W h1 h2 h3 K hK
 · rw [if_neg (by simp [Region.wanted, hg, hy, hcw])]
   refine hK undef W (hrefl W) ?_
   cases hd : o.dst with
   | some d => exact hskip hcw W
   | none => rw [hd] at hod; cases hod
end
end Go.Proofs.YtogljgiefmfafaaGreat

namespace Go.Proofs.YtogljgiefmfafaaGreat
open Go.RowKit Go.Maps
theorem t_ino (i : Int) (b : Bool) (hb : inoB i = b) (w : World) : Calls Tryz.prog 106 #[.int .u32 i] w fun e w' => e = .returned (.bool b) ∧ w = w' := by
 have HB := Lib.hid hb
 by_cases h1 : 1 ≤ i
 · by_cases h2 : i ≤ 256
   · have HR : Hid (true = b) := by show _ = _; rw [← HB.out]; unfold inoB; simp [h1, h2]
     clear hb
     go_enter Tryz.func106, Tryz.ntmps106
     go_wp2
     go_ret
     exact ⟨pret_bool HR.out, rfl⟩
   · have HR : Hid (false = b) := by show _ = _; rw [← HB.out]; unfold inoB; simp [h2]
     clear hb
     go_enter Tryz.func106, Tryz.ntmps106
     go_wp2
     go_ret
     exact ⟨pret_bool HR.out, rfl⟩
 · have HR : Hid (false = b) := by show _ = _; rw [← HB.out]; unfold inoB; simp [h1]
   clear hb
   go_enter Tryz.func106, Tryz.ntmps106
   go_wp2
   go_ret
   exact ⟨pret_bool HR.out, rfl⟩
theorem t_nm (s : ByteArray) (b : Bool) (hb : pnameB s = b) (w : World) (hs : s.size ≤ maxLen) : Calls Tryz.prog 107 #[.string s] w fun e w' => e = .returned (.bool b) ∧ Below w.heap.size w w' := by
 cases b
 · have HN := Lib.hid (t_pname s 2 (by unfold nameE; rw [hb]; rfl) w hs)
   clear hb hs
   go_enter Tryz.func107, Tryz.ntmps107
   go_wp2_with (go_at_call 108; (with_reducible refine HN.out.mono ?_); rintro e w1 ⟨rfl, h1⟩; have HB := Lib.hid h1; clear h1)
   go_ret
   exact ⟨rfl, HB.out⟩
 · have HN := Lib.hid (t_pname s 0 (by unfold nameE; rw [hb]; rfl) w hs)
   clear hb hs
   go_enter Tryz.func107, Tryz.ntmps107
   go_wp2_with (go_at_call 108; (with_reducible refine HN.out.mono ?_); rintro e w1 ⟨rfl, h1⟩; have HB := Lib.hid h1; clear h1)
   go_ret
   exact ⟨rfl, HB.out⟩
theorem t_fits (c a b o r : Bool) (B : Nat) (w : World) (hr : (o && fitB c a b) = r) (hc : w.heap[B]? = some (.cells #[.bool o] 4 (0, 0))) :
  Calls Tryz.prog 109 #[.bool c, .bool a, .bool b, .pointer (some ⟨B, 0, none⟩)] w fun e w' => e = .returned (.tuple #[]) ∧ w'.heap[B]? = some (.cells #[.bool r] 4 (0, 0)) ∧ w.grownBy w' (some B) := by
 subst hr
 have c0 : w.cell? ⟨B, 0, none⟩ = some (.bool o) := by simp only [World.cell?, hc]; rfl
 have f0 : w.frozen? ⟨B, 0, none⟩ = false := by simp [World.frozen?, hc]
 cases o <;> cases c <;> cases a <;> cases b <;>
  (go_enter Tryz.func109, Tryz.ntmps109
   go_wp2
   go_end0
   exact ⟨rfl, by rw [pheap_set _ _ 0 _ _ _ hc]; rfl, pgrown_set _ _ _ _⟩)
theorem heap_setCells_all (B : Nat) (T : TypeId) : ∀ (vs pre post : List Value) (w : World), w.heap[B]? = some (.cells (pre ++ post).toArray T (0, 0)) → post.length = vs.length → (w.setCells B pre.length vs).heap[B]? = some (.cells (pre ++ vs).toArray T (0, 0))
 | [], pre, post, w, h, hl => by
  have : post = [] := List.eq_nil_of_length_eq_zero hl
  subst this
  exact h
 | v :: r, pre, [], w, _, hl => by cases hl
 | v :: r, pre, p :: post, w, h, hl => by
  have h1 := pheap_set w B pre.length v _ _ h
  have e : (pre ++ p :: post).toArray.setIfInBounds pre.length v = ((pre ++ [v]) ++ post).toArray := by
   rw [List.setIfInBounds_toArray]
   congr 1
   rw [List.set_append_right _ _ (Nat.le_refl _)]
   simp
  rw [e] at h1
  have h2 := heap_setCells_all B T r (pre ++ [v]) post _ h1 (by simpa using hl)
  have e2 : (pre ++ [v]).length = pre.length + 1 := by simp
  rw [e2] at h2
  have e3 : pre ++ [v] ++ r = pre ++ v :: r := by simp
  rw [e3] at h2
  exact h2
theorem grown_setCellsB (B : Nat) : ∀ (vs : List Value) (o : Nat) (w : World), w.grownBy (w.setCells B o vs) (some B)
 | [], _, _w => ⟨rfl, rfl, rfl, Nat.le_refl _, fun _ _ _ => rfl⟩
 | v :: r, o, w => pgrown_trans (pgrown_set w B o v) (grown_setCellsB B r (o + 1) _)
theorem there_cells {w : World} {B : Nat} {cs : Array Value} {T : TypeId} (h : w.heap[B]? = some (.cells cs T (0, 0))) : w.there B 0 cs.size := fun j hj => by
 constructor
 · simp only [World.cell?, h, Nat.zero_add]
   rw [Array.getElem?_eq_getElem hj]
   rfl
 · simp [World.frozen?, h]
theorem set_block {w : World} {B : Nat} {cs kc : Array Value} {T : TypeId} (h : w.heap[B]? = some (.cells cs T (0, 0))) (hs : cs.size = kc.size) : (w.setCells B 0 kc.toList).heap[B]? = some (.cells kc T (0, 0)) ∧ w.grownBy (w.setCells B 0 kc.toList) (some B) ∧ w.there B 0 kc.size := by
 refine ⟨?_, grown_setCellsB B _ _ _, by rw [← hs]; exact there_cells h⟩
 have h1 := heap_setCells_all B T kc.toList [] cs.toList w (by simpa using h) (by simpa using hs)
 simpa using h1
def isKinds : Ph := fun v W => ∃ b, v = .map (some b) ∧ MapAt W Tryz.prog 5 b 7 kindsM
def isBlk (G : Nat) (c0 c1 : Array Value) (T : TypeId) : Ph := fun v W => ∃ B, v = .pointer (some ⟨B, 0, none⟩) ∧ G ≤ B ∧ (W.heap[B]? = some (.cells c0 T (0, 0)) ∨ W.heap[B]? = some (.cells c1 T (0, 0)))
structure RelK (G : Nat) (k : Array Value) (b : Value) (W W' : World) : Prop where
 os : W'.os = W.os
 tape : W'.tape = W.tape
 output : W'.output = W.output
 size : W.heap.size ≤ W'.heap.size
 old : ∀ B, B < G → W'.heap[B]? = W.heap[B]?
 map : ∀ (B : Nat) es c, W.heap[B]? = some (Obj.map es c) → W'.heap[B]? = W.heap[B]?
 kind : ∀ (B : Nat) cs, W.heap[B]? = some (Obj.cells cs 118 (0, 0)) → W'.heap[B]? = some (.cells cs 118 (0, 0)) ∨ W'.heap[B]? = some (.cells k 118 (0, 0))
 bool : ∀ (B : Nat) cs, W.heap[B]? = some (Obj.cells cs 4 (0, 0)) → W'.heap[B]? = some (.cells cs 4 (0, 0)) ∨ W'.heap[B]? = some (.cells #[b] 4 (0, 0))
section
variable {G : Nat} {k : Array Value} {b : Value} {W W' W'' : World}
theorem RelK.of_below (h : Below W.heap.size W W') (hG : G ≤ W.heap.size) : RelK G k b W W' :=
 have lt : ∀ (B : Nat) (o : Obj), W.heap[B]? = some o → B < W.heap.size := fun _B _o h => (Array.getElem?_eq_some_iff.1 h).1
 ⟨h.os, h.tape, h.output, h.size, fun B hB => h.block B (Nat.lt_of_lt_of_le hB hG), fun B _es _c hc => h.block B (lt B _ hc), fun B _cs hc => .inl ((h.block B (lt B _ hc)).trans hc), fun B _cs hc => .inl ((h.block B (lt B _ hc)).trans hc)⟩
theorem RelK.refl (W : World) : RelK G k b W W := ⟨rfl, rfl, rfl, Nat.le_refl _, fun _ _ => rfl, fun _ _ _ _ => rfl, fun _ _ h => .inl h, fun _ _ h => .inl h⟩
theorem RelK.trans (h : RelK G k b W W') (g : RelK G k b W' W'') : RelK G k b W W'' := by
 refine ⟨g.os.trans h.os, g.tape.trans h.tape, g.output.trans h.output, Nat.le_trans h.size g.size, fun B hB => (g.old B hB).trans (h.old B hB), fun B es c hc => ?_, fun B cs hc => ?_, fun B cs hc => ?_⟩
 · have h1 := h.map B es c hc
   exact (g.map B es c (h1.trans hc)).trans h1
 · rcases h.kind B cs hc with e | e
   · exact g.kind B cs e
   · exact .inr ((g.kind B k e).elim id id)
 · rcases h.bool B cs hc with e | e
   · exact g.bool B cs e
   · exact .inr ((g.bool B _ e).elim id id)
theorem RelK.setK {B : Nat} {cs : Array Value} (hc : W.heap[B]? = some (.cells cs 118 (0, 0))) (hB : G ≤ B) (hg : W.grownBy W' (some B)) (h : W'.heap[B]? = some (.cells k 118 (0, 0))) : RelK G k b W W' := by
 have lt : ∀ (B : Nat) (o : Obj), W.heap[B]? = some o → B < W.heap.size := fun B o h => (Array.getElem?_eq_some_iff.1 h).1
 have hBl := lt B _ hc
 refine ⟨hg.os, hg.tape, hg.output, hg.size, fun C hC => hg.block C (by omega) (fun e => by injection e with e; omega), fun C es c hm => ?_, fun C cs' hm => ?_, fun C cs' hm => ?_⟩
 · exact hg.block C (lt C _ hm) (fun e => by injection e with e; rw [e, hc] at hm; cases hm)
 · by_cases e : C = B
   · rw [e]; exact .inr h
   · exact .inl ((hg.block C (lt C _ hm) (fun e' => e (by injection e'))).trans hm)
 · exact .inl ((hg.block C (lt C _ hm) (fun e => by injection e with e; rw [e, hc] at hm; injection hm with hm; injection hm with _ hm; cases hm)).trans hm)
theorem RelK.setB {B : Nat} {cs : Array Value} (hc : W.heap[B]? = some (.cells cs 4 (0, 0))) (hB : G ≤ B) (hg : W.grownBy W' (some B)) (h : W'.heap[B]? = some (.cells #[b] 4 (0, 0))) : RelK G k b W W' := by
 have lt : ∀ (B : Nat) (o : Obj), W.heap[B]? = some o → B < W.heap.size := fun B o h => (Array.getElem?_eq_some_iff.1 h).1
 have hBl := lt B _ hc
 refine ⟨hg.os, hg.tape, hg.output, hg.size, fun C hC => hg.block C (by omega) (fun e => by injection e with e; omega), fun C es c hm => ?_, fun C cs' hm => ?_, fun C cs' hm => ?_⟩
 · exact hg.block C (lt C _ hm) (fun e => by injection e with e; rw [e, hc] at hm; cases hm)
 · exact .inl ((hg.block C (lt C _ hm) (fun e => by injection e with e; rw [e, hc] at hm; injection hm with hm; injection hm with _ hm; cases hm)).trans hm)
 · by_cases e : C = B
   · rw [e]; exact .inr h
   · exact .inl ((hg.block C (lt C _ hm) (fun e' => e (by injection e'))).trans hm)
end
theorem stays_phiR {l : List Ph} {Rel : World → World → Prop} (h : ∀ p ∈ l, ∀ v W W', p v W → Rel W W' → p v W') (i : Nat) (v : Value) (W W' : World) (hp : phi l i v W) (hb : Rel W W') : phi l i v W' := by
 unfold phi at *
 rw [List.getD_eq_getElem?_getD] at *
 cases hi : l[i]? with
 | none => trivial
 | some p => rw [hi] at hp; exact h p (List.mem_of_getElem? hi) v W W' hp hb
theorem isKinds.stays {G : Nat} {k : Array Value} {b : Value} : ∀ v W W', isKinds v W → RelK G k b W W' → isKinds v W' := fun _ _ _ ⟨B, h1, h2⟩ hr => by
 obtain ⟨es, c, hm⟩ := h2.isMap
 exact ⟨B, h1, h2.same (hr.map B es c hm)⟩
theorem isBlk.staysK {G : Nat} {k c0 : Array Value} {b : Value} : ∀ v W W', isBlk G c0 k 118 v W → RelK G k b W W' → isBlk G c0 k 118 v W' := fun _ _ _ ⟨B, h1, h2, h3⟩ hr => by
 refine ⟨B, h1, h2, ?_⟩
 rcases h3 with h | h
 · exact hr.kind B _ h
 · exact .inr ((hr.kind B _ h).elim id id)
theorem isBlk.staysB {G : Nat} {k c0 : Array Value} {b : Value} : ∀ v W W', isBlk G c0 #[b] 4 v W → RelK G k b W W' → isBlk G c0 #[b] 4 v W' := fun _ _ _ ⟨B, h1, h2, h3⟩ hr => by
 refine ⟨B, h1, h2, ?_⟩
 rcases h3 with h | h
 · exact hr.bool B _ h
 · exact .inr ((hr.bool B _ h).elim id id)
def kindW (a : Int) : Value := (kindO a).getD kind0
theorem seven_one (wd : ByteArray) (a b c d e : Bool) (f : Value) (hf : f.oneCell' = true) : (#[.string wd, .bool a, .bool b, .bool c, .bool d, .bool e, f] : Array Value).all (·.oneCell') = true := by
 rw [← Array.all_toList]
 simp only [List.all_cons, List.all_nil, Bool.and_true, hf]
 rfl
theorem kindW_form (a : Int) : ∃ wd f, kindW a = .agg #[.string wd, .bool (kEntry a), .bool (kKind a), .bool (kMove a), .bool (kSized a), .bool (kData a), f] ∧ (#[.string wd, .bool (kEntry a), .bool (kKind a), .bool (kMove a), .bool (kSized a), .bool (kData a), f] : Array Value).all (·.oneCell') = true := by
 unfold kindW kindO
 by_cases h7 : a = 7
 · subst h7; exact ⟨_, _, rfl, seven_one _ _ _ _ _ _ _ rfl⟩
 by_cases h6 : a = 6
 · subst h6; exact ⟨_, _, rfl, seven_one _ _ _ _ _ _ _ rfl⟩
 by_cases h5 : a = 5
 · subst h5; exact ⟨_, _, rfl, seven_one _ _ _ _ _ _ _ rfl⟩
 by_cases h4 : a = 4
 · subst h4; exact ⟨_, _, rfl, seven_one _ _ _ _ _ _ _ rfl⟩
 by_cases h3 : a = 3
 · subst h3; exact ⟨_, _, rfl, seven_one _ _ _ _ _ _ _ rfl⟩
 by_cases h2 : a = 2
 · subst h2; exact ⟨_, _, rfl, seven_one _ _ _ _ _ _ _ rfl⟩
 by_cases h1 : a = 1
 · subst h1; exact ⟨_, _, rfl, seven_one _ _ _ _ _ _ _ rfl⟩
 rw [if_neg h7, if_neg h6, if_neg h5, if_neg h4, if_neg h3, if_neg h2, if_neg h1]
 have e1 : kEntry a = false := by simp [kEntry]; omega
 have e2 : kKind a = false := by simp [kKind]; omega
 have e3 : kMove a = false := by simp [kMove]; omega
 have e4 : kSized a = false := by simp [kSized]; omega
 have e5 : kData a = false := by simp [kData]; omega
 rw [e1, e2, e3, e4, e5]
 exact ⟨_, _, rfl, seven_one _ _ _ _ _ _ _ rfl⟩
theorem zeroK (w : World) : (zeroValue 118).run Tryz.prog w = .ok kind0 w := by kernel_rfl
theorem infoK : (Tryz.prog.info? 118).map (·.size) = some 7 := by kernel_rfl
theorem kindO_isSome (a : Int) : (kindO a).isSome = decide (1 ≤ a ∧ a ≤ 7) := by
 unfold kindO
 by_cases h7 : a = 7
 · simp [h7]
 by_cases h6 : a = 6
 · simp [h6]
 by_cases h5 : a = 5
 · simp [h5]
 by_cases h4 : a = 4
 · simp [h4]
 by_cases h3 : a = 3
 · simp [h3]
 by_cases h2 : a = 2
 · simp [h2]
 by_cases h1 : a = 1
 · simp [h1]
 rw [if_neg h7, if_neg h6, if_neg h5, if_neg h4, if_neg h3, if_neg h2, if_neg h1]
 symm
 simp
 omega
end Go.Proofs.YtogljgiefmfafaaGreat
