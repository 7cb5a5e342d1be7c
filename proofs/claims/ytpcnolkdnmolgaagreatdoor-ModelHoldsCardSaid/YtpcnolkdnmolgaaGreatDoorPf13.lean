/- A region that draws its order: what an operation has brought may be told beside those that it waited for. -/
import Derived.Test.YtpcnolkdnmolgaaGreatDoorPf02
import Derived.Test.YtpcnolkdnmolgaaGreatDoorPf08
import Derived.Test.YtpcnolkdnmolgaaGreatDoorPf12
import Derived.Shelf.SlMaps.Clone
namespace Go.Proofs.YtpcnolkdnmolgaaGreatDoor
section
open Go.RowKit
section
variable {Q : Exit → Act → World → Prop}
def OpDoes2 (ops : Array Oper) (a0 : Act) (w0 : World) (Φ : Nat → (Nat → Value) → Value → World → Prop) (Q : Exit → Act → World → Prop) (i : Nat) (o : Oper) : Prop :=
 o.guard = none ∧ ∀ a W, Below w0.heap.size w0 W → (∀ k, (ops.toList.all fun o => o.dst != some k) = true → a.eval (.tmp k) = slot a0 k) →
  (∀ e ∈ o.after, Region.binds .any e = true → ∀ oe d, ops[e.on]? = some oe → oe.dst = some d → Φ e.on (slot a) (a.eval (.tmp d)) W) →
  ∀ K : Act → World → Prop, (∀ v W', Below W.heap.size W W' → Φ i (slot a) v W' → K (a.put o.dst v) W') → o.wp Tryz.prog a W K Q
theorem wp_region_front2 {ops : Array Oper} {id : Nat} {a0 : Act} {w0 : World} (m : Nat) (Φ : Nat → (Nat → Value) → Value → World → Prop)
  (hm : Tryz.prog.follows .mixedOrders = true) (hok : regionOk ops a0.tmps.size = true) (hfr : frontOk ops m = true)
  (hmono : ∀ i f v W W', Φ i f v W → Below W.heap.size W W' → Φ i f v W')
  (hloc : ∀ i o, ops[i]? = some o → ∀ f g v W, (∀ e ∈ o.after, Region.binds .any e = true → ∀ oe d, ops[e.on]? = some oe → oe.dst = some d → f d = g d) → Φ i f v W → Φ i g v W)
  (hops : AllOps (OpDoes2 ops a0 w0 Φ Q) 0 (ops.toList.take m))
  (hend : ∀ (vs : Nat → Value) W (f : Nat → Value), Below w0.heap.size w0 W → (∀ i, i < m → (ops[i]?.bind (·.dst)).isSome = true → Φ i f (vs i) W) → (∀ j d, (ops[j]?.bind (·.dst)) = some d → f d = vs j) → wpAny Tryz.prog .any ops Q (ops.size - m) (frontL m ops.size) (putAll (ops.toList.take m) 0 vs a0) W) :
  (Code.region id ops true).wp Tryz.prog Q a0 w0 := by
 obtain ⟨fm, f1, f2⟩ := frontOk_spec hfr
 let Inv : Array Bool → Act → World → Prop := fun listed a W => Below w0.heap.size w0 W ∧ a.defers = a0.defers ∧ a.tmps.size = a0.tmps.size ∧
  (∀ k, (∀ j o, ops[j]? = some o → o.dst = some k → listed.getD j false = false) → slot a k = slot a0 k) ∧
  (∀ i o d, ops[i]? = some o → listed.getD i false = true → o.dst = some d → Φ i (slot a) (slot a d) W) ∧ listed.size = ops.size ∧
  (∀ j, m ≤ j → listed.getD j false = false) ∧ (∀ i o, ops[i]? = some o → listed.getD i false = true → ∀ e ∈ o.after, Region.binds .any e = true → listed.getD e.on false = true)
 have getD_set : ∀ (listed : Array Bool) (i j : Nat), i < listed.size → (listed.setIfInBounds i true).getD j false = if j = i then true else listed.getD j false := fun listed i j hi => by
  by_cases hji : j = i
  · subst hji; simp [Array.getD, hi]
  · rw [if_neg hji, Array.getD_eq_getD_getElem?, Array.getD_eq_getD_getElem?, Array.getElem?_setIfInBounds_ne (fun e => hji e.symm)]
 have done : ∀ (listed : Array Bool) (a : Act) (W : World), Inv listed a W → (∀ i, i < m → listed.getD i false = true) → ∀ fuel, fuel = unlisted listed → wpAny Tryz.prog .any ops Q fuel listed a W := by
  intro listed a W ⟨hB, hdf, hsz, hoth, hphi, hls, hlate, _⟩ all fuel hfuel
  have hle : listed = frontL m ops.size := by
   refine Array.ext (by simp [frontL, hls]) fun i hi hi' => ?_
   have h2 : listed.getD i false = listed[i] := by simp [Array.getD, hi]
   rw [← h2]
   by_cases him : i < m
   · rw [all i him]; simp [frontL, him]
   · rw [hlate i (by omega)]; simp [frontL, him]
  have hun : unlisted listed = ops.size - m := by
   rw [hle]
   unfold unlisted frontL
   rw [List.toList_toArray, List.countP_map]
   have : ∀ n, List.countP ((fun b => !b) ∘ fun i => decide (i < m)) (List.range n) = n - m := by
    intro n
    induction n with
    | zero => simp
    | succ n ih =>
     rw [List.range_succ, List.countP_append, ih]
     by_cases hnm : n < m
     · simp [hnm]; omega
     · simp [hnm]; omega
   exact this _
  let vs : Nat → Value := fun i => match ops[i]?.bind (·.dst) with | some d => slot a d | none => undef
  have he : putAll (ops.toList.take m) 0 vs a0 = a := by
   obtain ⟨p1, p2⟩ := putAll_size (ops.toList.take m) 0 vs a0
   refine act_ext (p1.trans hsz.symm) (p2.trans hdf.symm) fun k => ?_
   have tk : ∀ j o, (ops.toList.take m)[j]? = some o → j < m ∧ ops[j]? = some o := fun j o h => by
    rw [List.getElem?_take] at h
    split at h
    · exact ⟨by assumption, by simpa using h⟩
    · cases h
   by_cases hk : ∃ j : Nat, ∃ o, j < m ∧ ops[j]? = some o ∧ o.dst = some k
   · obtain ⟨j, o, hjm, hj, hd⟩ := hk
     obtain ⟨_, hin, huniq⟩ := regionOk_spec hok hj
     rw [putAll_dst (ops.toList.take m) 0 vs a0 j o k (by rw [List.getElem?_take, if_pos hjm]; simpa using hj) hd (hin k hd) (fun j' o' h1 h2 => (huniq j' o' k (tk j' o' h1).2 hd h2).symm)]
     simp [vs, hj, hd]
   · rw [putAll_other _ _ _ _ _ (fun o ho e => by
      obtain ⟨j, hj⟩ := List.getElem?_of_mem ho
      obtain ⟨q1, q2⟩ := tk j o hj
      exact hk ⟨j, o, q1, q2, e⟩)]
     exact (hoth k (fun j o hj hd => by
      by_cases hjm : j < m
      · exact absurd ⟨j, o, hjm, hj, hd⟩ hk
      · exact hlate j (by omega))).symm
  have hq := hend vs W (slot a) hB (fun i hi hs => by
   cases ho : ops[i]? with
   | none => simp [ho] at hs
   | some o =>
    cases hd : o.dst with
    | none => simp [ho, hd] at hs
    | some d =>
     have := hphi i o d ho (all i hi) hd
     simpa [vs, ho, hd] using this) (fun j d hd => by simp [vs, hd])
  rw [hfuel, hun, hle, ← he]; exact hq
 have early : ∀ (listed : Array Bool) (a : Act) (W : World), Inv listed a W → (¬ ∀ i, i < m → listed.getD i false = true) → ∀ i ∈ Region.ready .any ops listed, i < m := by
  intro listed a W ⟨_, _, _, _, _, _, hlate, hcl⟩ hnot i hi
  obtain ⟨_, o, ho, haft⟩ := mem_ready.1 hi
  refine Decidable.byContradiction fun him => hnot ?_
  by_cases hie : i = m
  · subst hie
    -- all ahead are listed
    have : ∀ d, ∀ j, j + d = i → j < i → listed.getD j false = true := by
     intro d
     induction d using Nat.strongRecOn with
     | _ d ih =>
      intro j hjd hj
      obtain ⟨k, k1, k2, ok, hok', e, he, e1, e2⟩ := f1 j hj
      by_cases hki : k = i
      · subst hki
        rw [ho] at hok'; cases hok'
        have := haft e he e2
        rwa [e1] at this
      · have hk := ih (i - k) (by omega) k (by omega) (by omega)
        have := hcl k ok hok' hk e he e2
        rwa [e1] at this
    exact fun j hj => this (i - j) j (by omega) hj
  · exfalso
    obtain ⟨e, he, e1, e2⟩ := f2 i o (by omega) ho
    have := haft e he e2
    rw [e1, hlate (i - 1) (by omega)] at this
    cases this
 have main : ∀ (fuel : Nat) (listed : Array Bool) (a : Act) (W : World), fuel = unlisted listed → Inv listed a W → wpAny Tryz.prog .any ops Q fuel listed a W := by
  have step : ∀ (listed : Array Bool) (a : Act) (W : World), Inv listed a W → ∀ i ∈ Region.ready .any ops listed, i < m → ∀ K : Act → World → Prop, (∀ a' W', Inv (listed.setIfInBounds i true) a' W' → K a' W') → wpOp Tryz.prog ops Q i K a W := by
   intro listed a W ⟨hB, hdf, hsz, hoth, hphi, hls, hlate, hcl⟩ i hi him K hK
   obtain ⟨hun, o, ho, haft⟩ := mem_ready.1 hi
   have unl : listed.getD i false = false := by
    have hlt : i < listed.size := by rw [hls]; exact (Array.getElem?_eq_some_iff.1 ho).1
    simpa [Array.getD, hlt] using hun
   have hil : i < ops.size := (Array.getElem?_eq_some_iff.1 ho).1
   obtain ⟨hg, hdo⟩ := hops.get (k := i) (o := o) (by rw [List.getElem?_take, if_pos him]; simpa using ho)
   obtain ⟨hback, hin, huniq⟩ := regionOk_spec hok ho
   unfold wpOp
   rw [ho]
   simp only [Region.wanted, hg, if_true]
   left
   refine hdo a W hB (fun k hk => ?_) (fun e he hb oe d hoe hd => hphi e.on oe d hoe (haft e he hb) hd) K (fun v W' hbW hv => hK _ _ ⟨ptrans hB hbW, (defers_put _ _ _).trans hdf, (size_put _ _ _).trans hsz, fun k hk => ?_, fun j oj d hj hlj hd => ?_, by simpa using hls, fun j hj => ?_, fun j oj hj hlj e he hb => ?_⟩)
   · rw [List.all_eq_true] at hk
     exact hoth k (fun j oj hj hd => by
      have := hk oj (List.mem_of_getElem? (i := j) (by simpa using hj))
      rw [hd] at this; simp at this)
   · have hne : ¬ o.dst = some k := fun e => by
      have := hk i o ho e
      rw [getD_set listed i i (by omega), if_pos rfl] at this
      cases this
     rw [slot_put, if_neg (fun hh => hne hh.1)]
     refine hoth k (fun j oj hj hd => ?_)
     have := hk j oj hj hd
     rw [getD_set listed i j (by omega)] at this
     by_cases hji : j = i
     · subst hji; rw [ho] at hj; cases hj; exact absurd hd hne
     · rwa [if_neg hji] at this
   · rw [getD_set listed i j (by omega)] at hlj
     by_cases hji : j = i
     · subst hji
       rw [ho] at hj; cases hj
       rw [slot_put a, if_pos ⟨hd, by rw [hsz]; exact hin d hd⟩]
       rw [show 0 + j = j by omega] at hv
       refine hloc j o ho _ _ v W' (fun e he hb oe d' hoe hd' => ?_) hv
       have hel := haft e he hb
       have hne : e.on ≠ j := fun e' => by have := (regionOk_spec hok ho).1 e he hb; omega
       rw [slot_put, if_neg (fun hh => hne (huniq e.on oe d' hoe hh.1 hd').symm)]
     · rw [if_neg hji] at hlj
       have hne : ¬ o.dst = some d := fun e => hji (huniq j oj d hj e hd).symm
       rw [slot_put a, if_neg (fun hh => hne hh.1)]
       refine hloc j oj hj _ _ _ W' (fun e he hb oe d' hoe hd' => ?_) (hmono j _ _ W W' (hphi j oj d hj hlj hd) hbW)
       have hel := hcl j oj hj hlj e he hb
       have hei : e.on ≠ i := fun e' => by
        rw [e', ] at hel
        rw [show listed.getD i false = false from unl] at hel
        cases hel
       rw [slot_put, if_neg (fun hh => hei (huniq e.on oe d' hoe hh.1 hd').symm)]
   · rw [getD_set listed i j (by omega), if_neg (by omega)]; exact hlate j hj
   · rw [getD_set listed i j (by omega)] at hlj
     have : listed.getD e.on false = true := by
      by_cases hji : j = i
      · subst hji; rw [ho] at hj; cases hj; exact haft e he hb
      · rw [if_neg hji] at hlj; exact hcl j oj hj hlj e he hb
     rw [getD_set listed i e.on (by omega)]
     split
     · rfl
     · exact this
  intro fuel
  induction fuel with
  | zero =>
   intro listed a W hf hI
   refine done listed a W hI (fun i hi => ?_) 0 hf
   cases hh : listed.getD i false with
   | true => rfl
   | false =>
    exfalso
    have : listed.getD i true = false := by
     have hls := hI.2.2.2.2.2.1
     have : i < listed.size := by omega
     simpa [Array.getD, this] using hh
    have := unlisted_set this
    omega
  | succ fuel ih =>
   intro listed a W hf hI
   by_cases hall : ∀ i, i < m → listed.getD i false = true
   · exact done listed a W hI hall _ hf
   · refine ⟨fun hr => ?_, fun i hi => step listed a W hI i hi (early listed a W hI hall i hi) _ (fun a' W' hI' => ih _ a' W' ?_ hI')⟩
     · exfalso
       refine hall ?_
       intro i
       induction i using Nat.strongRecOn with
       | _ i ihi =>
        intro hi
        cases hl : listed.getD i false with
        | true => rfl
        | false =>
         exfalso
         have hls := hI.2.2.2.2.2.1
         have hio : i < ops.size := by omega
         have : i ∈ Region.ready .any ops listed := mem_ready.2 ⟨by rw [← hl]; simp [Array.getD, hls, hio], ops[i], Array.getElem?_eq_getElem hio, fun e he hbd => by
          have := (regionOk_spec hok (Array.getElem?_eq_getElem hio)).1 e he hbd
          exact ihi e.on this (by omega)⟩
         rw [hr] at this
         cases this
     · have := unlisted_set (mem_ready.1 hi).1
       omega
 refine wp_region_any hm (main _ _ _ _ ?_ ?_)
 · unfold unlisted
   rw [Array.toList_replicate, List.countP_replicate]
   simp
 · refine ⟨⟨rfl, rfl, rfl, Nat.le_refl _, fun _ _ => rfl⟩, rfl, rfl, fun _ _ => rfl, fun i o d ho hl _ => ?_, by simp, fun j _ => ?_, fun i o ho hl => ?_⟩
   · have hil : i < ops.size := (Array.getElem?_eq_some_iff.1 ho).1
     simp [Array.getD, hil] at hl
   · simp [Array.getD]
   · simp [Array.getD] at hl
theorem op_mk2 {ops : Array Oper} {a0 : Act} {w0 : World} {Φ : Nat → (Nat → Value) → Value → World → Prop} {Q : Exit → Act → World → Prop} {i : Nat} {o : Oper} (hg : o.guard = none)
  (h : ∀ a W, Below w0.heap.size w0 W → (∀ k, (ops.toList.all fun o => o.dst != some k) = true → a.tmps[k]?.getD undef = slot a0 k) →
   (∀ j d, (o.after.toList.any fun e => e.on == j && Region.binds .any e) = true → (ops[j]?.bind (·.dst)) = some d → Φ j (slot a) (a.tmps[d]?.getD undef) W) →
   ∀ K : Act → World → Prop, (∀ v W', Below W.heap.size W W' → Φ i (slot a) v W' → K (a.put o.dst v) W') → o.wp Tryz.prog a W K Q) : OpDoes2 ops a0 w0 Φ Q i o := by
 refine ⟨hg, fun a W h1 h2 h3 K hK => h a W h1 (fun k hk => (eval_slot a k).symm.trans (h2 k hk)) (fun j d hj hd => ?_) K hK⟩
 rw [List.any_eq_true] at hj
 obtain ⟨e, he, hb⟩ := hj
 simp only [Bool.and_eq_true, beq_iff_eq] at hb
 obtain ⟨rfl, hb⟩ := hb
 cases ho : ops[e.on]? with
 | none => simp [ho] at hd
 | some oe => rw [← eval_slot]; exact h3 e (by simpa using he) hb oe d ho (by simpa [ho] using hd)
end
end
section
open Go.RowKit Go.Maps
section
variable {P' : Program} {k t' e : TypeId} {w : World} {b n : Nat} {m : Lit → Option Value}
theorem MapAt.cloned (h : MapAt w P' k b n m) : ∃ es clock, w.heap[b]? = some (.map es clock) ∧ MapAt (w.alloc (.map es clock)) P' k w.heap.size n m := by
 obtain ⟨D, hD, hm⟩ := h
 obtain ⟨es, clock, hb, F, hs, hD'⟩ := hD
 exact ⟨es, clock, hb, D, ⟨es, clock, (MapKept.heap_alloc w _).1, F, hs, hD'⟩, hm⟩
end
theorem TreeM.addN {N' : Nat} {w w1 w2 : World} {F : Nat → Prop} {P N : Nat} {y : Lay} {t : PT} (h : TreeM w F P N y t) (hNN : N ≤ N') {i : Int} (hi : 1 ≤ i ∧ i ≤ 4294967295) {Q L G : Nat} {x : PN} (hb1 : Below w.heap.size w w1)
  (hn : NodeM w1 Q L G N' x) (hQ : w.heap.size ≤ Q) (hL : w.heap.size ≤ L) (hG : w.heap.size ≤ G) (hLG : L ≠ G)
  (hM : MapAt w2 Tryz.prog 29 y.M (N') (updM (nodesM t.n y.f) (.int .u32 i) (.pointer (some ⟨Q, 0, none⟩)))) (ht : w1.mapTurned w2 y.M) :
  TreeM w2 (addF F Q L G) P (N') (y.add i Q L G) (t.set i x) ∧ Turn w w2 F (addF F Q L G) := by
 have hg := ht.grown
 have hs := hb1.size
 have hMlt := h.nodes.lt
 have hn1 : Q < w1.heap.size := hn.ltQ
 have hn2 : L < w1.heap.size := hn.ents.lt
 have hn3 : G < w1.heap.size := hn.pages.lt
 have keep : ∀ b, b < w1.heap.size → b ≠ y.M → w2.heap[b]? = w1.heap[b]? := fun b hb hne => hg.block b hb (fun e => hne (by injection e))
 have keep0 : ∀ b, F b → b ≠ y.M → w2.heap[b]? = w.heap[b]? := fun b hb hne => (keep b (Nat.lt_of_lt_of_le (h.lt b hb) hs) hne).trans (hb1.block b (h.lt b hb))
 have hPM : P ≠ y.M := fun e => by
  obtain ⟨es, c, h1⟩ := h.nodes.isMap
  rw [← e, h.head] at h1; cases h1
 have newb : ∀ b, F b → ¬ (b = Q ∨ b = L ∨ b = G) := fun b hb e => by
  have := h.lt b hb
  rcases e with e | e | e <;> omega
 refine ⟨{ head := (keep0 P h.fP hPM).trans h.head, nodes := ?_, node := ?_, pos := ?_, own := ?_, ownM := ?_, ownP := ?_, fP := .inl h.fP, fM := .inl h.fM, foot := ?_, lt := ?_ }, ?_⟩
 · refine hM.congr fun kl _ => ?_
   cases kl with
   | int q a =>
    cases q <;> try (unfold updM; simp [nodesM, Lit.sameKey]; done)
    show updM _ _ _ _ = ((t.set i x).n a).map _
    unfold updM PT.set Lay.add
    by_cases ha : a = i
    · subst ha; simp [Lit.sameKey]
    · simp [Lit.sameKey, ha, nodesM]
   | _ => unfold updM; simp [nodesM, Lit.sameKey]
 · intro j z hz
   rw [PT.set_n] at hz
   by_cases hj : j = i
   · subst hj
     rw [if_pos rfl] at hz; cases hz
     simp only [Lay.add, if_pos]
     exact (hn).same (keep _ hn1 (by omega)) (keep _ hn2 (by omega)) (keep _ hn3 (by omega))
   · rw [if_neg hj] at hz
     simp only [Lay.add, if_neg hj]
     obtain ⟨p1, p2, p3, _⟩ := h.own j z hz
     obtain ⟨f1, f2, f3⟩ := h.foot j z hz
     have hp := h.pos j z hz
     have ne : ∀ b, y.own b = j → b ≠ y.M := fun b hb e => by rw [e, h.ownM] at hb; omega
     exact ((h.node j z hz).mono hNN).same (keep0 _ f1 (ne _ p1)) (keep0 _ f2 (ne _ p2)) (keep0 _ f3 (ne _ p3))
 · intro j z hz
   rw [PT.set_n] at hz
   by_cases hj : j = i
   · rw [hj]; exact hi
   · rw [if_neg hj] at hz; exact h.pos j z hz
 · intro j z hz
   rw [PT.set_n] at hz
   by_cases hj : j = i
   · subst hj
     simp only [Lay.add, if_pos]
     exact ⟨by simp, by simp, by simp, hLG⟩
   · rw [if_neg hj] at hz
     obtain ⟨p1, p2, p3, p4⟩ := h.own j z hz
     obtain ⟨f1, f2, f3⟩ := h.foot j z hz
     simp only [Lay.add, if_neg hj]
     exact ⟨by rw [if_neg (newb _ f1)]; exact p1, by rw [if_neg (newb _ f2)]; exact p2, by rw [if_neg (newb _ f3)]; exact p3, p4⟩
 · simp only [Lay.add]; rw [if_neg (newb _ h.fM)]; exact h.ownM
 · simp only [Lay.add]; rw [if_neg (newb _ h.fP)]; exact h.ownP
 · intro j z hz
   rw [PT.set_n] at hz
   by_cases hj : j = i
   · subst hj
     simp only [Lay.add, if_pos]
     exact ⟨.inr (.inl rfl), .inr (.inr (.inl rfl)), .inr (.inr (.inr rfl))⟩
   · rw [if_neg hj] at hz
     obtain ⟨f1, f2, f3⟩ := h.foot j z hz
     simp only [Lay.add, if_neg hj]
     exact ⟨.inl f1, .inl f2, .inl f3⟩
 · intro b hb
   rcases hb with hb | hb | hb | hb
   · exact Nat.lt_of_lt_of_le (h.lt b hb) (Nat.le_trans hs hg.size)
   · exact Nat.lt_of_lt_of_le (by omega) hg.size
   · exact Nat.lt_of_lt_of_le (by omega) hg.size
   · exact Nat.lt_of_lt_of_le (by omega) hg.size
 · refine ⟨hg.os.trans hb1.os, hg.tape.trans hb1.tape, hg.output.trans hb1.output, Nat.le_trans hs hg.size, fun b hb hF => ?_, fun b hb => ?_⟩
   · exact (keep b (Nat.lt_of_lt_of_le hb hs) (fun e => hF (by rw [e]; exact h.fM))).trans (hb1.block b hb)
   · rcases hb with hb | hb | hb | hb
     · exact .inl hb
     · exact .inr (by omega)
     · exact .inr (by omega)
     · exact .inr (by omega)
set_option maxRecDepth 100000 in
set_option maxHeartbeats 2000000 in
theorem m_cloneE (b : Nat) (es : Array MapEntry) (clock : Nat) (w : World) (hb : w.heap[b]? = some (.map es clock)) :
  Calls Tryz.prog 65 #[.map (some b)] w fun e w' => e = .returned (.map (some w.heap.size)) ∧ w' = w.alloc (.map es clock) := by
 have hq := fun w => run_eql_map_nil_sl (P := Tryz.prog) w 112 _ _ (some b) Tryz.underlying112
 go_enter Tryz.func65, Tryz.ntmps65
 go_wp2
 rw [run_callFunc_extern Tryz.func101 (by kernel_rfl) (by kernel_rfl) (by kernel_rfl) (e := Extern.MapsClone.clone) (by kernel_rfl), run_maps_clone_sl w 112 hb]
 simp only [Result.andThen]
 rw [Oper.upon_value]
 go_wp2
 rw [run_typeAssert_map_sl _ 112 20 _ _ _ Tryz.underlying112]
 simp only [Result.andThen]
 rw [Oper.upon_value]
 go_wp2
 go_ret
 exact ⟨rfl, rfl⟩
set_option maxRecDepth 100000 in
set_option maxHeartbeats 2000000 in
theorem m_cloneP (b : Nat) (es : Array MapEntry) (clock : Nat) (w : World) (hb : w.heap[b]? = some (.map es clock)) :
  Calls Tryz.prog 66 #[.map (some b)] w fun e w' => e = .returned (.map (some w.heap.size)) ∧ w' = w.alloc (.map es clock) := by
 have hq := fun w => run_eql_map_nil_sl (P := Tryz.prog) w 113 _ _ (some b) Tryz.underlying113
 go_enter Tryz.func66, Tryz.ntmps66
 go_wp2
 rw [run_callFunc_extern Tryz.func101 (by kernel_rfl) (by kernel_rfl) (by kernel_rfl) (e := Extern.MapsClone.clone) (by kernel_rfl), run_maps_clone_sl w 113 hb]
 simp only [Result.andThen]
 rw [Oper.upon_value]
 go_wp2
 rw [run_typeAssert_map_sl _ 113 20 _ _ _ Tryz.underlying113]
 simp only [Result.andThen]
 rw [Oper.upon_value]
 go_wp2
 go_ret
 exact ⟨rfl, rfl⟩
theorem wpList_next_N {ops : Array Oper} {rest : List Oper} {o : Oper} {a : Act} {w : World} {Q : Exit → Act → World → Prop} {b r n cnt : Nat} {l : Int → Option PN} {f : Int → Nat} {left : Lit → Bool} (hg : o.guard = none) (it : Operand) (hop : o.op = Op.next it false)
  (hit : a.eval it = .pointer (some ⟨r, 0, none⟩)) (h : RangeAt w Tryz.prog 29 b r n (nodesM l f) left cnt)
  (hDone : (∀ kl, left kl = false) → wpList Tryz.prog ops Q rest (a.put o.dst (.tuple #[.bool false])) w)
  (hMore : ∀ (i : Int) (x : PN) (w' : World) (cnt' : Nat), left (.int .u32 i) = true → l i = some x → RangeAt w' Tryz.prog 29 b r n (nodesM l f) (fun x => left x && !x.sameKey (.int .u32 i)) cnt' → cnt' < cnt → w.grownBy w' (some r) → w'.heap.size = w.heap.size →
   (Instr.entry (.pointer (some ⟨r, 0, none⟩))).run Tryz.prog w' = .ok (.tuple #[.int .u32 i, .pointer (some ⟨f i, 0, none⟩)]) w' → wpList Tryz.prog ops Q rest (a.put o.dst (.tuple #[.bool true, .int .u32 i, .pointer (some ⟨f i, 0, none⟩)])) w') :
  wpList Tryz.prog ops Q (o :: rest) a w := by
 refine wpList_plain hg fun K' hK' => ?_
 unfold Oper.wp
 rcases h.next law32 o.type with ⟨h0, hl, hrun⟩ | ⟨key, v, kl, w', cnt', hkey, hlk, hv, hrun, hrg, hlt, hgr, hsz, hen⟩
 · simp [execOp, hop, hit, hrun, Result.andThen]
   exact hK' _ _ (hDone hl)
 · obtain ⟨i, rfl, rfl⟩ := keyOf_u32 hkey
   obtain ⟨x, hx, rfl⟩ : ∃ x, l i = some x ∧ v = .pointer (some ⟨f i, 0, none⟩) := by
    unfold nodesM at hv
    simp only [Option.map_eq_some_iff] at hv
    obtain ⟨x, h1, h2⟩ := hv
    exact ⟨x, h1, h2.symm⟩
   simp [execOp, hop, hit, hrun, Result.andThen]
   exact hK' _ _ (hMore i x w' cnt' hlk hx hrg hlt hgr hsz hen)
theorem updM_nodes (t : PT) (y : Lay) (i : Int) (x : PN) (Q L G : Nat) : ∀ kl, WideAt.IsKeyLit kl → updM (nodesM t.n y.f) (.int .u32 i) (.pointer (some ⟨Q, 0, none⟩)) kl = nodesM (t.set i x).n (y.add i Q L G).f kl := fun kl _ => by
 cases kl with
 | int q a =>
  cases q <;> try (unfold updM; simp [nodesM, Lit.sameKey]; done)
  show updM _ _ _ _ = ((t.set i x).n a).map _
  unfold updM PT.set Lay.add
  by_cases ha : a = i
  · subst ha; simp [Lit.sameKey]
  · simp [Lit.sameKey, ha, nodesM]
 | _ => unfold updM; simp [nodesM, Lit.sameKey]
def isMapE (B N : Nat) (x : PN) : Ph := fun v W => ∃ Q, v = .map (some Q) ∧ B ≤ Q ∧ MapAt W Tryz.prog 9 Q N (entsM x.l)
def isMapG (B N : Nat) (x : PN) : Ph := fun v W => ∃ Q, v = .map (some Q) ∧ B ≤ Q ∧ MapAt W Tryz.prog 3 Q N (pagesM x.pages)
theorem stays_MapE (B N : Nat) (x : PN) : StaysP (isMapE B N x) := fun _ _ _ ⟨Q, h1, h2, h3⟩ hb => ⟨Q, h1, h2, h3.same (hb.block _ h3.lt)⟩
theorem stays_MapG (B N : Nat) (x : PN) : StaysP (isMapG B N x) := fun _ _ _ ⟨Q, h1, h2, h3⟩ hb => ⟨Q, h1, h2, h3.same (hb.block _ h3.lt)⟩
def copyPhi (l : List Ph) (i : Nat) (f : Nat → Value) (v : Value) (W : World) : Prop := phi l i v W ∧ (i = 9 → ∀ Q Q', v = .map (some Q) → f 33 = .map (some Q') → Q' < Q)
def restr (t : PT) (left : Lit → Bool) : PT := ⟨t.room, fun i => if left (.int .u32 i) = true then none else t.n i⟩
theorem restr_step {t : PT} {left : Lit → Bool} {i : Int} {x : PN} (hx : t.n i = some x) : restr t (fun z => left z && !z.sameKey (.int .u32 i)) = (restr t left).set i x := by
 unfold restr PT.set
 congr 1
 funext j
 by_cases e : j = i
 · subst e
   simp [Lit.sameKey, hx]
 · simp [e, Lit.sameKey]
theorem restr_done (t : PT) : restr t (fun _ => false) = t := by
 unfold restr
 simp
theorem restr_none {t : PT} {left : Lit → Bool} (h : ∀ i, left (.int .u32 i) = (t.n i).isSome) : restr t left = ⟨t.room, fun _ => none⟩ := by
 unfold restr
 congr 1
 funext i
 rw [h i]
 cases t.n i <;> simp
def CopyAt (w : World) (t : PT) (M : Nat) (f : Int → Nat) (RB P' N : Nat) (wr : World) : Prop :=
 ∃ (left : Lit → Bool) (cnt k : Nat) (y' : Lay) (F' : Nat → Prop), RangeAt wr Tryz.prog 29 M RB N (nodesM t.n f) left cnt ∧ k + cnt ≤ N ∧ MapAt wr Tryz.prog 29 y'.M k (nodesM (restr t left).n y'.f) ∧
  TreeM wr F' P' N y' (restr t left) ∧ (∀ b, F' b → w.heap.size ≤ b ∧ b ≠ RB) ∧ Below w.heap.size w wr ∧ RB < wr.heap.size ∧ w.heap.size ≤ RB
def CopyP (N : Nat) (t : PT) (w : World) (e : Ending) (w' : World) : Prop :=
 ∃ P' y' F', e = .returned (.pointer (some ⟨P', 0, none⟩)) ∧ TreeM w' F' P' N y' t ∧ (∀ b, F' b → w.heap.size ≤ b) ∧ Below w.heap.size w w'
section
variable {F : Nat → Prop} {P N : Nat} {y : Lay} {t : PT}
set_option maxRecDepth 100000 in
set_option maxHeartbeats 4000000 in
theorem t_copyP (w : World) (h : TreeM w F P N y t) (hN : N ≤ 60000) : Calls Tryz.prog 41 #[.pointer (some ⟨P, 0, none⟩)] w (CopyP N t w) := by
 have hmm := @run_makeMap Tryz.prog
 have HT := zz h
 have c0 := h.c0
 have c1 := h.c1
 have HN := zz hN
 have hB0 : Below w.heap.size w ((w.alloc (.map #[] 0)).alloc (.cells #[.int .u32 t.room, .map (some w.heap.size)] 109)) := ((Below.refl _ _).alloc (Nat.le_refl _) _).alloc (by simp) _
 have hsz0 : ((w.alloc (.map #[] 0)).alloc (.cells #[.int .u32 t.room, .map (some w.heap.size)] 109)).heap.size = w.heap.size + 2 := by simp
 have hT0 : TreeM ((w.alloc (.map #[] 0)).alloc (.cells #[.int .u32 t.room, .map (some w.heap.size)] 109)) (fun b => b = w.heap.size ∨ b = w.heap.size + 1) (w.heap.size + 1) 0 ⟨w.heap.size, fun _ => 0, fun _ => 0, fun _ => 0, fun _ => 0⟩ ⟨t.room, fun _ => none⟩ := by
  have e1 : (w.alloc (.map #[] 0)).heap.size = w.heap.size + 1 := by simp
  refine { head := ?_, nodes := ?_, node := fun _ _ h => (by cases h), pos := fun _ _ h => (by cases h), own := fun _ _ h => (by cases h), ownM := rfl, ownP := rfl, fP := .inr rfl, fM := .inl rfl, foot := fun _ _ h => (by cases h), lt := fun b hb => by rw [hsz0]; rcases hb with h | h <;> omega }
  · have := heap_alloc_new (w.alloc (.map #[] 0)) (.cells #[.int .u32 t.room, .map (some w.heap.size)] 109)
    rw [e1] at this
    exact this
  · refine ((MapAt.made w Tryz.prog 29).same (Below.heap_alloc _ _ _ (by rw [e1]; exact Nat.lt_succ_self _))).congr fun kl _ => ?_
    cases kl with
    | int q a => cases q <;> rfl
    | _ => rfl
 have c1' := (h.below hB0).c1
 obtain ⟨w5, lft, ct, hrng, hRg, hct, hlf, hb5, hs5⟩ := (h.nodes.below hB0).range' law32 Tryz.underlying106
 have hS5 : w5.heap.size = w.heap.size + 3 := by rw [hs5, hsz0]
 rw [hsz0] at hRg hrng
 have hst : Hid (CopyAt w t y.M y.f (w.heap.size + 2) (w.heap.size + 1) N w5) := by
  have e : restr t lft = ⟨t.room, fun _ => none⟩ := restr_none fun i => by
   rw [hlf (.int .u32 i) trivial]
   simp [nodesM]
  refine ⟨lft, ct, 0, ⟨w.heap.size, fun _ => 0, fun _ => 0, fun _ => 0, fun _ => 0⟩, (fun b => b = w.heap.size ∨ b = w.heap.size + 1), hRg, by omega, ?_, ?_, ?_, ptrans hB0 hb5, by omega, by omega⟩
  · rw [e]; exact (hT0.below hb5).nodes
  · rw [e]; exact (hT0.below hb5).mono (Nat.zero_le _)
  · rintro b (hb | hb) <;> omega
 clear h hN hT0 hB0 hsz0 hRg hct hlf hb5 hs5
 go_enter Tryz.func41, Tryz.ntmps41
 go_wp2
 go_loopw [] (fun wr => CopyAt w t y.M y.f (w.heap.size + 2) (w.heap.size + 1) N wr) (fun wr => wr.rangeLeft y.M (w.heap.size + 2))
 case atStart => exact hst.out
 case round =>
  obtain ⟨left, cnt, k, y', F', hrg, hkc, hMk, hTk, hFk, hbl, hr1, hr2⟩ := hrel
  have HTK := zz hTk
  have HMK := zz hMk
  have HFK := zz hFk
  have HBL := zz hbl
  clear hTk hMk hFk hbl
  go_wp2_with (at_next; refine wpList_next_N rfl _ rfl rfl hrg ?_ ?_)
  · intro hdone
    have hdone' : left = fun _ => false := funext hdone
    subst hdone'
    go_wp2
    go_ret
    have := HTK.out
    rw [restr_done] at this
    exact ⟨_, _, _, rfl, this, fun b hb => (HFK.out b hb).1, HBL.out⟩
  · intro i x w6 cnt6 hlk hx hrg6 hlt6 hg6 hs6 hen
    have hB6 := below_grown HBL.out hg6 hr2
    have hT6 := HT.out.below hB6
    have n := hT6.node i x hx
    have n0 := n.cell 0
    have n1 := n.cell 1
    have n2 := n.cell 2
    have n3 := n.cell 3
    have n4 := n.cell 4
    have n5 := n.cell 5
    have n6 := n.cell 6
    simp at n0 n1 n2 n3 n4 n5 n6
    have HX := zz hx
    have HRG := zz hrg6
    have HLT : Hid (cnt6 < wr.rangeLeft y.M (w.heap.size + 2)) := by rw [hrg.left_eq]; exact hlt6
    have HL6 : Hid (cnt6 < cnt) := hlt6
    have HLK := zz hlk
    have HG6 := zz hg6
    have HS6 := zz hs6
    have HB6 := zz hB6
    clear n hT6 hB6 hrg6 hlt6 hlk hg6 hs6 hx c0 c1 c1' hrng hst hmm hS5
    go_wp2
    obtain ⟨w7, hw7⟩ : ∃ w7, w6.alloc (.cells #[.int .u8 x.kind, .int .i64 x.links, .int .u32 x.size, .map (some (y.L i)), .map (some (y.G i)), .int .i64 x.held, .int .u32 x.up] 115) = w7 := ⟨_, rfl⟩
    have hB7 : Below w6.heap.size w6 w7 := by rw [← hw7]; exact u_alloc1 w6 _
    have hQ7 : w7.heap[w6.heap.size]? = some (.cells #[.int .u8 x.kind, .int .i64 x.links, .int .u32 x.size, .map (some (y.L i)), .map (some (y.G i)), .int .i64 x.held, .int .u32 x.up] 115 (0, 0)) := by rw [← hw7]; exact heap_alloc_new _ _
    have hS7 : w7.heap.size = w6.heap.size + 1 := by rw [← hw7]; simp
    rw [hw7]
    have HT7 := zz ((HT.out.below HB6.out).below hB7)
    have HB7 := zz hB7
    have HQ7 := zz hQ7
    clear hw7 hB7 hQ7 n0 n1 n2 n3 n4 n5 n6
    refine wp_region_front2 10 (copyPhi [isV (.pointer (some ⟨y.f i, 0, none⟩)), isV (.pointer (some ⟨y.f i, 0, none⟩)), isV (.pointer (some ⟨y.f i, 3, none⟩)), isV (.map (some (y.L i))), isMapE w7.heap.size N x, isV (.pointer (some ⟨y.f i, 0, none⟩)), isV (.pointer (some ⟨y.f i, 0, none⟩)), isV (.pointer (some ⟨y.f i, 4, none⟩)), isV (.map (some (y.G i))), isMapG w7.heap.size N x]) (by kernel_rfl) (by kernel_rfl) (by kernel_rfl) ?_ ?_ ?_ ?_
    · intro i f v W W' h hb
      refine ⟨stays_phi ?_ i v W W' h.1 hb, h.2⟩
      simp only [List.forall_mem_cons]
      exact ⟨stays_V _, stays_V _, stays_V _, stays_V _, stays_MapE _ _ _, stays_V _, stays_V _, stays_V _, stays_V _, stays_MapG _ _ _, fun _ h => absurd h (by simp)⟩
    · intro j o ho f g v W he hh
      refine ⟨hh.1, fun h9 Q Q' hv hg => hh.2 h9 Q Q' hv ?_⟩
      subst h9
      simp only [List.getElem?_toArray, List.getElem?_cons_succ, List.getElem?_cons_zero, Option.some.injEq] at ho
      subst ho
      rw [he ⟨4, .chain⟩ (by simp) (by kernel_rfl) _ 33 rfl rfl]
      exact hg
    · refine ⟨?_, ?_, ?_, ?_, ?_, ?_, ?_, ?_, ?_, ?_, trivial⟩
      · refine op_mk2 rfl fun a W hB hp hq K hK => ?_
        have e5 : a.tmps[5]?.getD undef = .pointer (some ⟨y.f i, 0, none⟩) := hp 5 (by kernel_rfl)
        clear hp hq
        go_simp
        exact hK _ _ (Below.refl _ _) ⟨rfl, fun h => absurd h (by decide)⟩
      · refine op_mk2 rfl fun a W hB hp hq K hK => ?_
        have e29 : a.tmps[29]?.getD undef = .pointer (some ⟨y.f i, 0, none⟩) := (hq 0 29 (by kernel_rfl) (by kernel_rfl)).1
        clear hp hq
        go_simp
        exact hK _ _ (Below.refl _ _) ⟨rfl, fun h => absurd h (by decide)⟩
      · refine op_mk2 rfl fun a W hB hp hq K hK => ?_
        have e30 : a.tmps[30]?.getD undef = .pointer (some ⟨y.f i, 0, none⟩) := (hq 1 30 (by kernel_rfl) (by kernel_rfl)).1
        clear hp hq
        go_simp
        exact hK _ _ (Below.refl _ _) ⟨rfl, fun h => absurd h (by decide)⟩
      · refine op_mk2 rfl fun a W hB hp hq K hK => ?_
        have e31 : a.tmps[31]?.getD undef = .pointer (some ⟨y.f i, 3, none⟩) := (hq 2 31 (by kernel_rfl) (by kernel_rfl)).1
        have cc : W.cell? ⟨y.f i, 3, none⟩ = some (.map (some (y.L i))) := ((HT7.out.below hB).node i x HX.out).cell 3
        clear hp hq
        go_simp
        exact hK _ _ (Below.refl _ _) ⟨rfl, fun h => absurd h (by decide)⟩
      · refine op_mk2 rfl fun a W hB hp hq K hK => ?_
        have e32 : a.tmps[32]?.getD undef = .map (some (y.L i)) := (hq 3 32 (by kernel_rfl) (by kernel_rfl)).1
        obtain ⟨es, ck, hb1, hm1⟩ := ((HT7.out.below hB).node i x HX.out).ents.cloned
        have hsz := hB.size
        clear hp hq hB
        go_simp
        refine (m_cloneE _ es ck W hb1).mono ?_
        rintro e w' ⟨rfl, rfl⟩
        exact hK _ _ (u_alloc1 W _) ⟨⟨_, rfl, hsz, hm1⟩, fun h => absurd h (by decide)⟩
      · refine op_mk2 rfl fun a W hB hp hq K hK => ?_
        have e5 : a.tmps[5]?.getD undef = .pointer (some ⟨y.f i, 0, none⟩) := hp 5 (by kernel_rfl)
        clear hp hq
        go_simp
        exact hK _ _ (Below.refl _ _) ⟨rfl, fun h => absurd h (by decide)⟩
      · refine op_mk2 rfl fun a W hB hp hq K hK => ?_
        have e34 : a.tmps[34]?.getD undef = .pointer (some ⟨y.f i, 0, none⟩) := (hq 5 34 (by kernel_rfl) (by kernel_rfl)).1
        clear hp hq
        go_simp
        exact hK _ _ (Below.refl _ _) ⟨rfl, fun h => absurd h (by decide)⟩
      · refine op_mk2 rfl fun a W hB hp hq K hK => ?_
        have e35 : a.tmps[35]?.getD undef = .pointer (some ⟨y.f i, 0, none⟩) := (hq 6 35 (by kernel_rfl) (by kernel_rfl)).1
        clear hp hq
        go_simp
        exact hK _ _ (Below.refl _ _) ⟨rfl, fun h => absurd h (by decide)⟩
      · refine op_mk2 rfl fun a W hB hp hq K hK => ?_
        have e36 : a.tmps[36]?.getD undef = .pointer (some ⟨y.f i, 4, none⟩) := (hq 7 36 (by kernel_rfl) (by kernel_rfl)).1
        have cc : W.cell? ⟨y.f i, 4, none⟩ = some (.map (some (y.G i))) := ((HT7.out.below hB).node i x HX.out).cell 4
        clear hp hq
        go_simp
        exact hK _ _ (Below.refl _ _) ⟨rfl, fun h => absurd h (by decide)⟩
      · refine op_mk2 rfl fun a W hB hp hq K hK => ?_
        have e37 : a.tmps[37]?.getD undef = .map (some (y.G i)) := (hq 8 37 (by kernel_rfl) (by kernel_rfl)).1
        obtain ⟨Q4, e33, hQ4, hM4⟩ : isMapE w7.heap.size N x (a.tmps[33]?.getD undef) W := (hq 4 33 (by kernel_rfl) (by kernel_rfl)).1
        have hl4 := hM4.lt
        have hs33 : slot a 33 = .map (some Q4) := by rw [← e33, ← eval_slot]; rfl
        obtain ⟨es, ck, hb1, hm1⟩ := ((HT7.out.below hB).node i x HX.out).pages.cloned
        have hsz := hB.size
        clear hp hq hB e33
        go_simp
        refine (m_cloneP _ es ck W hb1).mono ?_
        rintro e w' ⟨rfl, rfl⟩
        refine hK _ _ (u_alloc1 W _) ⟨⟨_, rfl, hsz, hm1⟩, fun _ Q Q' h1 h2 => ?_⟩
        rw [hs33] at h2
        injection h1 with h1
        injection h1 with h1
        injection h2 with h2
        injection h2 with h2
        omega
    · intro us W2 f hB2 hv hf
      obtain ⟨L2, u4, hL2, hML⟩ : isMapE w7.heap.size N x (us 4) W2 := (hv 4 (by decide) (by kernel_rfl)).1
      obtain ⟨G2, u9, hG2, hMG⟩ : isMapG w7.heap.size N x (us 9) W2 := (hv 9 (by decide) (by kernel_rfl)).1
      have hLG : L2 < G2 := (hv 9 (by decide) (by kernel_rfl)).2 rfl G2 L2 u9 (by rw [← u4]; exact hf 4 33 rfl)
      clear hv hf
      have hQ2 := (hB2.block _ (by omega)).trans HQ7.out
      have hQ3 := pheap_set _ _ 3 (.map (some L2)) _ _ hQ2
      have hQ4 := pheap_set _ _ 4 (.map (some G2)) _ _ hQ3
      have k3 : W2.cell? ⟨w6.heap.size, 3, none⟩ = some (.map (some (y.L i))) := by simp [World.cell?, hQ2]
      have nf3 : W2.frozen? ⟨w6.heap.size, 3, none⟩ = false := by simp [World.frozen?, hQ2]
      have k4 : (W2.setCell ⟨w6.heap.size, 3, none⟩ (.map (some L2))).cell? ⟨w6.heap.size, 4, none⟩ = some (.map (some (y.G i))) := by simp [World.cell?, hQ3]
      have nf4 : (W2.setCell ⟨w6.heap.size, 3, none⟩ (.map (some L2))).frozen? ⟨w6.heap.size, 4, none⟩ = false := by simp [World.frozen?, hQ3]
      obtain ⟨W3, hW3⟩ : ∃ W3, (W2.setCell ⟨w6.heap.size, 3, none⟩ (.map (some L2))).setCell ⟨w6.heap.size, 4, none⟩ (.map (some G2)) = W3 := ⟨_, rfl⟩
      have hB3 : Below w6.heap.size w6 W3 := by
       rw [← hW3]
       exact ((ptrans HB7.out hB2).setCell (p := ⟨w6.heap.size, 3, none⟩) (Nat.le_refl _) _).setCell (p := ⟨w6.heap.size, 4, none⟩) (Nat.le_refl _) _
      have oth : ∀ b, b ≠ w6.heap.size → W3.heap[b]? = W2.heap[b]? := fun b hb => by
       rw [← hW3]
       exact (Below.heap_setCell _ _ _ b hb).trans (Below.heap_setCell _ _ _ b hb)
      have hn3 : NodeM W3 w6.heap.size L2 G2 N x := ⟨by rw [← hW3]; exact hQ4, hML.same (oth _ (by omega)), hMG.same (oth _ (by omega))⟩
      have hs6 := HS6.out
      have hT6 : TreeM w6 F' (w.heap.size + 1) N y' (restr t left) := HTK.out.same (fun b hb => HG6.out.block b (HTK.out.lt b hb) (fun e => (HFK.out b hb).2 (by injection e with e))) (by omega)
      have hM6 : MapAt w6 Tryz.prog 29 y'.M k (nodesM (restr t left).n y'.f) := HMK.out.same (HG6.out.block _ HMK.out.lt (fun e => (HFK.out _ HTK.out.fM).2 (by injection e with e)))
      have hkN : k + 1 ≤ N := by have := HL6.out; omega
      have hx := HX.out
      have hpos := HT.out.pos i x hx
      obtain ⟨W4, hup, hM4, ht4⟩ := (hM6.same (hB3.block _ hM6.lt)).update law32 Tryz.underlying106 (by have := HN.out; unfold maxLen; omega) (val := .pointer (some ⟨w6.heap.size, 0, none⟩)) (pkey32 (i := i) ⟨by omega, by omega⟩)
      obtain ⟨hT4, hU4⟩ := hT6.addN (Nat.le_refl N) hpos hB3 hn3 (Nat.le_refl _) (by omega) (by omega) (by omega) (hM4.mono hkN) ht4
      have hM5 := hM4.congr (updM_nodes (restr t left) y' i x w6.heap.size L2 G2)
      have c3 : W3.cell? ⟨w.heap.size + 1, 1, none⟩ = some (.map (some y'.M)) := (hT6.below hB3).c1
      rw [← restr_step hx] at hT4 hM5
      have hB4 : Below w.heap.size w6 W4 := hU4.below (fun b hb => (HFK.out b hb).1) HB6.out.size
      have hyM := HT.out.lt _ HT.out.fM
      have hR4 := HRG.out.same (w' := W4) (hB4.block _ hyM) (hU4.block _ (by omega) (fun hF => (HFK.out _ hF).2 rfl))
      have hc4 := HL6.out
      have hfin : CopyAt w t y.M y.f (w.heap.size + 2) (w.heap.size + 1) N W4 := ⟨_, cnt6, k + 1, _, _, hR4, by omega, hM5, hT4, fun b hb => by
       rcases hb with hb | hb | hb | hb
       · exact HFK.out b hb
       · omega
       · omega
       · omega, HB6.out.trans hB4, by have := hB4.size; omega, by omega⟩
      have HFIN := zz hfin
      have HLEQ := zz hR4.left_eq
      clear hfin hR4 hB4 hyM hM5 hT4 hU4 hM4 ht4 hkN hpos hx hM6 hT6 hs6 hn3 oth hB3 hQ2 hQ3 hQ4 hML hMG hB2 hL2 hG2 hLG HT7 HB7 HQ7 HB6 HG6 HS6 HRG HLK hen HMK hrg hr1 hr2 hS7
      refine (show wpAny Tryz.prog .any _ _ 4 _ _ W2 from ?_)
      refine wpAny_one (i := 10) (by kernel_rfl) (by rfl) rfl (fun K hK => ?_)
      simp only [List.take_succ_cons, List.take_zero, putAll, Act.put, List.setIfInBounds_toArray, List.set_cons_succ, List.set_cons_zero, Nat.zero_add, Nat.reduceAdd, u4, u9] at hK ⊢
      go_simp
      refine hK _ _ ?_
      clear hK
      refine wpAny_one (i := 11) (by kernel_rfl) (by rfl) rfl (fun K hK => ?_)
      go_simp
      refine hK _ _ ?_
      clear hK
      refine wpAny_one (i := 12) (by kernel_rfl) (by rfl) rfl (fun K hK => ?_)
      go_simp
      refine hK _ _ ?_
      clear hK
      refine wpAny_one (i := 13) (by kernel_rfl) (by rfl) rfl (fun K hK => ?_)
      go_simp
      refine hK _ _ (wpAny_end (by kernel_rfl) ?_)
      clear hK
      clear hW3 k3 k4 nf3 nf4
      go_wp2
      go_roundw
      · exact HFIN.out
      · exact Nat.lt_of_le_of_lt (Nat.le_of_eq HLEQ.out) HLT.out
end
end
end Go.Proofs.YtpcnolkdnmolgaaGreatDoor
