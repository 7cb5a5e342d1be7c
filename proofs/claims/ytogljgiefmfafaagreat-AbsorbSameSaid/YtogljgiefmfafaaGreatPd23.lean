/- Both trees, plain: what the document's has is what the program's has; names, entries, bytes. -/
import Derived.Test.YtogljgiefmfafaaGreatPd02
import Derived.Test.YtogljgiefmfafaaGreatPd04
import Derived.Test.YtogljgiefmfafaaGreatPd10
import Derived.Test.YtogljgiefmfafaaGreatPd13
import Derived.Test.YtogljgiefmfafaaGreatPd17
import Derived.Test.YtogljgiefmfafaaGreatPd18
import Derived.Test.YtogljgiefmfafaaGreatPd21
import Derived.Test.YtogljgiefmfafaaGreatPd22
import Derived.Sort.Walk0
namespace Go.Proofs.YtogljgiefmfafaaGreat
open Go.RowKit Go.Maps
def eE (e : D.Ent) : E := (e.name, e.ino)
theorem isN_iff {a b : ByteArray} : D.isN a b = true ↔ a.data.toList = b.data.toList := by
 unfold D.isN
 rw [ByteArray.toList_eq, ByteArray.toList_eq]
 simp
theorem ltN_iff {a b : ByteArray} : D.ltN a b = true ↔ a.data.toList < b.data.toList := by
 unfold D.ltN
 rw [ByteArray.toList_eq, ByteArray.toList_eq, bytesLess_lt]
 simp [Go.Sort.ltStr]
theorem list_lt_trans {a b c : List UInt8} (h : a < b) (k : b < c) : a < c := List.lt_trans h k
theorem list_lt_irrefl (a : List UInt8) : ¬ a < a := List.lt_irrefl a
theorem list_lt_or {a b : List UInt8} (h1 : ¬ a < b) (h2 : a ≠ b) : b < a := by
 exact Decidable.byContradiction fun h => h2 (List.le_antisymm (show a ≤ b from h) (show b ≤ a from h1))
structure SimN (x : PN) (y : D.Nd) : Prop where
 kind : y.kind = x.kind
 held : y.held = x.held
 ents : EntsOf x.l (y.l.map eE)
 size : x.size = (y.data.size : Int)
 bytes : ∀ p : Nat, p < 36 → ∀ j : Nat, j < 64 → ((x.pages p).getD z64).getD j 0 = y.data.data.toList.getD (p * 64 + j) 0
structure Sim (t : PT) (r : D.Tr) : Prop where
 len : (r.length : Int) = t.room
 node : ∀ i x, t.n i = some x → SimN x (D.ndAt r i)
 none_ : ∀ i, 1 ≤ i → i ≤ t.room → t.n i = none → D.ndAt r i = D.noNd
section
variable {x : PN} {y : D.Nd} {s : ByteArray} {k : Nat} {v : Int}
theorem SimN.mem (h : SimN x y) (q : List UInt8) (v : Int) : (∃ e ∈ y.l, e.name.data.toList = q ∧ e.ino = v) ↔ x.l q = some v := by
 rw [← h.ents.mem q v]
 constructor
 · rintro ⟨e, he, h1, h2⟩
   exact ⟨eE e, List.mem_map_of_mem he, h1, h2⟩
 · rintro ⟨z, hz, h1, h2⟩
   obtain ⟨e, he, rfl⟩ := List.mem_map.1 hz
   exact ⟨e, he, h1, h2⟩
theorem SimN.place (h : SimN x y) : (D.place y.l s).isSome = (x.l s.data.toList).isSome := by
 rw [Bool.eq_iff_iff, D.place_some_iff, Option.isSome_iff_exists]
 constructor
 · rintro ⟨e, he, hn⟩
   exact ⟨e.ino, (h.mem _ _).1 ⟨e, he, isN_iff.1 hn, rfl⟩⟩
 · rintro ⟨v, hv⟩
   obtain ⟨e, he, h1, _⟩ := (h.mem _ _).2 hv
   exact ⟨e, he, isN_iff.2 h1⟩
theorem SimN.at_ (h : SimN x y) (hp : D.place y.l s = some k) : ∃ e, y.l[k]? = some e ∧ e.name.data.toList = s.data.toList ∧ x.l s.data.toList = some e.ino := by
 obtain ⟨e, he, hn⟩ := D.place_get hp
 exact ⟨e, he, isN_iff.1 hn, (h.mem _ _).1 ⟨e, List.mem_of_getElem? he, isN_iff.1 hn, rfl⟩⟩
theorem SimN.place_of (h : SimN x y) (hv : x.l s.data.toList = some v) : ∃ k, D.place y.l s = some k := Option.isSome_iff_exists.1 (by rw [h.place, hv]; rfl)
theorem SimN.sorted (h : SimN x y) : y.l.Pairwise fun a b => a.name.data.toList < b.name.data.toList := by
 have := h.ents.sorted
 rw [List.pairwise_map] at this
 exact this
theorem addPos_le_lt {l : List D.Ent} : ∀ (s : ByteArray), ∀ e ∈ l.take (D.addPos l s), e.name.data.toList < s.data.toList := by
 induction l with
 | nil => intro s e he; simp at he
 | cons a l ih =>
  intro s e he
  unfold D.addPos at he
  split at he
  · rename_i hh
    rw [List.take_succ_cons] at he
    rcases List.mem_cons.1 he with rfl | he
    · exact ltN_iff.1 hh
    · exact ih s e he
  · simp at he
theorem addPos_gt {l : List D.Ent} (hs : l.Pairwise fun a b => a.name.data.toList < b.name.data.toList) : ∀ (s : ByteArray), (∀ e ∈ l, e.name.data.toList ≠ s.data.toList) → ∀ e ∈ l.drop (D.addPos l s), s.data.toList < e.name.data.toList := by
 induction l with
 | nil => intro s _ e he; simp at he
 | cons a l ih =>
  intro s hn e he
  rw [List.pairwise_cons] at hs
  unfold D.addPos at he
  split at he
  · rw [List.drop_succ_cons] at he
    exact ih hs.2 s (fun e he => hn e (List.mem_cons_of_mem _ he)) e he
  · rename_i hh
    rw [List.drop_zero] at he
    have ha : s.data.toList < a.name.data.toList := list_lt_or (fun h => hh (ltN_iff.2 h)) (hn a (List.mem_cons_self ..))
    rcases List.mem_cons.1 he with rfl | he
    · exact ha
    · exact list_lt_trans ha (hs.1 e he)
theorem mem_addL_iff {l : List D.Ent} {e a : D.Ent} : a ∈ D.addL l e ↔ a ∈ l ∨ a = e := by
 unfold D.addL
 rw [List.mem_append, List.mem_append, List.mem_singleton]
 constructor
 · rintro ((h | h) | h)
   · exact .inl (List.mem_of_mem_take h)
   · exact .inr h
   · exact .inl (List.mem_of_mem_drop h)
 · rintro (h | h)
   · rw [← List.take_append_drop (D.addPos l e.name) l, List.mem_append] at h
     rcases h with h | h
     · exact .inl (.inl h)
     · exact .inr h
   · exact .inl (.inr h)
theorem SimN.add (h : SimN x y) (hv : x.l s.data.toList = none) (hs : s.size ≤ maxLen) (v : Int) : SimN { x with l := updL x.l s.data.toList v } { y with l := D.addL y.l ⟨s, v⟩ } := by
 have hno : ∀ e ∈ y.l, e.name.data.toList ≠ s.data.toList := fun e he c => by
  have := (h.mem s.data.toList e.ino).1 ⟨e, he, c, rfl⟩
  rw [hv] at this
  cases this
 refine ⟨h.kind, h.held, ⟨?_, fun q u => ?_, fun z hz => ?_⟩, h.size, h.bytes⟩
 · rw [List.pairwise_map]
   show (D.addL y.l ⟨s, v⟩).Pairwise fun a b => a.name.data.toList < b.name.data.toList
   unfold D.addL
   have h1 := h.sorted
   rw [← List.take_append_drop (D.addPos y.l s) y.l, List.pairwise_append] at h1
   rw [List.pairwise_append, List.pairwise_append]
   refine ⟨⟨h1.1, by simp, fun a ha b hb => ?_⟩, h1.2.1, fun a ha b hb => ?_⟩
   · rw [List.mem_singleton] at hb
     subst hb
     exact addPos_le_lt s a ha
   · rcases List.mem_append.1 ha with ha | ha
     · exact h1.2.2 a ha b hb
     · rw [List.mem_singleton] at ha
       subst ha
       exact addPos_gt h.sorted s hno b hb
 · show _ ↔ (if q = s.data.toList then some v else x.l q) = some u
   constructor
   · rintro ⟨z, hz, h1, h2⟩
     obtain ⟨e, he, rfl⟩ := List.mem_map.1 hz
     have h1' : e.name.data.toList = q := h1
     have h2' : e.ino = u := h2
     rcases mem_addL_iff.1 he with he | rfl
     · rw [if_neg (fun c => hno e he (h1'.trans c))]
       exact (h.mem q u).1 ⟨e, he, h1', h2'⟩
     · rw [if_pos h1'.symm]
       exact congrArg some h2'
   · intro hh
     split at hh
     · rename_i hq
       exact ⟨eE ⟨s, v⟩, List.mem_map_of_mem (mem_addL_iff.2 (.inr rfl)), hq.symm, Option.some.inj hh⟩
     · obtain ⟨e, he, h1, h2⟩ := (h.mem q u).2 hh
       exact ⟨eE e, List.mem_map_of_mem (mem_addL_iff.2 (.inl he)), h1, h2⟩
 · obtain ⟨e, he, rfl⟩ := List.mem_map.1 hz
   rcases mem_addL_iff.1 he with he | rfl
   · exact h.ents.size _ (List.mem_map_of_mem he)
   · exact hs
theorem SimN.del (h : SimN x y) (hp : D.place y.l s = some k) : SimN { x with l := delL x.l s.data.toList } { y with l := D.delAt y.l k } := by
 obtain ⟨e0, he0, hn0, _⟩ := h.at_ hp
 have hk : k < y.l.length := (List.getElem?_eq_some_iff.1 he0).1
 have hsub : (D.delAt y.l k).Sublist y.l := by
  unfold D.delAt
  conv => rhs; rw [← List.take_append_drop k y.l]
  exact List.Sublist.append (List.Sublist.refl _) (List.drop_sublist_drop_left _ (Nat.le_succ k))
 have hmem : ∀ e, e ∈ D.delAt y.l k ↔ e ∈ y.l ∧ e.name.data.toList ≠ s.data.toList := fun e => by
  constructor
  · intro he
    refine ⟨hsub.mem he, fun c => ?_⟩
    have h1 := h.sorted
    rw [← List.take_append_drop k y.l, List.drop_eq_getElem_cons hk, List.pairwise_append, List.pairwise_cons] at h1
    have e0' : y.l[k] = e0 := (List.getElem?_eq_some_iff.1 he0).2
    rw [e0'] at h1
    unfold D.delAt at he
    rcases List.mem_append.1 he with he | he
    · have h2 := h1.2.2 e he e0 (List.mem_cons_self ..)
      rw [c, hn0] at h2
      exact list_lt_irrefl _ h2
    · have h2 := h1.2.1.1 e he
      rw [c, hn0] at h2
      exact list_lt_irrefl _ h2
  · rintro ⟨he, hne⟩
    unfold D.delAt
    have he' : e ∈ y.l.take k ++ y.l[k] :: y.l.drop (k + 1) := by
     rw [← List.drop_eq_getElem_cons hk, List.take_append_drop]
     exact he
    have e0' : y.l[k] = e0 := (List.getElem?_eq_some_iff.1 he0).2
    rw [e0'] at he'
    rcases List.mem_append.1 he' with h1 | h1
    · exact List.mem_append_left _ h1
    · rcases List.mem_cons.1 h1 with rfl | h1
      · exact absurd hn0 hne
      · exact List.mem_append_right _ h1
 refine ⟨h.kind, h.held, ⟨?_, fun q u => ?_, fun z hz => ?_⟩, h.size, h.bytes⟩
 · rw [List.pairwise_map]
   exact List.Pairwise.sublist hsub h.sorted
 · show _ ↔ (if q = s.data.toList then none else x.l q) = some u
   constructor
   · rintro ⟨z, hz, h1, h2⟩
     obtain ⟨e, he, rfl⟩ := List.mem_map.1 hz
     obtain ⟨he, hne⟩ := (hmem e).1 he
     have h1' : e.name.data.toList = q := h1
     rw [if_neg (fun c => hne (h1'.trans c))]
     exact (h.mem q u).1 ⟨e, he, h1', h2⟩
   · intro hh
     split at hh
     · cases hh
     · rename_i hq
       obtain ⟨e, he, h1, h2⟩ := (h.mem q u).2 hh
       exact ⟨eE e, List.mem_map_of_mem ((hmem e).2 ⟨he, fun c => hq (h1.symm.trans c)⟩), h1, h2⟩
 · obtain ⟨e, he, rfl⟩ := List.mem_map.1 hz
   exact h.ents.size _ (List.mem_map_of_mem (hsub.mem he))
theorem SimN.in_ (h : SimN x y) (d : Int) : SimN (inN x d) y := by
 unfold inN
 split
 · exact ⟨h.kind, h.held, h.ents, h.size, h.bytes⟩
 · exact ⟨h.kind, h.held, h.ents, h.size, h.bytes⟩
theorem SimN.out (h : SimN x y) : SimN (outN x) y := by
 unfold outN
 split
 · exact ⟨h.kind, h.held, h.ents, h.size, h.bytes⟩
 · exact ⟨h.kind, h.held, h.ents, h.size, h.bytes⟩
theorem SimN.hold (h : SimN x y) (n : Int) : SimN { x with held := n } { y with held := n } := ⟨h.kind, rfl, h.ents, h.size, h.bytes⟩
theorem z64_get (j : Nat) : z64.getD j 0 = 0 := by
 unfold z64
 rw [List.getD_eq_getElem?_getD, List.getElem?_replicate]
 split <;> rfl
theorem SimN.new (kind : Int) : SimN (newN kind) { D.noNd with kind := kind } :=
 ⟨rfl, rfl, ⟨List.Pairwise.nil, fun q u => ⟨fun h => (by obtain ⟨z, hz, _⟩ := h; cases hz), fun h => (by cases h)⟩, fun z hz => (by cases hz)⟩, rfl, fun p _ j _ => by
  show z64.getD j 0 = _
  rw [z64_get]
  rfl⟩
theorem SimN.empty (h : SimN x y) : emptyB x.l = decide (y.l.length = 0) := by
 rw [Bool.eq_iff_iff, emptyB_iff, decide_eq_true_iff, List.length_eq_zero_iff]
 constructor
 · intro hh
   cases hl : y.l with
   | nil => rfl
   | cons e l =>
    have := (h.mem e.name.data.toList e.ino).1 ⟨e, by rw [hl]; exact List.mem_cons_self .., rfl, rfl⟩
    rw [hh] at this
    cases this
 · intro hl q
   cases hq : x.l q with
   | none => rfl
   | some v =>
    obtain ⟨e, he, _⟩ := (h.mem q v).2 hq
    rw [hl] at he
    cases he
end
section
variable {t : PT} {r : D.Tr} {i : Int} {x : PN} {y : D.Nd}
theorem ndAt_set' (hi : 1 ≤ i) (hr : i ≤ (r.length : Int)) (y : D.Nd) {j : Int} (hj : 1 ≤ j) : D.ndAt (D.setNd r i y) j = if j = i then y else D.ndAt r j := by
 rw [D.ndAt_set y (by omega)]
 by_cases h : j = i
 · rw [if_pos h, if_pos (by omega)]
 · rw [if_neg h, if_neg (by omega)]
theorem Sim.set (h : Sim t r) (h1 : 1 ≤ i) (h2 : i ≤ t.room) (hr : ∀ j z, t.n j = some z → 1 ≤ j) (hn : SimN x y) : Sim (t.set i x) (D.setNd r i y) := by
 have hl := h.len
 refine ⟨by rw [D.setNd_length]; exact h.len, fun j z hj => ?_, fun j j1 j2 hj => ?_⟩
 · rw [PT.set_n] at hj
   by_cases e : j = i
   · rw [if_pos e] at hj
     obtain rfl := Option.some.inj hj
     rw [ndAt_set' h1 (by omega) y (by omega), if_pos e]
     exact hn
   · rw [if_neg e] at hj
     rw [ndAt_set' h1 (by omega) y (hr j z hj), if_neg e]
     exact h.node j z hj
 · rw [PT.set_n] at hj
   split at hj
   · cases hj
   · rename_i e
     rw [ndAt_set' h1 (by omega) y j1, if_neg e]
     exact h.none_ j j1 j2 hj
theorem Sim.del (h : Sim t r) (h1 : 1 ≤ i) (h2 : i ≤ t.room) (hr : ∀ j z, t.n j = some z → 1 ≤ j) : Sim (t.del i) (D.setNd r i D.noNd) := by
 have hl := h.len
 refine ⟨by rw [D.setNd_length]; exact h.len, fun j z hj => ?_, fun j j1 j2 hj => ?_⟩
 · rw [PT.del_n] at hj
   split at hj
   · cases hj
   · rename_i e
     rw [ndAt_set' h1 (by omega) _ (hr j z hj), if_neg e]
     exact h.node j z hj
 · rw [PT.del_n] at hj
   by_cases e : j = i
   · rw [ndAt_set' h1 (by omega) _ j1, if_pos e]
   · rw [if_neg e] at hj
     rw [ndAt_set' h1 (by omega) _ j1, if_neg e]
     exact h.none_ j j1 j2 hj
theorem Sim.same (h : Sim t r) (hn : SimN x (D.ndAt r i)) : Sim (t.set i x) r := by
 refine ⟨h.len, fun j z hj => ?_, fun j j1 j2 hj => ?_⟩
 · rw [PT.set_n] at hj
   by_cases e : j = i
   · rw [if_pos e] at hj
     obtain rfl := Option.some.inj hj
     rw [e]
     exact hn
   · rw [if_neg e] at hj
     exact h.node j z hj
 · rw [PT.set_n] at hj
   split at hj
   · cases hj
   · exact h.none_ j j1 j2 hj
theorem Sim.there (h : Sim t r) (hw : WellP t) (i : Int) : D.thereB r i = (t.n i).isSome := by
 have hl := h.len
 unfold D.thereB
 cases hx : t.n i with
 | none =>
  rw [Option.isSome_none, decide_eq_false_iff_not]
  rintro ⟨h1, h2, h3⟩
  rw [h.none_ i h1 (by omega) hx] at h3
  exact h3 rfl
 | some x =>
  have hr := hw.range i x hx
  have hk := hw.kind i x hx
  rw [Option.isSome_some, decide_eq_true_iff]
  exact ⟨hr.1, by omega, by rw [(h.node i x hx).kind]; omega⟩
theorem Sim.enter (h : Sim t r) (hr : ∀ j z, t.n j = some z → 1 ≤ j ∧ j ≤ t.room) {d v : Int} {xd xi : PN} {s : ByteArray} (hd : t.n d = some xd) (hi : t.n v = some xi) (hne : v ≠ d) (hf : xd.l s.data.toList = none) (hs : s.size ≤ maxLen) :
  Sim (enterT t d xd s v xi) (D.addT r d ⟨s, v⟩) := by
 have hl := h.len
 have hb := hr d xd hd
 unfold enterT D.addT
 refine (h.set hb.1 hb.2 (fun j z hj => (hr j z hj).1) ((h.node d xd hd).add hf hs v)).same ?_
 rw [ndAt_set' hb.1 (by omega) _ (hr v xi hi).1, if_neg hne]
 exact (h.node v xi hi).in_ d
theorem Sim.leave (h : Sim t r) (hr : ∀ j z, t.n j = some z → 1 ≤ j ∧ j ≤ t.room) {d v : Int} {xd xi : PN} {s : ByteArray} (hd : t.n d = some xd) (hi : t.n v = some xi) (_hne : v ≠ d) (he : xd.l s.data.toList = some v) :
  Sim (leaveT t d xd s v xi) (D.delS r d s) := by
 have hb := hr d xd hd
 obtain ⟨k, hk⟩ := (h.node d xd hd).place_of he
 unfold leaveT D.delS
 rw [hk]
 refine (h.same ((h.node v xi hi).out)).set hb.1 hb.2 (fun j z hj => ?_) ((h.node d xd hd).del hk)
 rw [PT.set_n] at hj
 split at hj
 · rename_i e
   rw [e]
   exact (hr v xi hi).1
 · exact (hr j z hj).1
theorem Sim.free (h : Sim t r) (hr : ∀ j z, t.n j = some z → 1 ≤ j ∧ j ≤ t.room) (hx : t.n i = some x) (hg : goneB i x = true ↔ i ≠ 1 ∧ D.namedB r i = false ∧ x.held = 0) : Sim (freeP t i x) (D.freeT r i) := by
 have hb := hr i x hx
 have hh := (h.node i x hx).held
 unfold freeP D.freeT
 rw [hh]
 by_cases c : goneB i x = true
 · rw [if_pos c, if_pos (hg.1 c)]
   exact h.del hb.1 hb.2 (fun j z hj => (hr j z hj).1)
 · rw [if_neg c, if_neg (fun e => c (hg.2 e))]
   exact h
theorem ndAt_of_lt {r : D.Tr} {k : Nat} (_hk : k < r.length) : D.ndAt r ((k : Int) + 1) = D.nd r k := by
 unfold D.ndAt
 rw [show ((k : Int) + 1).toNat - 1 = k by omega]
theorem Sim.named (h : Sim t r) (v : Int) : D.namedB r v = true ↔ ∃ d k, Ent t d k v := by
 have hl := h.len
 unfold D.namedB
 rw [List.any_eq_true]
 constructor
 · rintro ⟨z, hz, h1⟩
   obtain ⟨k, hk, rfl⟩ := List.getElem_of_mem hz
   rw [List.any_eq_true] at h1
   obtain ⟨e, he, h2⟩ := h1
   have h3 : D.ndAt r ((k : Int) + 1) = r[k] := by
    rw [ndAt_of_lt hk]
    exact (Option.some.inj ((List.getElem?_eq_getElem hk).symm.trans (D.nd_get hk))).symm
   cases hx : t.n ((k : Int) + 1) with
   | none =>
    have h4 := h.none_ ((k : Int) + 1) (by omega) (by omega) hx
    rw [h3] at h4
    rw [h4] at he
    cases he
   | some x =>
    have h4 := h.node _ x hx
    rw [h3] at h4
    exact ⟨_, _, x, hx, (h4.mem e.name.data.toList v).1 ⟨e, he, rfl, by simpa using h2⟩⟩
 · rintro ⟨d, q, x, hx, hq⟩
   obtain ⟨e, he, h1, h2⟩ := ((h.node d x hx).mem q v).2 hq
   have h3 : D.ndAt r d ∈ r := by
    rcases D.ndAt_or (t := r) d with h4 | h4
    · exact h4
    · rw [h4] at he
      cases he
   exact ⟨_, h3, List.any_eq_true.2 ⟨e, he, by simp [h2]⟩⟩
end
end Go.Proofs.YtogljgiefmfafaaGreat
namespace Go.Proofs.YtogljgiefmfafaaGreat
open Go.RowKit Go.Maps
theorem getD_none {l : List UInt8} {i : Nat} (h : l.length ≤ i) : l.getD i 0 = 0 := by
 rw [List.getD_eq_getElem?_getD, List.getElem?_eq_none h]
 rfl
theorem getD_take {l : List UInt8} (n i : Nat) : (l.take n).getD i 0 = if i < n then l.getD i 0 else 0 := by
 rw [List.getD_eq_getElem?_getD, List.getElem?_take, List.getD_eq_getElem?_getD]
 split <;> rfl
theorem getD_drop {l : List UInt8} (n i : Nat) : (l.drop n).getD i 0 = l.getD (n + i) 0 := by
 rw [List.getD_eq_getElem?_getD, List.getElem?_drop, List.getD_eq_getElem?_getD]
theorem getD_app {a b : List UInt8} (i : Nat) : (a ++ b).getD i 0 = if i < a.length then a.getD i 0 else b.getD (i - a.length) 0 := by
 rw [List.getD_eq_getElem?_getD, List.getElem?_append, List.getD_eq_getElem?_getD, List.getD_eq_getElem?_getD]
 split <;> rfl
theorem getD_zeros (n i : Nat) : (List.replicate n (0 : UInt8)).getD i 0 = 0 := by
 rw [List.getD_eq_getElem?_getD, List.getElem?_replicate]
 split <;> rfl
theorem ba_append (a b : ByteArray) : (a ++ b).data.toList = a.data.toList ++ b.data.toList := by simp
theorem ba_extract (s : ByteArray) (a b : Nat) : (s.extract a b).data.toList = (s.data.toList.drop a).take (b - a) := by
 rw [ByteArray.data_extract, Array.toList_extract]
 try rfl
theorem ba_len (s : ByteArray) : s.data.toList.length = s.size := by simp
theorem zeros_list (n : Nat) : (D.zerosN n).data.toList = List.replicate n 0 := by
 show (List.replicate n (0 : UInt8)).toArray.toList = _
 simp
theorem longS_get (s : ByteArray) (n i : Nat) : (D.longS s n).data.toList.getD i 0 = if i < n then s.data.toList.getD i 0 else 0 := by
 unfold D.longS
 split
 · rw [ba_extract, Nat.sub_zero, List.drop_zero, getD_take]
 · rename_i h
   rw [ba_append, zeros_list, getD_app, ba_len, getD_zeros]
   split
   · rw [if_pos (by omega)]
   · rw [getD_none (l := s.data.toList) (i := i) (by rw [ba_len]; omega)]
     split <;> rfl
theorem writeS_get (s : ByteArray) (p : Nat) (d : ByteArray) (i : Nat) : (D.writeS s p d).data.toList.getD i 0 = if p * 64 ≤ i ∧ i < p * 64 + d.size then d.data.toList.getD (i - p * 64) 0 else s.data.toList.getD i 0 := by
 unfold D.writeS
 have hL : (D.longS s (max s.size (p * 64 + d.size))).data.toList.length = max s.size (p * 64 + d.size) := by rw [ba_len, D.longS_size]
 have hA : (((D.longS s (max s.size (p * 64 + d.size))).data.toList.drop 0).take (p * 64 - 0)).length = p * 64 := by
  rw [List.length_take, List.length_drop, hL]
  omega
 rw [ba_append, ba_append, ba_extract, ba_extract, getD_app, List.length_append, hA, ba_len, getD_app, hA]
 by_cases h1 : i < p * 64
 · rw [if_pos (by omega), if_pos h1, if_neg (by omega), getD_take, if_pos (by omega), List.drop_zero, longS_get, if_pos (by omega)]
 · by_cases h2 : i < p * 64 + d.size
   · rw [if_pos h2, if_neg h1, if_pos (by omega)]
   · rw [if_neg h2, if_neg (by omega), getD_take, getD_drop, longS_get, show p * 64 + d.size + (i - (p * 64 + d.size)) = i by omega]
     by_cases h3 : i < max s.size (p * 64 + d.size)
     · rw [if_pos (by omega), if_pos h3]
     · rw [if_neg (by omega), getD_none (l := s.data.toList) (i := i) (by rw [ba_len]; omega)]
section
variable {x : PN} {y : D.Nd}
theorem SimN.write (h : SimN x y) {p : Int} (h0 : 0 ≤ p) (h36 : p < 36) {d : ByteArray} (hd : d.size ≤ 64) :
  SimN { x with pages := updP x.pages p (over d.data.toList ((x.pages p).getD z64)), size := max x.size (p * 64 + d.size) } { y with data := D.writeS y.data p.toNat d } := by
 refine ⟨h.kind, h.held, h.ents, ?_, fun q hq j hj => ?_⟩
 · show max x.size (p * 64 + d.size) = ((D.writeS y.data p.toNat d).size : Int)
   rw [D.writeS_size, h.size]
   omega
 · show ((if (q : Int) = p then some (over d.data.toList ((x.pages p).getD z64)) else x.pages q).getD z64).getD j 0 = (D.writeS y.data p.toNat d).data.toList.getD (q * 64 + j) 0
   rw [writeS_get]
   by_cases e : (q : Int) = p
   · obtain rfl : q = p.toNat := by omega
     rw [if_pos e]
     show (over d.data.toList ((x.pages p).getD z64)).getD j 0 = _
     unfold over
     rw [getD_app, ba_len, getD_drop]
     by_cases hjd : j < d.size
     · rw [if_pos hjd, if_pos (by omega), show p.toNat * 64 + j - p.toNat * 64 = j by omega]
     · rw [if_neg hjd, if_neg (by omega), show d.size + (j - d.size) = j by omega, ← e]
       exact h.bytes _ hq j hj
   · rw [if_neg e, if_neg (by omega)]
     exact h.bytes q hq j hj
theorem SimN.resize (h : SimN x y) {n : Int} (h0 : 0 ≤ n) : SimN { x with pages := cutP n x.pages, size := n } { y with data := D.longS y.data n.toNat } := by
 refine ⟨h.kind, h.held, h.ents, ?_, fun q hq j hj => ?_⟩
 · show n = ((D.longS y.data n.toNat).size : Int)
   rw [D.longS_size]
   omega
 · have hb := h.bytes q hq j hj
   show ((cutP n x.pages q).getD z64).getD j 0 = (D.longS y.data n.toNat).data.toList.getD (q * 64 + j) 0
   rw [longS_get]
   unfold cutP
   cases hp : x.pages q with
   | none =>
    rw [hp] at hb
    show z64.getD j 0 = _
    rw [z64_get]
    have hb' : z64.getD j 0 = y.data.data.toList.getD (q * 64 + j) 0 := hb
    rw [z64_get] at hb'
    split
    · exact hb'
    · rfl
   | some b =>
    rw [hp] at hb
    have hb' : b.getD j 0 = y.data.data.toList.getD (q * 64 + j) 0 := hb
    simp only
    split
    · rename_i c
      show z64.getD j 0 = _
      rw [z64_get, if_neg (by omega)]
    · split
      · rename_i c1 c2
        show (cutB (n - q * 64).toNat b).getD j 0 = _
        unfold cutB
        rw [getD_app, getD_take, getD_zeros, List.length_take]
        by_cases hj2 : j < (n - q * 64).toNat
        · rw [if_pos hj2, if_pos (show q * 64 + j < n.toNat by omega), ← hb']
          by_cases hbl : j < b.length
          · rw [if_pos (by omega)]
          · rw [if_neg (by omega), getD_none (by omega)]
        · rw [if_neg (by omega), if_neg (by omega)]
      · rename_i c1 c2
        show b.getD j 0 = _
        rw [hb', if_pos (by omega)]
end
def pairsD (v : Int) : Nat → D.Tr → List (Int × List UInt8)
 | _, [] => []
 | k, z :: r => ((z.l.filter fun e => e.ino == v).map fun e => ((k : Int) + 1, e.name.data.toList)) ++ pairsD v (k + 1) r
theorem pairsD_len (v : Int) : ∀ (k : Nat) (r : D.Tr), (pairsD v k r).length = (r.map fun x => x.l.countP fun e => e.ino == v).sum
 | _, [] => rfl
 | k, z :: r => by
  unfold pairsD
  rw [List.length_append, List.length_map, pairsD_len v (k + 1) r, List.map_cons, List.sum_cons, List.countP_eq_length_filter]
theorem pairsD_mem (v : Int) : ∀ (k : Nat) (r : D.Tr) (p : Int × List UInt8), p ∈ pairsD v k r ↔ ∃ j z, r[j]? = some z ∧ p.1 = ((k + j : Nat) : Int) + 1 ∧ ∃ e ∈ z.l, e.ino = v ∧ e.name.data.toList = p.2
 | k, [], p => by simp [pairsD]
 | k, z :: r, p => by
  unfold pairsD
  rw [List.mem_append, pairsD_mem v (k + 1) r p, List.mem_map]
  constructor
  · rintro (⟨e, he, rfl⟩ | ⟨j, z', h1, h2, h3⟩)
    · obtain ⟨h1, h2⟩ := List.mem_filter.1 he
      exact ⟨0, z, rfl, by simp, e, h1, by simpa using h2, rfl⟩
    · exact ⟨j + 1, z', by simpa using h1, by rw [h2]; congr 2; omega, h3⟩
  · rintro ⟨j, z', h1, h2, e, he, h3, h4⟩
    cases j with
    | zero =>
     obtain rfl : z = z' := by simpa using h1
     exact .inl ⟨e, List.mem_filter.2 ⟨he, by simpa using h3⟩, Prod.ext (by rw [h2]; simp) h4⟩
    | succ j => exact .inr ⟨j, z', by simpa using h1, by rw [h2]; congr 2; omega, e, he, h3, h4⟩
theorem pairsD_nodup (v : Int) : ∀ (k : Nat) (r : D.Tr), (∀ z ∈ r, z.l.Pairwise fun a b => a.name.data.toList < b.name.data.toList) → (pairsD v k r).Nodup
 | _, [], _ => List.nodup_nil
 | k, z :: r, h => by
  unfold pairsD
  rw [List.nodup_append]
  refine ⟨?_, pairsD_nodup v (k + 1) r (fun z hz => h z (List.mem_cons_of_mem _ hz)), fun a ha b hb e => ?_⟩
  · unfold List.Nodup
    rw [List.pairwise_map]
    refine ((h z (List.mem_cons_self ..)).filter _).imp fun {a b} hab e => ?_
    have e2 : a.name.data.toList = b.name.data.toList := congrArg Prod.snd e
    rw [e2] at hab
    exact list_lt_irrefl _ hab
  · obtain ⟨e1, _, rfl⟩ := List.mem_map.1 ha
    obtain ⟨j, z', _, h2, _⟩ := (pairsD_mem v (k + 1) r b).1 hb
    rw [← e] at h2
    have h3 : (k : Int) + 1 = ((k + 1 + j : Nat) : Int) + 1 := h2
    omega
section
variable {t : PT} {r : D.Tr} {i : Int} {x : PN}
theorem Sim.at_nd (_h : Sim t r) {k : Nat} {z : D.Nd} (hz : r[k]? = some z) : D.ndAt r ((k : Int) + 1) = z := by
 have hk := (List.getElem?_eq_some_iff.1 hz).1
 rw [ndAt_of_lt hk]
 exact (Option.some.inj (hz.symm.trans (D.nd_get hk))).symm
theorem Sim.entD (h : Sim t r) {k : Nat} {z : D.Nd} (hz : r[k]? = some z) (q : List UInt8) (v : Int) : (∃ e ∈ z.l, e.ino = v ∧ e.name.data.toList = q) ↔ Ent t ((k : Int) + 1) q v := by
 have hl := h.len
 have hk := (List.getElem?_eq_some_iff.1 hz).1
 have h3 := h.at_nd hz
 constructor
 · rintro ⟨e, he, h1, h2⟩
   cases hx : t.n ((k : Int) + 1) with
   | none =>
    have h4 := h.none_ ((k : Int) + 1) (by omega) (by omega) hx
    rw [h3] at h4
    rw [h4] at he
    cases he
   | some x =>
    have h4 := h.node _ x hx
    rw [h3] at h4
    exact ⟨x, hx, (h4.mem q v).1 ⟨e, he, h2, h1⟩⟩
 · rintro ⟨x, hx, hq⟩
   have h4 := h.node _ x hx
   rw [h3] at h4
   obtain ⟨e, he, h1, h2⟩ := (h4.mem q v).2 hq
   exact ⟨e, he, h2, h1⟩
theorem Sim.rising (h : Sim t r) : ∀ z ∈ r, z.l.Pairwise fun a b => a.name.data.toList < b.name.data.toList := fun z hz => by
 have hl := h.len
 obtain ⟨k, hk, rfl⟩ := List.getElem_of_mem hz
 have h3 := h.at_nd (List.getElem?_eq_getElem hk)
 rw [← h3]
 cases hx : t.n ((k : Int) + 1) with
 | none =>
  rw [h.none_ ((k : Int) + 1) (by omega) (by omega) hx]
  exact List.Pairwise.nil
 | some x => exact (h.node _ x hx).sorted
theorem Sim.pairs (h : Sim t r) (hr : ∀ j z, t.n j = some z → 1 ≤ j ∧ j ≤ t.room) (v : Int) : ∃ M : List (Int × List UInt8), M.Nodup ∧ (∀ p, p ∈ M ↔ Ent t p.1 p.2 v) ∧ M.length = D.linksN r v := by
 have hl := h.len
 refine ⟨pairsD v 0 r, pairsD_nodup v 0 r h.rising, fun p => ?_, pairsD_len v 0 r⟩
 rw [pairsD_mem]
 constructor
 · rintro ⟨j, z, h1, h2, e, he, h3, h4⟩
   have := (h.entD h1 p.2 v).1 ⟨e, he, h3, h4⟩
   rw [h2]
   simpa using this
 · intro he
   obtain ⟨z, hz, _⟩ := id he
   have hb := hr p.1 z hz
   have hk : p.1.toNat - 1 < r.length := by omega
   have he2 : Ent t (((p.1.toNat - 1 : Nat) : Int) + 1) p.2 v := by rw [show (((p.1.toNat - 1 : Nat) : Int) + 1) = p.1 by omega]; exact he
   obtain ⟨e, he, h3, h4⟩ := (h.entD (List.getElem?_eq_getElem hk) p.2 v).2 he2
   exact ⟨p.1.toNat - 1, _, List.getElem?_eq_getElem hk, by rw [Nat.zero_add]; omega, e, he, h3, h4⟩
theorem nodup_len' {α : Type} {L M : List α} (h1 : L.Nodup) (h2 : M.Nodup) (h : ∀ x, x ∈ L ↔ x ∈ M) : L.length = M.length := by
 classical
 exact ((List.perm_ext_iff_of_nodup h1 h2).2 h).length_eq
theorem Sim.links (h : Sim t r) (hw : WellP t) (hx : t.n i = some x) : D.linksV r i = x.links := by
 unfold D.linksV
 rw [(h.node i x hx).kind]
 rcases hw.kind i x hx with hk | hk
 · rw [if_neg (by rw [hk]; decide)]
   obtain ⟨L, n1, n2, n3⟩ := hw.links i x hx hk
   obtain ⟨M, m1, m2, m3⟩ := h.pairs hw.range i
   rw [← m3, ← n3, nodup_len' m1 n1 (fun p => (m2 p).trans (n2 p).symm)]
 · rw [if_pos (by rw [hk]; rfl)]
   exact (hw.dirs i x hx hk).1.symm
end
end Go.Proofs.YtogljgiefmfafaaGreat
namespace Go.Proofs.YtogljgiefmfafaaGreat
open Go.RowKit Go.Maps
theorem firstE_ne {a : Int} {l : List Int} (h : a ≠ 0) : firstE (a :: l) = a := by
 show (if a = 0 then firstE l else a) = a
 rw [if_neg h]
theorem firstE_eq {a : Int} {l : List Int} (h : a = 0) : firstE (a :: l) = firstE l := by
 show (if a = 0 then firstE l else a) = firstE l
 rw [if_pos h]
theorem name_same (s : ByteArray) : D.nameB s = pnameB s := rfl
theorem names_one (s : ByteArray) : namesE [s] = if D.nameB s = false then 2 else 0 := by
 unfold namesE
 rw [name_same]
 cases h : pnameB s <;> simp [h]
theorem names_two (s q : ByteArray) : namesE [s, q] = if D.nameB s = false ∨ D.nameB q = false then 2 else 0 := by
 unfold namesE
 rw [name_same, name_same]
 cases h : pnameB s <;> cases h2 : pnameB q <;> simp [h, h2]
theorem nameB_small {s : ByteArray} (h : D.nameB s = true) : s.size ≤ maxLen := by
 unfold D.nameB at h
 simp only [Bool.and_eq_true, decide_eq_true_eq] at h
 unfold maxLen
 omega
section
variable {t : PT} {r : D.Tr} {i d : Int} {x xd : PN} {s : ByteArray}
theorem Sim.thereE1 (h : Sim t r) (hw : WellP t) (d : Int) : thereE t [d] = if D.thereB r d = false then 3 else 0 := by
 unfold thereE
 rw [h.there hw]
 cases hx : t.n d <;> simp [hx]
theorem Sim.thereE2 (h : Sim t r) (hw : WellP t) (d i : Int) : thereE t [d, i] = if D.thereB r d = false ∨ D.thereB r i = false then 3 else 0 := by
 unfold thereE
 rw [h.there hw, h.there hw]
 cases hx : t.n d <;> cases hy : t.n i <;> simp [hx, hy]
theorem Sim.dirsE1 (h : Sim t r) (hx : t.n d = some x) : dirsE t [d] = if ((D.ndAt r d).kind != 2) = true then 180 else 0 := by
 unfold dirsE isFile
 rw [(h.node d x hx).kind]
 simp [hx]
theorem Sim.dirsE2 (h : Sim t r) (hx : t.n d = some x) {y : PN} (hy : t.n i = some y) : dirsE t [d, i] = if ((D.ndAt r d).kind != 2) = true ∨ ((D.ndAt r i).kind != 2) = true then 180 else 0 := by
 unfold dirsE isFile
 rw [(h.node d x hx).kind, (h.node i y hy).kind]
 simp [hx, hy]
theorem Sim.some_ (h : Sim t r) (hw : WellP t) (ht : D.thereB r i = true) : ∃ x, t.n i = some x := by
 rw [h.there hw] at ht
 exact Option.isSome_iff_exists.1 ht
theorem Sim.dir (h : Sim t r) (hw : WellP t) (d : Int) (s : ByteArray) : D.dirE r d s = firstE [namesE [s], thereE t [d], dirsE t [d]] := by
 unfold D.dirE
 rw [names_one, h.thereE1 hw]
 by_cases h1 : D.nameB s = false
 · rw [if_pos h1, if_pos h1, firstE_ne (by decide)]
 · rw [if_neg h1, if_neg h1, firstE_eq rfl]
   by_cases h2 : D.thereB r d = false
   · rw [if_pos h2, if_pos h2, firstE_ne (by decide)]
   · rw [if_neg h2, if_neg h2, firstE_eq rfl]
     obtain ⟨x, hx⟩ := h.some_ hw (by simpa using h2)
     rw [h.dirsE1 hx]
     split
     · rw [firstE_ne (by decide)]
     · rw [firstE_eq rfl]
       rfl
theorem ent_pos (hw : WellP t) (hx : t.n d = some x) {q : List UInt8} {v : Int} (hq : x.l q = some v) : 1 ≤ v ∧ v ≤ t.room ∧ v ≠ d ∧ x.kind = 2 ∧ ∃ y, t.n v = some y := by
 obtain ⟨hk, _, hne, y, hy, _⟩ := hw.ent d x q v hx hq
 have := hw.range v y hy
 exact ⟨this.1, this.2, hne, hk, y, hy⟩
theorem getD_zero (hw : WellP t) (hx : t.n d = some x) (q : List UInt8) : (x.l q).getD 0 = 0 ↔ x.l q = none := by
 cases hq : x.l q with
 | none => simp
 | some v =>
  have := (ent_pos hw hx hq).1
  simp
  omega
theorem dirE_some (h : Sim t r) (hw : WellP t) (he : D.dirE r d s = 0) : D.nameB s = true ∧ ∃ x, t.n d = some x ∧ x.kind = 2 := by
 obtain ⟨h1, h2, h3⟩ := D.dirE_zero he
 obtain ⟨x, hx⟩ := h.some_ hw h2
 exact ⟨h1, x, hx, by rw [← (h.node d x hx).kind]; exact h3⟩
theorem Sim.look (h : Sim t r) (hw : WellP t) (d : Int) (s : ByteArray) : D.lookR r d s = lookP t d s := by
 unfold D.lookR lookP
 rw [h.dir hw]
 by_cases h0 : firstE [namesE [s], thereE t [d], dirsE t [d]] ≠ 0
 · rw [if_pos h0, if_pos h0]
 · rw [if_neg h0, if_neg h0]
   have h0' : D.dirE r d s = 0 := by rw [h.dir hw]; omega
   obtain ⟨_, x, hx, _⟩ := dirE_some h hw h0'
   have hn := h.node d x hx
   rw [hx]
   simp only
   cases hp : D.place (D.ndAt r d).l s with
   | none =>
    have h1 := hn.place (s := s)
    rw [hp] at h1
    have h2 : x.l s.data.toList = none := by simpa using h1.symm
    rw [h2]
    rfl
   | some k =>
    obtain ⟨e, he, _, hv⟩ := hn.at_ hp
    have h3 := (ent_pos hw hx hv).1
    rw [hv]
    show ((((D.ndAt r d).l[k]?).map D.Ent.ino).getD 0, (0 : Int)) = _
    rw [he]
    simp only [Option.map_some, Option.getD_some]
    rw [if_neg (by omega)]
theorem Sim.fresh_ (h : Sim t r) (hw : WellP t) (hx : t.n d = some x) : freshE' t d s = if (D.place (D.ndAt r d).l s).isSome = true then 9 else 0 := by
 unfold freshE'
 rw [hx]
 simp only
 unfold freshE
 rw [(h.node d x hx).place]
 have := getD_zero hw hx s.data.toList
 cases hq : x.l s.data.toList with
 | none => simp
 | some v =>
  have h3 := (ent_pos hw hx hq).1
  simp only [Option.getD_some, Option.isSome_some, if_true]
  rw [if_pos (by simp; omega)]
theorem fresh_none (_hw : WellP t) (hx : t.n d = some x) (h : Sim t r) (hp : ¬ (D.place (D.ndAt r d).l s).isSome = true) : x.l s.data.toList = none := by
 rw [(h.node d x hx).place] at hp
 simpa using hp
theorem Sim.have_ (h : Sim t r) (hw : WellP t) (i : Int) : haveE t i = if D.thereB r i = true then 9 else 0 := by
 unfold haveE
 rw [h.there hw]
theorem Sim.fileE1 (h : Sim t r) (hw : WellP t) (i : Int) : D.fileE r i = firstE [thereE t [i], fileE' t i] := by
 unfold D.fileE
 rw [h.thereE1 hw]
 by_cases h2 : D.thereB r i = false
 · rw [if_pos h2, if_pos h2, firstE_ne (by decide)]
 · rw [if_neg h2, if_neg h2, firstE_eq rfl]
   obtain ⟨x, hx⟩ := h.some_ hw (by simpa using h2)
   unfold fileE'
   rw [hx, (h.node i x hx).kind]
   simp only
   unfold fileQE
   split
   · rw [firstE_ne (by decide)]
   · rw [firstE_eq rfl]
     rfl
theorem Sim.makeAt (h : Sim t r) (hw : WellP t) (d : Int) (s : ByteArray) (k i : Int) : (D.makeR r d s k i).1 = (makeAtP t d s k i).1 ∧ Sim (makeAtP t d s k i).2 (D.makeR r d s k i).2 := by
 have hl := h.len
 have fail : ∀ e : Int, e ≠ 0 → D.makeR r d s k i = (e, r) → makeAtE t d s k i = e → (D.makeR r d s k i).1 = (makeAtP t d s k i).1 ∧ Sim (makeAtP t d s k i).2 (D.makeR r d s k i).2 := fun e h0 h1 h2 => by
  unfold makeAtP
  rw [h1, h2, if_neg h0]
  exact ⟨rfl, h⟩
 by_cases h1 : D.nameB s = false
 · refine fail 2 (by decide) (by unfold D.makeR; rw [if_pos (.inl h1)]) ?_
   unfold makeAtE
   rw [names_one, if_pos h1, firstE_ne (by decide)]
 have n1 : namesE [s] = 0 := by rw [names_one, if_neg h1]
 by_cases h2 : k ≠ 1 ∧ k ≠ 2
 · refine fail 2 (by decide) (by unfold D.makeR; rw [if_pos (.inr (.inl h2))]) ?_
   unfold makeAtE kindsE
   rw [firstE_eq n1, if_pos (by simp [h2.1, h2.2]), firstE_ne (by decide)]
 have n2 : kindsE k = 0 := by
  unfold kindsE
  rw [if_neg]
  intro c
  simp only [Bool.and_eq_true, bne_iff_ne, ne_eq] at c
  exact h2 c
 by_cases h3 : i < 1 ∨ t.room < i
 · refine fail 2 (by decide) (by unfold D.makeR; rw [if_pos (.inr (.inr (by omega)))]) ?_
   unfold makeAtE roomE
   rw [firstE_eq n1, firstE_eq n2, if_pos h3, firstE_ne (by decide)]
 have n3 : roomE t i = 0 := by unfold roomE; rw [if_neg h3]
 have hR : D.makeR r d s k i = if D.dirE r d s ≠ 0 then (D.dirE r d s, r) else if (D.place (D.ndAt r d).l s).isSome = true ∨ D.thereB r i = true then (9, r) else (0, D.made r d s k i) := by
  unfold D.makeR
  rw [if_neg]
  rintro (c | c | c | c)
  · exact h1 c
  · exact h2 c
  · exact h3 (.inl c)
  · exact h3 (.inr (by omega))
 have hE : makeAtE t d s k i = firstE [thereE t [d], dirsE t [d], freshE' t d s, haveE t i] := by
  unfold makeAtE
  rw [firstE_eq n1, firstE_eq n2, firstE_eq n3]
 have hD : D.dirE r d s = firstE [thereE t [d], dirsE t [d]] := by rw [h.dir hw, firstE_eq n1]
 by_cases h4 : D.dirE r d s ≠ 0
 · refine fail _ h4 (by rw [hR, if_pos h4]) ?_
   rw [hE, hD]
   rw [hD] at h4
   by_cases z : thereE t [d] = 0
   · rw [firstE_eq z, firstE_eq z] at *
     by_cases z2 : dirsE t [d] = 0
     · rw [firstE_eq z2] at h4
       exact absurd rfl h4
     · rw [firstE_ne z2, firstE_ne z2]
   · rw [firstE_ne z, firstE_ne z]
 have h4' : D.dirE r d s = 0 := by omega
 obtain ⟨_, xd, hxd, hdk⟩ := dirE_some h hw h4'
 have z1 : thereE t [d] = 0 := by rw [h.thereE1 hw, if_neg (by rw [h.there hw, hxd]; simp)]
 have z2 : dirsE t [d] = 0 := by rw [h.dirsE1 hxd, (h.node d xd hxd).kind, if_neg (by rw [hdk]; decide)]
 rw [firstE_eq z1, firstE_eq z2, h.fresh_ hw hxd, h.have_ hw] at hE
 by_cases h5 : (D.place (D.ndAt r d).l s).isSome = true
 · refine fail 9 (by decide) (by rw [hR, if_neg h4, if_pos (.inl h5)]) ?_
   rw [hE, if_pos h5, firstE_ne (by decide)]
 rw [if_neg h5, firstE_eq rfl] at hE
 by_cases h6 : D.thereB r i = true
 · refine fail 9 (by decide) (by rw [hR, if_neg h4, if_pos (.inr h6)]) ?_
   rw [hE, if_pos h6, firstE_ne (by decide)]
 rw [if_neg h6, firstE_eq rfl] at hE
 have hE0 : makeAtE t d s k i = 0 := hE
 have hR0 : D.makeR r d s k i = (0, D.made r d s k i) := by rw [hR, if_neg h4, if_neg (by rintro (c | c); exact h5 c; exact h6 c)]
 have hP0 : makeAtP t d s k i = (0, enterT (t.set i (newN k)) d xd s i (newN k)) := by
  unfold makeAtP makeT
  rw [if_pos hE0, hxd]
 rw [hR0, hP0]
 refine ⟨rfl, ?_⟩
 have hi : t.n i = none := by
  rw [h.there hw] at h6
  simpa using h6
 have hdi : d ≠ i := fun e => by rw [e, hi] at hxd; cases hxd
 have hb : ∀ j z, (t.set i (newN k)).n j = some z → 1 ≤ j ∧ j ≤ t.room := fun j z hj => by
  rw [PT.set_n] at hj
  split at hj
  · omega
  · exact hw.range j z hj
 have hS : Sim (t.set i (newN k)) (D.setNd r i { D.noNd with kind := k }) := h.set (by omega) (by omega) (fun j z hj => (hw.range j z hj).1) (SimN.new k)
 exact hS.enter hb (by rw [PT.set_n, if_neg hdi]; exact hxd) (by rw [PT.set_n, if_pos rfl]) (fun e => hdi e.symm) (fresh_none hw hxd h h5) (nameB_small (by simpa using h1))
theorem Sim.link (h : Sim t r) (hw : WellP t) (d : Int) (s : ByteArray) (i : Int) : (D.linkR r d s i).1 = (linkP t d s i).1 ∧ Sim (linkP t d s i).2 (D.linkR r d s i).2 := by
 have fail : ∀ e : Int, e ≠ 0 → D.linkR r d s i = (e, r) → linkE t d s i = e → (D.linkR r d s i).1 = (linkP t d s i).1 ∧ Sim (linkP t d s i).2 (D.linkR r d s i).2 := fun e h0 h1 h2 => by
  unfold linkP
  rw [h1, h2, if_neg h0]
  exact ⟨rfl, h⟩
 by_cases h1 : D.nameB s = false
 · refine fail 2 (by decide) (by unfold D.linkR; rw [if_pos h1]) ?_
   unfold linkE
   rw [names_one, if_pos h1, firstE_ne (by decide)]
 have n1 : namesE [s] = 0 := by rw [names_one, if_neg h1]
 by_cases h2 : D.thereB r d = false ∨ D.thereB r i = false
 · refine fail 3 (by decide) (by unfold D.linkR; rw [if_neg h1, if_pos h2]) ?_
   unfold linkE
   rw [firstE_eq n1, h.thereE2 hw, if_pos h2, firstE_ne (by decide)]
 have n2 : thereE t [d, i] = 0 := by rw [h.thereE2 hw, if_neg h2]
 obtain ⟨xd, hxd⟩ := h.some_ hw (i := d) (by cases hh : D.thereB r d; exact absurd (.inl hh) h2; rfl)
 obtain ⟨xi, hxi⟩ := h.some_ hw (i := i) (by cases hh : D.thereB r i; exact absurd (.inr hh) h2; rfl)
 have kd := (h.node d xd hxd).kind
 have ki := (h.node i xi hxi).kind
 by_cases h3 : ((D.ndAt r d).kind != 2) = true
 · refine fail 180 (by decide) (by unfold D.linkR; rw [if_neg h1, if_neg h2, if_pos h3]) ?_
   unfold linkE
   rw [firstE_eq n1, firstE_eq n2, h.dirsE1 hxd, if_pos h3, firstE_ne (by decide)]
 have n3 : dirsE t [d] = 0 := by rw [h.dirsE1 hxd, if_neg h3]
 have hf : fileE' t i = if ((D.ndAt r i).kind == 2) = true then 181 else 0 := by
  unfold fileE'
  rw [hxi, ki]
  rfl
 by_cases h4 : ((D.ndAt r i).kind == 2) = true
 · refine fail 181 (by decide) (by unfold D.linkR; rw [if_neg h1, if_neg h2, if_neg h3, if_pos h4]) ?_
   unfold linkE
   rw [firstE_eq n1, firstE_eq n2, firstE_eq n3, hf, if_pos h4, firstE_ne (by decide)]
 have n4 : fileE' t i = 0 := by rw [hf, if_neg h4]
 by_cases h5 : (D.place (D.ndAt r d).l s).isSome = true
 · refine fail 9 (by decide) (by unfold D.linkR; rw [if_neg h1, if_neg h2, if_neg h3, if_neg h4, if_pos h5]) ?_
   unfold linkE
   rw [firstE_eq n1, firstE_eq n2, firstE_eq n3, firstE_eq n4, h.fresh_ hw hxd, if_pos h5, firstE_ne (by decide)]
 have n5 : freshE' t d s = 0 := by rw [h.fresh_ hw hxd, if_neg h5]
 have hk : linksE' t i = if 200 ≤ D.linksV r i then 184 else 0 := by
  unfold linksE'
  rw [hxi, h.links hw hxi]
  rfl
 by_cases h6 : 200 ≤ D.linksV r i
 · refine fail 184 (by decide) (by unfold D.linkR; rw [if_neg h1, if_neg h2, if_neg h3, if_neg h4, if_neg h5, if_pos h6]) ?_
   unfold linkE
   rw [firstE_eq n1, firstE_eq n2, firstE_eq n3, firstE_eq n4, firstE_eq n5, hk, if_pos h6, firstE_ne (by decide)]
 have hE0 : linkE t d s i = 0 := by
  unfold linkE
  rw [firstE_eq n1, firstE_eq n2, firstE_eq n3, firstE_eq n4, firstE_eq n5, hk, if_neg h6, firstE_eq rfl]
  rfl
 have hR0 : D.linkR r d s i = (0, D.addT r d ⟨s, i⟩) := by unfold D.linkR; rw [if_neg h1, if_neg h2, if_neg h3, if_neg h4, if_neg h5, if_neg h6]
 have hP0 : linkP t d s i = (0, enterT t d xd s i xi) := by
  unfold linkP linkT
  rw [if_pos hE0, hxd, hxi]
 rw [hR0, hP0]
 refine ⟨rfl, h.enter hw.range hxd hxi (fun e => ?_) (fresh_none hw hxd h h5) (nameB_small (by simpa using h1))⟩
 subst e
 rw [kd] at h3 h4
 simp at h3 h4
 exact h4 h3
end
end Go.Proofs.YtogljgiefmfafaaGreat
namespace Go.Proofs.YtogljgiefmfafaaGreat
open Go.RowKit Go.Maps
section
variable {t : PT} {r : D.Tr} {i d v : Int} {x xd xi : PN} {s : ByteArray}
theorem leave_range (hw : WellP t) (hne : v ≠ d) (hd : t.n d = some xd) (hi : t.n v = some xi) : ∀ j z, (leaveT t d xd s v xi).n j = some z → 1 ≤ j ∧ j ≤ t.room := fun j z hj => by
 rw [leave_n hne] at hj
 split at hj
 · rename_i e
   rw [e]
   exact hw.range d xd hd
 · split at hj
   · rename_i e
     rw [e]
     exact hw.range v xi hi
   · exact hw.range j z hj
theorem Sim.gone (h : Sim t r) (hw : WellP t) (hd : t.n d = some xd) (he : xd.l s.data.toList = some v) (hi : t.n v = some xi) : goneB v (outN xi) = true ↔ v ≠ 1 ∧ D.namedB (D.delS r d s) v = false ∧ (outN xi).held = 0 := by
 obtain ⟨hdk, hv1, hne, y, hy, hup⟩ := hw.ent d xd _ v hd he
 rw [hi] at hy
 obtain rfl := Option.some.inj hy
 have h1 := h.leave hw.range hd hi hne he
 have hnm := h1.named v
 have hent : ∀ a q, Ent (leaveT t d xd s v xi) a q v ↔ Ent t a q v ∧ ¬ (a = d ∧ q = s.data.toList) := fun a q => leave_ent hne hd hi a q v
 have hnm2 : D.namedB (D.delS r d s) v = false ↔ ¬ ∃ a q, Ent t a q v ∧ ¬ (a = d ∧ q = s.data.toList) := by
  rw [← Bool.not_eq_true, hnm]
  constructor
  · rintro c ⟨a, q, hh⟩
    exact c ⟨a, q, (hent a q).2 hh⟩
  · rintro c ⟨a, q, hh⟩
    exact c ⟨a, q, (hent a q).1 hh⟩
 rw [hnm2]
 have me : Ent t d s.data.toList v := ⟨xd, hd, he⟩
 rcases hw.kind v xi hi with hk | hk
 · have ho : outN xi = { xi with links := xi.links - 1 } := by unfold outN; rw [if_neg (by omega)]
   obtain ⟨L, n1, n2, n3⟩ := hw.links v xi hi hk
   have hmem : (d, s.data.toList) ∈ L := (n2 _).2 me
   have hone : xi.links - 1 = 0 ↔ ¬ ∃ a q, Ent t a q v ∧ ¬ (a = d ∧ q = s.data.toList) := by
    constructor
    · rintro c ⟨a, q, h2, h3⟩
      have h4 : (a, q) ∈ L := (n2 (a, q)).2 h2
      obtain ⟨p, hp⟩ : ∃ p, L = [p] := List.length_eq_one_iff.1 (by omega)
      rw [hp] at h4 hmem
      rw [List.mem_singleton] at h4 hmem
      rw [← h4] at hmem
      exact h3 ⟨(congrArg Prod.fst hmem).symm, (congrArg Prod.snd hmem).symm⟩
    · intro c
      have hall : ∀ p ∈ L, p = (d, s.data.toList) := fun p hp => by
       refine Decidable.byContradiction fun hc => c ⟨p.1, p.2, (n2 p).1 hp, fun h2 => hc (Prod.ext h2.1 h2.2)⟩
      have hlen : L.length = 1 := by
       cases hL : L with
       | nil => rw [hL] at hmem; cases hmem
       | cons a l =>
        cases hl : l with
        | nil => rfl
        | cons b l' =>
         rw [hL, hl] at n1 hall
         have e1 := hall a (List.mem_cons_self ..)
         have e2 := hall b (List.mem_cons_of_mem _ (List.mem_cons_self ..))
         rw [List.nodup_cons] at n1
         exact absurd (by rw [e1, e2]; exact List.mem_cons_self ..) n1.1
      omega
   rw [← hone, ho]
   unfold goneB
   have hkb : (({ xi with links := xi.links - 1 } : PN).kind == 2) = false := by
    show (xi.kind == 2) = false
    rw [hk]
    rfl
   rw [if_neg (by rw [hkb]; decide)]
   simp only [Bool.and_eq_true, bne_iff_ne, ne_eq, beq_iff_eq]
   constructor
   · rintro ⟨c1, c2, c3⟩
     exact ⟨c1, c3, c2⟩
   · rintro ⟨c1, c2, c3⟩
     exact ⟨c1, c3, c2⟩
 · have ho : outN xi = { xi with up := 0 } := by unfold outN; rw [if_pos hk]
   have hno : ¬ ∃ a q, Ent t a q v ∧ ¬ (a = d ∧ q = s.data.toList) := by
    rintro ⟨a, q, ⟨z, hz, hq⟩, hc⟩
    obtain ⟨_, _, _, y, hy, hup2⟩ := hw.ent a z q v hz hq
    rw [hi] at hy
    obtain rfl := Option.some.inj hy
    have e1 : a = d := (hup2 hk).symm.trans (hup hk)
    subst e1
    exact hc ⟨rfl, hw.one a q s.data.toList v xi ⟨z, hz, hq⟩ me hi hk⟩
   rw [ho]
   unfold goneB
   have hkb : (({ xi with up := 0 } : PN).kind == 2) = true := by
    show (xi.kind == 2) = true
    rw [hk]
    rfl
   rw [if_pos hkb]
   simp only [Bool.and_eq_true, bne_iff_ne, ne_eq, beq_iff_eq, and_true]
   exact ⟨fun c => ⟨c.1, hno, c.2⟩, fun c => ⟨c.1, c.2.2⟩⟩
theorem Sim.dropT_ (h : Sim t r) (hw : WellP t) (hd : t.n d = some xd) (he : xd.l s.data.toList = some v) (hi : t.n v = some xi) : Sim (dropT t d xd s v xi) (D.freeT (D.delS r d s) v) := by
 obtain ⟨hdk, hv1, hne, _⟩ := hw.ent d xd _ v hd he
 have h1 := h.leave hw.range hd hi hne he
 unfold dropT
 exact h1.free (leave_range hw hne hd hi) (by rw [leave_n hne, if_neg hne, if_pos rfl]) (h.gone hw hd he hi)
theorem Sim.unlink (h : Sim t r) (hw : WellP t) (d : Int) (s : ByteArray) : (D.unlinkR r d s).1 = (dropP t d s unlinkE).1.1 ∧ (D.unlinkR r d s).2.1 = (dropP t d s unlinkE).1.2 ∧ Sim (dropP t d s unlinkE).2 (D.unlinkR r d s).2.2 := by
 unfold D.unlinkR dropP
 rw [h.look hw]
 by_cases h0 : (lookP t d s).2 ≠ 0
 · rw [if_pos h0, if_pos h0]
   exact ⟨rfl, rfl, h⟩
 · rw [if_neg h0, if_neg h0]
   obtain ⟨xd, xi, g1, g2, g3, _⟩ := look_okP hw.good (Decidable.not_not.1 h0)
   rw [g1, g3]
   simp only
   unfold unlinkE
   rw [(h.node _ xi g3).kind]
   split
   · rw [if_pos (by decide)]
     exact ⟨rfl, rfl, h⟩
   · rw [if_neg (by decide)]
     exact ⟨rfl, rfl, h.dropT_ hw g1 g2 g3⟩
theorem Sim.rmdir (h : Sim t r) (hw : WellP t) (d : Int) (s : ByteArray) : (D.rmdirR r d s).1 = (dropP t d s rmdirE).1.1 ∧ (D.rmdirR r d s).2.1 = (dropP t d s rmdirE).1.2 ∧ Sim (dropP t d s rmdirE).2 (D.rmdirR r d s).2.2 := by
 unfold D.rmdirR dropP
 rw [h.look hw]
 by_cases h0 : (lookP t d s).2 ≠ 0
 · rw [if_pos h0, if_pos h0]
   exact ⟨rfl, rfl, h⟩
 · rw [if_neg h0, if_neg h0]
   obtain ⟨xd, xi, g1, g2, g3, _⟩ := look_okP hw.good (Decidable.not_not.1 h0)
   rw [g1, g3]
   simp only
   have hn := h.node _ xi g3
   have hem := hn.empty
   rw [hn.kind]
   cases hk : (xi.kind == 2) with
   | false =>
    have hk2 : (xi.kind != 2) = true := by rw [bne, hk]; rfl
    have hq : rmdirE xi = 180 := by unfold rmdirE; rw [hk]; rfl
    rw [if_pos hk2, hq, if_pos (by decide)]
    exact ⟨rfl, rfl, h⟩
   | true =>
    have hk2 : (xi.kind != 2) = false := by rw [bne, hk]; rfl
    rw [if_neg (by rw [hk2]; decide)]
    by_cases hl : 0 < (D.ndAt r (lookP t d s).1).l.length
    · have hq : rmdirE xi = 182 := by
       unfold rmdirE
       rw [hk, if_neg (by decide), if_neg]
       rw [hem, decide_eq_true_iff]
       omega
      rw [if_pos hl, hq, if_pos (by decide)]
      exact ⟨rfl, rfl, h⟩
    · have hq : rmdirE xi = 0 := by
       unfold rmdirE
       rw [hk, if_neg (by decide), if_pos]
       rw [hem, decide_eq_true_iff]
       omega
      rw [if_neg hl, hq, if_neg (by decide)]
      exact ⟨rfl, rfl, h.dropT_ hw g1 g2 g3⟩
theorem Sim.resize (h : Sim t r) (hw : WellP t) (i : Int) {n : Int} (h0 : 0 ≤ n) : (D.resizeR r i n).1 = (resizeP t i n).1 ∧ Sim (resizeP t i n).2 (D.resizeR r i n).2 := by
 unfold D.resizeR resizeP resizeE
 have hf := h.fileE1 hw i
 by_cases h1 : D.fileE r i ≠ 0
 · have : firstE [thereE t [i], fileE' t i, sizedE n] = D.fileE r i := by
    rw [hf] at h1 ⊢
    by_cases z : thereE t [i] = 0
    · rw [firstE_eq z] at h1 ⊢
      rw [firstE_eq z]
      by_cases z2 : fileE' t i = 0
      · rw [firstE_eq z2] at h1
        exact absurd rfl h1
      · rw [firstE_ne z2, firstE_ne z2]
    · rw [firstE_ne z, firstE_ne z]
   rw [this, if_pos h1, if_neg h1]
   exact ⟨rfl, h⟩
 · rw [if_neg h1]
   obtain ⟨z, z2⟩ : thereE t [i] = 0 ∧ fileE' t i = 0 := by
    have h2 : firstE [thereE t [i], fileE' t i] = 0 := by rw [← hf]; omega
    obtain ⟨a, b⟩ := firstE_cons h2
    exact ⟨a, (firstE_cons b).1⟩
   obtain ⟨x, hx⟩ := Option.isSome_iff_exists.1 (there_one z)
   have hb := hw.range i x hx
   rw [firstE_eq z, firstE_eq z2]
   unfold sizedE resizeT
   by_cases h3 : 2304 < n
   · rw [if_pos h3, if_pos h3, firstE_ne (by decide), if_neg (by decide)]
     exact ⟨rfl, h⟩
   · rw [if_neg h3, if_neg h3, firstE_eq rfl, if_pos (show firstE [] = 0 from rfl), hx]
     exact ⟨rfl, h.set hb.1 hb.2 (fun j z hj => (hw.range j z hj).1) ((h.node i x hx).resize h0)⟩
theorem Sim.write (h : Sim t r) (hw : WellP t) (i p : Int) (b : ByteArray) : (D.writeR r i p b).1 = (writeP t i p b).1 ∧ Sim (writeP t i p b).2 (D.writeR r i p b).2 := by
 unfold D.writeR writeP writeE
 have hf := h.fileE1 hw i
 by_cases h1 : D.fileE r i ≠ 0
 · have : firstE [thereE t [i], fileE' t i, pagedE p, dataE b] = D.fileE r i := by
    rw [hf] at h1 ⊢
    by_cases z : thereE t [i] = 0
    · rw [firstE_eq z] at h1 ⊢
      rw [firstE_eq z]
      by_cases z2 : fileE' t i = 0
      · rw [firstE_eq z2] at h1
        exact absurd rfl h1
      · rw [firstE_ne z2, firstE_ne z2]
    · rw [firstE_ne z, firstE_ne z]
   rw [this, if_pos h1, if_neg h1]
   exact ⟨rfl, h⟩
 · rw [if_neg h1]
   obtain ⟨z, z2⟩ : thereE t [i] = 0 ∧ fileE' t i = 0 := by
    have h2 : firstE [thereE t [i], fileE' t i] = 0 := by rw [← hf]; omega
    obtain ⟨a, b⟩ := firstE_cons h2
    exact ⟨a, (firstE_cons b).1⟩
   obtain ⟨x, hx⟩ := Option.isSome_iff_exists.1 (there_one z)
   have hb := hw.range i x hx
   rw [firstE_eq z, firstE_eq z2]
   unfold pagedE dataE writeT
   by_cases h3 : p < 0 ∨ 36 ≤ p
   · rw [if_pos (by omega), if_pos h3, firstE_ne (by decide), if_neg (by decide)]
     exact ⟨rfl, h⟩
   · by_cases h4 : b.size = 0 ∨ 64 < b.size
     · rw [if_pos (by omega), if_neg h3, firstE_eq rfl, if_pos h4, firstE_ne (by decide), if_neg (by decide)]
       exact ⟨rfl, h⟩
     · rw [if_neg (by omega), if_neg h3, firstE_eq rfl, if_neg h4, firstE_eq rfl, if_pos (show firstE [] = 0 from rfl), hx]
       exact ⟨rfl, h.set hb.1 hb.2 (fun j z hj => (hw.range j z hj).1) ((h.node i x hx).write (by omega) (by omega) (by omega))⟩
theorem Sim.hold (h : Sim t r) (hw : WellP t) (i : Int) : (D.holdR r i).1 = (holdP t i).1 ∧ Sim (holdP t i).2 (D.holdR r i).2 := by
 unfold D.holdR holdP holdE
 have hf := h.fileE1 hw i
 by_cases h1 : D.fileE r i ≠ 0
 · rw [← hf, if_pos h1, if_neg h1]
   exact ⟨rfl, h⟩
 · have h2 : firstE [thereE t [i], fileE' t i] = 0 := by rw [← hf]; omega
   obtain ⟨z, _⟩ := firstE_cons h2
   obtain ⟨x, hx⟩ := Option.isSome_iff_exists.1 (there_one z)
   have hb := hw.range i x hx
   have hn := h.node i x hx
   rw [if_neg h1, h2, if_pos rfl, hx]
   refine ⟨rfl, ?_⟩
   have := h.set hb.1 hb.2 (fun j z hj => (hw.range j z hj).1) (hn.hold (x.held + 1))
   rw [hn.held]
   exact this
theorem Sim.drop (h : Sim t r) (hw : WellP t) (i : Int) : (D.dropR r i).1 = (unholdP t i).1 ∧ Sim (unholdP t i).2 (D.dropR r i).2 := by
 unfold D.dropR unholdP unholdE
 by_cases h1 : D.thereB r i = false
 · rw [if_pos h1, h.thereE1 hw, if_pos h1, firstE_ne (by decide), if_neg (by decide)]
   exact ⟨rfl, h⟩
 · have z : thereE t [i] = 0 := by rw [h.thereE1 hw, if_neg h1]
   obtain ⟨x, hx⟩ := h.some_ hw (i := i) (by simpa using h1)
   have hb := hw.range i x hx
   have hn := h.node i x hx
   rw [if_neg h1, firstE_eq z, hn.held, hx]
   unfold heldE'
   rw [hx]
   simp only
   unfold heldE
   by_cases h2 : x.held = 0
   · rw [if_pos (by rw [h2]; rfl), if_pos h2, firstE_ne (by decide), if_neg (by decide)]
     exact ⟨rfl, h⟩
   · rw [if_neg (by simpa using h2), if_neg h2, firstE_eq rfl, if_pos (show firstE [] = 0 from rfl)]
     refine ⟨rfl, ?_⟩
     have hS : Sim (t.set i { x with held := x.held - 1 }) (D.dropT r i) := by
      have := h.set hb.1 hb.2 (fun j z hj => (hw.range j z hj).1) (hn.hold (x.held - 1))
      unfold D.dropT
      rw [hn.held]
      exact this
     unfold unholdT
     refine hS.free (fun j z hj => ?_) (by rw [PT.set_n, if_pos rfl]) ?_
     · rw [PT.set_n] at hj
       split at hj
       · rename_i e
         rw [e]
         exact hb
       · exact hw.range j z hj
     · have hk : x.kind = 1 := by
        rcases hw.kind i x hx with hk | hk
        · exact hk
        · exact absurd (hw.dirs i x hx hk).2 h2
       have hent : ∀ a q, Ent (t.set i { x with held := x.held - 1 }) a q i ↔ Ent t a q i := fun a q => by
        unfold Ent
        rw [PT.set_n]
        by_cases e : a = i
        · rw [if_pos e, e, hx]
          constructor
          · rintro ⟨z, hz, hl⟩
            cases hz
            exact ⟨x, rfl, hl⟩
          · rintro ⟨z, hz, hl⟩
            cases hz
            exact ⟨_, rfl, hl⟩
        · rw [if_neg e]
       have hnm : D.namedB (D.dropT r i) i = false ↔ x.links = 0 := by
        obtain ⟨L, n1, n2, n3⟩ := hw.links i x hx hk
        rw [← Bool.not_eq_true, hS.named i]
        constructor
        · intro c
          have : L = [] := by
           cases hL : L with
           | nil => rfl
           | cons p l => exact absurd ⟨p.1, p.2, (hent _ _).2 ((n2 p).1 (by rw [hL]; exact List.mem_cons_self ..))⟩ c
          rw [this] at n3
          simpa using n3.symm
        · rintro c ⟨a, q, hh⟩
          have h3 := (n2 (a, q)).2 ((hent a q).1 hh)
          have : L = [] := List.length_eq_zero_iff.1 (by omega)
          rw [this] at h3
          cases h3
       rw [hnm]
       unfold goneB
       have hkb : (({ x with held := x.held - 1 } : PN).kind == 2) = false := by
        show (x.kind == 2) = false
        rw [hk]
        rfl
       rw [if_neg (by rw [hkb]; decide)]
       simp only [Bool.and_eq_true, bne_iff_ne, ne_eq, beq_iff_eq]
       constructor
       · rintro ⟨c1, c2, c3⟩
         exact ⟨c1, c3, c2⟩
       · rintro ⟨c1, c2, c3⟩
         exact ⟨c1, c3, c2⟩
end
end Go.Proofs.YtogljgiefmfafaaGreat
namespace Go.Proofs.YtogljgiefmfafaaGreat
open Go.RowKit Go.Maps
section
variable {t : PT} {r : D.Tr} {a b c p d i : Int} {x y xa xb z : PN} {s s2 : ByteArray}
theorem bel_zero (h : Bel t i 0) : False := by
 obtain ⟨n, hn⟩ := h
 rw [belowP_zero] at hn
 cases hn
theorem bel_step (hz : t.n c = some z) (hc : c ≠ 0) (hp : p ≠ 0) (hu : z.up = p) : ∀ (n : Nat) (d : Int), belowP t c n d = true → Bel t p d
 | 0, d, h => by cases h
 | n + 1, d, h => by
  unfold belowP at h
  by_cases h0 : d = 0
  · rw [if_pos h0] at h
    cases h
  · rw [if_neg h0] at h
    by_cases h1 : d = c
    · subst h1
      by_cases h2 : d = p
      · rw [h2]
        exact bel_self hp
      · rw [bel_up hz h0 h2, hu]
        exact bel_self hp
    · rw [if_neg h1] at h
      have ih := bel_step hz hc hp hu n _ h
      by_cases h2 : d = p
      · rw [h2]
        exact bel_self hp
      · cases hd : t.n d with
        | none =>
         have : upAt t d = 0 := by unfold upAt; rw [hd]
         rw [this] at ih
         exact (bel_zero ih).elim
        | some u =>
         have : upAt t d = u.up := by unfold upAt; rw [hd]
         rw [this] at ih
         exact (bel_up hd h0 h2).2 ih
theorem Sim.child (h : Sim t r) (hw : WellP t) (hp : 1 ≤ p) (hc : D.Child r c p) : ∃ z, t.n c = some z ∧ z.kind = 2 ∧ z.up = p ∧ 1 ≤ c := by
 obtain ⟨e, he, rfl, hk⟩ := hc
 have hl := h.len
 have hx : ∃ x, t.n p = some x := by
  cases hx : t.n p with
  | some x => exact ⟨x, rfl⟩
  | none =>
   by_cases h2 : p ≤ t.room
   · rw [h.none_ p hp h2 hx] at he
     cases he
   · have h3 : D.ndAt r p = D.noNd := by
      unfold D.ndAt D.nd
      rw [List.getD_eq_getElem?_getD, List.getElem?_eq_none (by omega)]
      rfl
     rw [h3] at he
     cases he
 obtain ⟨x, hx⟩ := hx
 have hq := ((h.node p x hx).mem e.name.data.toList e.ino).1 ⟨e, he, rfl, rfl⟩
 obtain ⟨_, _, _, z, hz, hup⟩ := hw.ent p x _ e.ino hx hq
 have hkz : z.kind = 2 := by rw [← (h.node _ z hz).kind]; exact hk
 exact ⟨z, hz, hkz, hup hkz, (hw.range _ z hz).1⟩
theorem Sim.under_bel (h : Sim t r) (hw : WellP t) {d top : Int} (hu : D.Under r d top) : 1 ≤ top → Bel t top d := by
 induction hu with
 | here => exact fun h1 => bel_self (by omega)
 | step hc _ ih =>
  intro h1
  obtain ⟨z, hz, _, hup, hc1⟩ := h.child hw h1 hc
  obtain ⟨n, hn⟩ := ih hc1
  exact bel_step hz (by omega) (by omega) hup n _ hn
theorem Sim.bel_under (h : Sim t r) (hw : WellP t) {top : Int} : ∀ (n : Nat) (d : Int) (x : PN), t.n d = some x → x.kind = 2 → belowP t top n d = true → D.Under r d top
 | 0, d, x, _, _, hn => by cases hn
 | n + 1, d, x, hx, hk, hn => by
  unfold belowP at hn
  have h0 : d ≠ 0 := by have := (hw.range d x hx).1; omega
  rw [if_neg h0] at hn
  by_cases h1 : d = top
  · rw [h1]
    exact .here
  · rw [if_neg h1] at hn
    have hu : upAt t d = x.up := by unfold upAt; rw [hx]
    rw [hu] at hn
    have hne : d ≠ 1 := by
     rintro rfl
     obtain ⟨u, hu1, _, hu0⟩ := hw.root
     rw [hx] at hu1
     obtain rfl := Option.some.inj hu1
     rw [hu0, belowP_zero] at hn
     cases hn
    obtain ⟨k, u, hu1, hq⟩ := hw.up d x hx hk hne
    have hk2 := (hw.ent x.up u k d hu1 hq).1
    have ih := h.bel_under hw n x.up u hu1 hk2 hn
    refine D.Under.snoc ih ?_
    obtain ⟨e, he, _, h3⟩ := ((h.node x.up u hu1).mem k d).2 hq
    exact ⟨e, he, h3, by rw [(h.node d x hx).kind]; exact hk⟩
theorem Sim.under (h : Sim t r) (hw : WellP t) {d top : Int} (hx : t.n d = some x) (hk : x.kind = 2) (ht : 1 ≤ top) : D.Under r d top ↔ Bel t top d :=
 ⟨fun hu => h.under_bel hw hu ht, fun ⟨n, hn⟩ => h.bel_under hw n d x hx hk hn⟩
theorem Sim.move (h : Sim t r) (hw : WellP t) (ha : t.n a = some xa) (hl : xa.l s.data.toList = some i) (hi : t.n i = some y) (hb : t.n b = some xb) (hbk : xb.kind = 2) (hf : xb.l s2.data.toList = none) (hnb : y.kind = 2 → ¬ Bel t i b) (hs2 : s2.size ≤ maxLen) :
  Sim (moveT t a s b s2 i) (D.addT (D.delS r a s) b ⟨s2, i⟩) := by
 obtain ⟨xb3, m⟩ := (hw.move ha hl hi hb hbk hf hnb).2
 rw [m.is]
 refine (h.leave hw.range ha hi m.ia hl).enter (leave_range hw m.ia ha hi) m.nb m.nj m.ib ?_ hs2
 have h3 := m.nb
 rw [leave_n m.ia] at h3
 by_cases e : b = a
 · rw [if_pos e] at h3
   obtain rfl := Option.some.inj h3
   show (if s2.data.toList = s.data.toList then none else xa.l s2.data.toList) = none
   split
   · rfl
   · rw [e, ha] at hb
     obtain rfl := Option.some.inj hb
     exact hf
 · rw [if_neg e] at h3
   by_cases e2 : b = i
   · exact absurd e2.symm m.ib
   · rw [if_neg e2, hb] at h3
     obtain rfl := Option.some.inj h3
     exact hf
set_option maxHeartbeats 1000000 in
open Classical in
theorem Sim.rename (h : Sim t r) (hw : WellP t) (a : Int) (s : ByteArray) (b : Int) (s2 : ByteArray) : (D.renameR r a s b s2).1 = (renameP t a s b s2).1 ∧ Sim (renameP t a s b s2).2 (D.renameR r a s b s2).2 := by
 have fail : ∀ e : Int, D.renameR r a s b s2 = (e, r) → renameP t a s b s2 = (e, t) → (D.renameR r a s b s2).1 = (renameP t a s b s2).1 ∧ Sim (renameP t a s b s2).2 (D.renameR r a s b s2).2 := fun e h1 h2 => by
  rw [h1, h2]
  exact ⟨rfl, h⟩
 by_cases h1 : D.nameB s = false ∨ D.nameB s2 = false
 · refine fail 2 (by unfold D.renameR; rw [if_pos h1]) ?_
   have : firstE [namesE [s, s2], thereE t [a, b], dirsE t [a, b]] = 2 := by rw [names_two, if_pos h1, firstE_ne (by decide)]
   unfold renameP
   rw [this, if_pos (by decide)]
 have n1 : namesE [s, s2] = 0 := by rw [names_two, if_neg h1]
 by_cases h2 : D.thereB r a = false ∨ D.thereB r b = false
 · refine fail 3 (by unfold D.renameR; rw [if_neg h1, if_pos h2]) ?_
   have : firstE [namesE [s, s2], thereE t [a, b], dirsE t [a, b]] = 3 := by rw [firstE_eq n1, h.thereE2 hw, if_pos h2, firstE_ne (by decide)]
   unfold renameP
   rw [this, if_pos (by decide)]
 have n2 : thereE t [a, b] = 0 := by rw [h.thereE2 hw, if_neg h2]
 obtain ⟨xa, hxa⟩ := h.some_ hw (i := a) (by cases hh : D.thereB r a; exact absurd (.inl hh) h2; rfl)
 obtain ⟨xb, hxb⟩ := h.some_ hw (i := b) (by cases hh : D.thereB r b; exact absurd (.inr hh) h2; rfl)
 by_cases h3 : ((D.ndAt r a).kind != 2) = true ∨ ((D.ndAt r b).kind != 2) = true
 · refine fail 180 (by unfold D.renameR; rw [if_neg h1, if_neg h2, if_pos h3]) ?_
   have : firstE [namesE [s, s2], thereE t [a, b], dirsE t [a, b]] = 180 := by rw [firstE_eq n1, firstE_eq n2, h.dirsE2 hxa hxb, if_pos h3, firstE_ne (by decide)]
   unfold renameP
   rw [this, if_pos (by decide)]
 have n3 : dirsE t [a, b] = 0 := by rw [h.dirsE2 hxa hxb, if_neg h3]
 have hall : firstE [namesE [s, s2], thereE t [a, b], dirsE t [a, b]] = 0 := by rw [firstE_eq n1, firstE_eq n2, firstE_eq n3]; rfl
 have hR : D.renameR r a s b s2 = if (lookP t a s).2 ≠ 0 then ((lookP t a s).2, r) else D.renameB r a s b s2 (lookP t a s).1 := by
  unfold D.renameR
  rw [if_neg h1, if_neg h2, if_neg h3, h.look hw]
 by_cases h4 : (lookP t a s).2 ≠ 0
 · refine fail _ (by rw [hR, if_pos h4]) ?_
   unfold renameP
   rw [hall, if_neg (by decide), if_pos h4]
 obtain ⟨xa', xi, g1, g2, g3, g4, g5, _, hak⟩ := look_okP hw.good (Decidable.not_not.1 h4)
 rw [hxa] at g1
 obtain rfl := Option.some.inj g1
 obtain ⟨ino, hino⟩ : ∃ ino, (lookP t a s).1 = ino := ⟨_, rfl⟩
 rw [hino] at g2 g3 g4 g5
 have hbk : xb.kind = 2 := by
  rw [← (h.node b xb hxb).kind]
  have := fun c => h3 (.inr c)
  simpa using this
 have ki := (h.node ino xi g3).kind
 have hP : renameP t a s b s2 = if xi.kind = 2 ∧ Bel t ino b then (183, t) else match xb.l s2.data.toList with
   | none => (0, moveT t a s b s2 ino)
   | some old => if old = ino then (0, t) else match t.n old with
    | some xo => if givesE xi xo ≠ 0 then (givesE xi xo, t) else (0, moveT (dropT t b xb s2 old xo) a s b s2 ino)
    | none => (0, t) := by
  unfold renameP
  rw [hall, if_neg (by decide), if_neg h4, hino, g3, hxb]
  rfl
 have hs2 : s2.size ≤ maxLen := nameB_small (by cases hh : D.nameB s2; exact absurd (.inr hh) h1; rfl)
 have hn2 : D.nameB s2 = true := by cases hh : D.nameB s2; exact absurd (.inr hh) h1; rfl
 rw [if_neg h4, hino] at hR
 have hund : (((D.ndAt r ino).kind == 2) = true ∧ D.underB r b ino = true) ↔ xi.kind = 2 ∧ Bel t ino b := by
  rw [D.underB_iff, h.under hw hxb hbk g5, ki]
  simp
 by_cases h5 : xi.kind = 2 ∧ Bel t ino b
 · refine fail 183 (by rw [hR]; unfold D.renameB; rw [if_pos (hund.2 h5)]) ?_
   rw [hP, if_pos h5]
 rw [if_neg h5] at hP
 have hnb : xi.kind = 2 → ¬ Bel t ino b := fun c d => h5 ⟨c, d⟩
 have hlb : lookP t b s2 = ((xb.l s2.data.toList).getD 0, if (xb.l s2.data.toList).getD 0 = 0 then 3 else 0) := by
  have h0 : firstE [namesE [s2], thereE t [b], dirsE t [b]] = 0 := by
   rw [← h.dir hw]
   unfold D.dirE
   rw [if_neg (by rw [hn2]; decide), if_neg (by rw [h.there hw, hxb]; simp), if_neg (by rw [(h.node b xb hxb).kind, hbk]; decide)]
  unfold lookP
  rw [h0, if_neg (by decide), hxb]
 have hB : D.renameB r a s b s2 ino = if (lookP t b s2).2 = 0 then D.renameC r a s b s2 ino (lookP t b s2).1 else (0, D.addT (D.delS r a s) b ⟨s2, ino⟩) := by
  unfold D.renameB
  rw [if_neg (fun e => h5 (hund.1 e)), h.look hw]
 rw [hB, hlb] at hR
 cases ho : xb.l s2.data.toList with
 | none =>
  rw [ho] at hR hP
  simp only [Option.getD_none, if_true] at hR hP
  rw [if_neg (by decide)] at hR
  rw [hR, hP]
  exact ⟨rfl, h.move hw hxa g2 g3 hxb hbk ho hnb hs2⟩
 | some old =>
  have hop := ent_pos hw hxb ho
  rw [ho] at hR hP
  simp only [Option.getD_some] at hR hP
  rw [if_neg (show ¬ old = 0 by omega), if_pos rfl] at hR
  obtain ⟨xo, hxo⟩ := hop.2.2.2.2
  rw [hxo] at hP
  simp only at hP
  have ko := (h.node old xo hxo).kind
  by_cases h6 : old = ino
  · refine fail 0 (by rw [hR]; unfold D.renameC; rw [if_pos (by simpa using h6)]) ?_
    rw [hP, if_pos h6]
  rw [if_neg h6] at hP
  have hC : D.renameC r a s b s2 ino old = if givesE xi xo ≠ 0 then (givesE xi xo, r) else (0, D.addT (D.delS (D.freeT (D.delS r b s2) old) a s) b ⟨s2, ino⟩) := by
   unfold D.renameC
   have hem := (h.node old xo hxo).empty
   rw [if_neg (by simpa using h6), ki, ko]
   unfold givesE
   rw [hem]
   have hfile : xo.kind ≠ 2 → (D.ndAt r old).l.length = 0 := fun hk => by
    cases hl : (D.ndAt r old).l with
    | nil => rfl
    | cons e l =>
     have hq := ((h.node old xo hxo).mem e.name.data.toList e.ino).1 ⟨e, by rw [hl]; exact List.mem_cons_self .., rfl, rfl⟩
     exact absurd (ent_pos hw hxo hq).2.2.2.1 hk
   by_cases k1 : xo.kind = 2 <;> by_cases k2 : xi.kind = 2
   · by_cases hl : (D.ndAt r old).l.length = 0
     · simp [k1, k2, hl]
     · simp [k1, k2, hl, Nat.pos_of_ne_zero hl]
   · simp [k1, k2]
   · simp [k1, k2]
   · simp [k1, k2, hfile k1]
  rw [hC] at hR
  by_cases h7 : givesE xi xo ≠ 0
  · refine fail _ (by rw [hR, if_pos h7]) ?_
    rw [hP, if_pos h7]
  · rw [if_neg h7] at hR hP
    rw [hR, hP]
    refine ⟨rfl, ?_⟩
    obtain ⟨xa1, xi1, xb1, o⟩ := hw.over hxa g2 g3 hxb hbk ho h6 hxo (Decidable.not_not.1 h7) hnb
    exact (h.dropT_ hw hxb ho hxo).move o.well o.na o.ent o.ni o.nb o.kind o.free o.loop hs2
end
end Go.Proofs.YtogljgiefmfafaaGreat
namespace Go.Proofs.YtogljgiefmfafaaGreat
open Go.RowKit Go.Maps
def isPo (o : Obj) : Prop := (∃ es c, o = .map es c) ∨ (∃ cs fr, o = .cells cs 77 fr) ∨ (∃ cs fr, o = .cells cs 89 fr)
def F0 (P : Nat) (y : Lay) (t : PT) (b : Nat) : Prop := b = P ∨ b = y.M ∨ ∃ i x, t.n i = some x ∧ (b = y.f i ∨ b = y.L i ∨ b = y.G i)
section
variable {w W W2 : World} {F : Nat → Prop} {P N N' P2 G2 : Nat} {y : Lay} {t t' : PT} {r r' : D.Tr}
theorem TreeM.sub (h : TreeM w F P N y t) {b : Nat} (hb : F0 P y t b) : F b := by
 rcases hb with rfl | rfl | ⟨i, x, hx, rfl | rfl | rfl⟩
 · exact h.fP
 · exact h.fM
 · exact (h.foot i x hx).1
 · exact (h.foot i x hx).2.1
 · exact (h.foot i x hx).2.2
theorem TreeM.exact (h : TreeM w F P N y t) : TreeM w (F0 P y t) P N y t :=
 ⟨h.head, h.nodes, h.node, h.pos, h.own, h.ownM, h.ownP, .inl rfl, .inr (.inl rfl), fun i x hx => ⟨.inr (.inr ⟨i, x, hx, .inl rfl⟩), .inr (.inr ⟨i, x, hx, .inr (.inl rfl)⟩), .inr (.inr ⟨i, x, hx, .inr (.inr rfl)⟩)⟩, fun b hb => h.lt b (h.sub hb)⟩
theorem TreeM.isP (h : TreeM w F P N y t) {b : Nat} (hb : F0 P y t b) : ∃ o, w.heap[b]? = some o ∧ isPo o := by
 rcases hb with rfl | rfl | ⟨i, x, hx, rfl | rfl | rfl⟩
 · exact ⟨_, h.head, .inr (.inl ⟨_, _, rfl⟩)⟩
 · obtain ⟨es, c, h1⟩ := h.nodes.isMap
   exact ⟨_, h1, .inl ⟨_, _, rfl⟩⟩
 · exact ⟨_, (h.node i x hx).cells, .inr (.inr ⟨_, _, rfl⟩)⟩
 · obtain ⟨es, c, h1⟩ := (h.node i x hx).ents.isMap
   exact ⟨_, h1, .inl ⟨_, _, rfl⟩⟩
 · obtain ⟨es, c, h1⟩ := (h.node i x hx).pages.isMap
   exact ⟨_, h1, .inl ⟨_, _, rfl⟩⟩
end
structure Pl (k : Nat) (t : PT) (r : D.Tr) : Prop where
 well : WellP t
 held : HeldK k t
 sim : Sim t r
 wr : D.Well r.length k r
end Go.Proofs.YtogljgiefmfafaaGreat
