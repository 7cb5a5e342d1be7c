/- A range over a map whose entries turn on the way. -/
import Derived.Test.YtpcjbfhgmcioaaaGreatRK
import Derived.Maps.RangeWalk
namespace Go.Proofs.YtpcjbfhgmcioaaaGreat
open Go.RowKit Go.Maps
open Go.MapKept
open Go.ChangeMaps
open Go.WideElems (Fit rd rg pl rd_key rd_val rg_of rd_mk other_key)

/-- A range over map b under way: iterator r; which entries are still to come. -/
def RangeAt (w : World) (P : Program) (k : TypeId) (b r n : Nat) (m : Lit → Option Value) (left : Lit → Bool) (cnt : Nat) : Prop :=
  ∃ D : DataW Value, w.ranges P k anyElem b r n D left cnt ∧ ∀ kl, WideAt.IsKeyLit kl → ofD D kl = m kl
section
variable {P : Program} {k t e : TypeId} {w w' : World} {b r n cnt : Nat} {m : Lit → Option Value} {left : Lit → Bool}
theorem RangeAt.owns (h : RangeAt w P k b r n m left cnt) : MapAt w P k b n m := by obtain ⟨D, h1, h2⟩ := h; exact ⟨D, h1.owns, h2⟩
theorem RangeAt.ltr (h : RangeAt w P k b r n m left cnt) : r < w.heap.size := by obtain ⟨D, h1, _⟩ := h; exact h1.lt
theorem RangeAt.ne (h : RangeAt w P k b r n m left cnt) : r ≠ b := by obtain ⟨D, h1, _⟩ := h; exact h1.ne
theorem RangeAt.left_eq (h : RangeAt w P k b r n m left cnt) : w.rangeLeft b r = cnt := by obtain ⟨D, h1, _⟩ := h; exact h1.left_eq
theorem RangeAt.congr (h : RangeAt w P k b r n m left cnt) {m' : Lit → Option Value} (hm : ∀ kl, WideAt.IsKeyLit kl → m kl = m' kl) : RangeAt w P k b r n m' left cnt := by
  obtain ⟨D, h1, h2⟩ := h; exact ⟨D, h1, fun kl hk => (h2 kl hk).trans (hm kl hk)⟩
theorem RangeAt.same (h : RangeAt w P k b r n m left cnt) (h1 : w'.heap[b]? = w.heap[b]?) (h2 : w'.heap[r]? = w.heap[r]?) : RangeAt w' P k b r n m left cnt := by
  obtain ⟨D, ⟨es, clock, since, seen, c0, hb, F, hs, hD, hr, rest⟩, hm⟩ := h
  exact ⟨D, ⟨es, clock, since, seen, c0, h1.trans hb, F, hs, hD, h2.trans hr, rest⟩, hm⟩
theorem RangeAt.below (h : RangeAt w P k b r n m left cnt) (hb : Below w.heap.size w w') : RangeAt w' P k b r n m left cnt := h.same (hb.block _ h.owns.lt) (hb.block _ h.ltr)
theorem ofD_has {D : DataW Value} (h : w.ownsMap P k anyElem b n D) (K : Keyed P k) {kl : Lit} (hk : WideAt.IsKeyLit kl) : Maps.has D kl = (ofD D kl).isSome := by
  obtain ⟨es, clock, hb, F, _, rfl⟩ := h
  have hat := WideShapes.atKey_sorted (es.toList.map (rg P k anyElem)) (Maps.fit_rising K F) kl hk
  by_cases hx : ∃ x ∈ es.toList, (rg P k anyElem x).1 = kl
  · obtain ⟨x, hx, hxk⟩ := hx
    obtain ⟨y, hy⟩ := F.reads x hx
    obtain ⟨z, hz, hzd⟩ := rd_val hy
    cases hz
    have h1 : ofD (DataW.map ((es.toList.map (rg P k anyElem)).foldr DataW.insert [])) kl = some x.val := by
      unfold ofD
      rw [hat.2 (rg P k anyElem x) (List.mem_map.2 ⟨x, hx, rfl⟩) hxk, rg_of hy, hzd]
    rw [h1]
    show (List.foldr DataW.insert [] _).any _ = true
    exact List.any_eq_true.2 ⟨_, mem_sorted.2 (List.mem_map.2 ⟨x, hx, rfl⟩), by rw [hxk]; exact WideAt.sameKey_self hk⟩
  · have h1 : ofD (DataW.map ((es.toList.map (rg P k anyElem)).foldr DataW.insert [])) kl = none := by
      unfold ofD
      rw [hat.1 (fun p hp e1 => by
        obtain ⟨x, hx', rfl⟩ := List.mem_map.1 hp
        exact hx ⟨x, hx', e1⟩)]
    rw [h1]
    show (List.foldr DataW.insert [] _).any _ = false
    rw [List.any_eq_false]
    intro p hp
    obtain ⟨x, hx', rfl⟩ := List.mem_map.1 (mem_sorted.1 hp)
    intro hh
    exact hx ⟨x, hx', WideAt.sameKey_eq hh⟩
/-- range m. -/
theorem MapAt.range (h : MapAt w P k b n m) (K : Keyed P k) (ht : P.underlying t = some (.map k e)) :
    ∃ w' left cnt, (Instr.range t (.map (some b))).run P w = .ok (.pointer (some ⟨w.heap.size, 0, none⟩)) w' ∧ RangeAt w' P k b w.heap.size n m left cnt ∧ (∀ kl, WideAt.IsKeyLit kl → left kl = (m kl).isSome) ∧ Below w.heap.size w w' ∧ w'.heap.size = w.heap.size + 1 := by
  obtain ⟨D, hD, hm⟩ := h
  obtain ⟨w', h1, h2, h3, h4⟩ := hD.range K ht
  exact ⟨w', _, _, h1, ⟨D, h2, hm⟩, fun kl hk => by rw [ofD_has hD K hk, hm kl hk], ⟨h3.os, h3.tape, h3.output, h3.size, fun i hi => h3.block i hi (by simp)⟩, h4⟩
/-- The step. -/
theorem RangeAt.next (h : RangeAt w P k b r n m left cnt) (K : Keyed P k) (ty : TypeId) :
    (cnt = 0 ∧ (∀ kl, left kl = false) ∧ (Instr.next (.pointer (some ⟨r, 0, none⟩)) false ty).run P w = .ok (.tuple #[.bool false]) w) ∨
    ∃ key v kl w' cnt', keyOf P k key = some kl ∧ left kl = true ∧ m kl = some v ∧ (Instr.next (.pointer (some ⟨r, 0, none⟩)) false ty).run P w = .ok (.tuple #[.bool true, key, v]) w' ∧
      RangeAt w' P k b r n m (fun x => left x && !x.sameKey kl) cnt' ∧ cnt' < cnt ∧ w.grownBy w' (some r) ∧ w'.heap.size = w.heap.size ∧ (Instr.entry (.pointer (some ⟨r, 0, none⟩))).run P w' = .ok (.tuple #[key, v]) w' := by
  obtain ⟨D, hD, hm⟩ := h
  rcases hD.next K ty with h1 | ⟨key, v, kl, yv, w', cnt', h1, h2, h3, h4, h5, h6, h7, h8, h9, h10⟩
  · exact .inl h1
  · cases h3
    refine .inr ⟨key, v, kl, w', cnt', h1, h2, ?_, h5, ⟨D, h6, hm⟩, h7, h8, h9, h10⟩
    rw [← hm kl (K.key h1)]
    unfold ofD
    rw [h4]
/-- delete(m, k), on the way. -/
theorem RangeAt.drop (h : RangeAt w P k b r n m left cnt) (K : Keyed P k) (ht : P.underlying t = some (.map k e)) {key : Value} {kl : Lit} (hkey : keyOf P k key = some kl) (ty : TypeId) :
    ∃ w' cnt', (Builtin.delete_ #[t, k] ty #[.map (some b), key]).run P w = .ok (.tuple #[]) w' ∧ RangeAt w' P k b r n (delM m kl) (fun x => left x && !x.sameKey kl) cnt' ∧ cnt' ≤ cnt ∧ w.mapTurned w' b := by
  obtain ⟨D, hD, hm⟩ := h
  obtain ⟨w', cnt', h1, h2, h3, h4⟩ := hD.drop K ht hkey ty
  refine ⟨w', cnt', h1, ⟨_, h2, fun x hx => ?_⟩, h3, h4⟩
  unfold delM
  by_cases hs : x.sameKey kl = true
  · rw [if_pos hs]
    have : x = kl := WideAt.sameKey_eq hs
    subst this
    unfold ofD
    rw [Maps.atKey_del_same]
  · rw [if_neg hs, ← hm x hx]
    have hne : x ≠ kl := fun e => hs (by rw [e]; exact WideAt.sameKey_self (e ▸ hx))
    unfold ofD
    rw [Maps.atKey_del_other hne]
/-- m[k] = v at a key that is there, on the way. -/
theorem RangeAt.store (h : RangeAt w P k b r n m left cnt) (K : Keyed P k) (ht : P.underlying t = some (.map k e)) (hn : n < maxLen) {key val : Value} {kl : Lit} (hkey : keyOf P k key = some kl) (hp : (m kl).isSome = true) :
    ∃ w', (Instr.mapUpdate t (.map (some b)) key val).run P w = .ok () w' ∧ RangeAt w' P k b r n (updM m kl val) left cnt ∧ w.mapTurned w' b := by
  have hmap := h.owns
  have hne := h.ne
  have hkk := K.key hkey
  obtain ⟨D, ⟨es, clock, since, seen, c0, hb, F, hs, rfl, hr, hold, hcnt, hl1, hl2, hsc, hsk⟩, hm⟩ := h
  have hroom : es.size < maxLen := Nat.lt_of_le_of_lt hs hn
  obtain ⟨es1, clock1, hrun1, F1, hput1, _⟩ := Maps.fit_store (R' := anyElem) K ht hb F hroom (fun _ _ _ _ hz => hz) hkey (val := val) (yv := (.held val, [])) rfl
  rcases K.find w hkey es.toList F.keys with ⟨h1, h2⟩ | ⟨j, e0, h1, h2, h3⟩
  · exfalso
    rw [← hm kl hkk, ← ofD_has ⟨es, clock, hb, F, Nat.le_refl _, rfl⟩ K hkk] at hp
    obtain ⟨p, hp1, hp2⟩ := List.any_eq_true.1 (show (List.foldr DataW.insert [] _).any (fun p => p.1.sameKey kl) = true from hp)
    obtain ⟨x, hx, rfl⟩ := List.mem_map.1 (mem_sorted.1 hp1)
    obtain ⟨y, hy⟩ := F.reads x hx
    have hxk := WideAt.sameKey_eq hp2
    rw [rg_of hy] at hxk
    exact h2 x hx (K.inj (hxk ▸ rd_key hy) hkey)
  · have hjl : j < es.toList.length := (List.getElem?_eq_some_iff.1 h2).1
    have hj : es[j]? = some e0 := by simpa using h2
    have hrun2 : (Instr.mapUpdate t (.map (some b)) key val).run P w = .ok () (setBlock w b (.map (es.modify j (fun e' => { e' with key := key, val := val })) clock)) := by
      simp [Instr.mapUpdate, run_underlying ht, MapKept.run_getObj_map hb, K.check w false hkey, h1, hj, h3, K.stays w hkey, MapKept.run_setObj_map _ hb, Result.andThen, setBlock]
    have heq : es1 = es.modify j (fun e' => { e' with key := key, val := val }) ∧ clock1 = clock := by
      rw [hrun1] at hrun2
      injection hrun2 with _ hw
      have e1 : (setBlock w b (.map es1 clock1)).heap[b]? = some (.map es1 clock1) := heap_setBlock_same hb _
      rw [hw, heap_setBlock_same hb _] at e1
      injection e1 with e1
      injection e1 with e1 e2
      exact ⟨e1.symm, e2.symm⟩
    obtain ⟨rfl, rfl⟩ := heq
    have hlist : (es.modify j (fun e' => { e' with key := key, val := val })).toList = es.toList.set j { e0 with key := key, val := val } := by
      rw [Array.toList_modify, modify_eq_set _ _ _ _ h2]
    have he0 : e0 ∈ es.toList := List.mem_of_getElem? h2
    have who : ∀ x ∈ es.toList.set j { e0 with key := key, val := val }, x = { e0 with key := key, val := val } ∨ x ∈ es.toList := by
      intro x hx
      rcases List.mem_or_eq_of_mem_set hx with h | h
      · exact .inr h
      · exact .inl h
    have rgsame : (rg P k anyElem { e0 with key := key, val := val }).1 = (rg P k anyElem e0).1 := by
      obtain ⟨y, hy⟩ := F.reads e0 he0
      have e2 := rd_mk (P := P) (k := k) (R := anyElem) (born := e0.born) hkey (show anyElem val = some (.held val, []) from rfl)
      rw [rg_of hy]
      have e3 : rg P k anyElem { e0 with key := key, val := val } = (kl, .held val) := rg_of e2
      rw [e3]
      have := rd_key hy
      rw [h3, hkey] at this
      injection this
    refine ⟨_, hrun1, ⟨_, ⟨_, clock1, since, seen, c0, heap_setBlock_same hb _, F1, by simpa using hs, rfl, (heap_setBlock_other hb _ hne).trans hr, fun x hx => ?_, ?_, fun x hx => ?_, fun kl' hkl' => ?_, hsc, hsk⟩, fun x hx => ?_⟩, ⟨es, clock1, _, clock1, hb, rfl⟩⟩
    · rw [hlist] at hx
      rcases who x hx with rfl | hx
      · exact hold e0 he0
      · exact hold x hx
    · rw [← hcnt]
      have e1 : ∀ a : Array MapEntry, (leftOf a seen).size = (a.toList.map (·.born)).countP (fun z => !seen.contains z) := fun a => by
        have e0' : (leftOf a seen).size = (a.toList.filter fun e => !seen.contains e.born).length := by
          unfold leftOf
          rw [← Array.toList_filter, Array.length_toList]
        rw [e0', ← List.countP_eq_length_filter, List.countP_map]
        rfl
      rw [e1, e1, hlist, List.map_set]
      congr 1
      apply List.ext_getElem?
      intro i
      rw [List.getElem?_set]
      split
      · rename_i hij
        subst hij
        rw [if_pos (by simpa using hjl), List.getElem?_map, h2]
        rfl
      · rfl
    · rw [hlist] at hx
      rcases who x hx with rfl | hx
      · rw [rgsame]; exact hl1 e0 he0
      · exact hl1 x hx
    · obtain ⟨x, hx, hxk⟩ := hl2 kl' hkl'
      obtain ⟨i, hi⟩ := List.getElem?_of_mem hx
      by_cases hij : i = j
      · subst hij
        rw [h2] at hi
        cases hi
        exact ⟨{ e0 with key := key, val := val }, by rw [hlist]; exact List.mem_of_getElem? (i := i) (by rw [List.getElem?_set_self hjl]), by rw [rgsame]; exact hxk⟩
      · exact ⟨x, by rw [hlist]; exact List.mem_of_getElem? (i := i) (by rw [List.getElem?_set_ne (fun e => hij e.symm)]; exact hi), hxk⟩
    · rw [hput1, ← DataW.put_eq]
      unfold updM
      by_cases hsx : x.sameKey kl = true
      · rw [if_pos hsx]
        have : x = kl := WideAt.sameKey_eq hsx
        subst this
        unfold ofD
        rw [Maps.atKey_put_same ⟨_, rfl⟩ hx]
      · rw [if_neg hsx, ← hm x hx]
        have hne' : x ≠ kl := fun e => hsx (by rw [e]; exact WideAt.sameKey_self (e ▸ hx))
        unfold ofD
        rw [Maps.atKey_put_other hne']
end
end Go.Proofs.YtpcjbfhgmcioaaaGreat
