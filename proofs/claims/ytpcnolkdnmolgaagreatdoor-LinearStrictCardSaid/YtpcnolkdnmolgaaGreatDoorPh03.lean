/- A range over a map whose entries turn on the way. -/
import Derived.Test.YtpcnolkdnmolgaaGreatDoorPh02
import Derived.Deep.DeepCutAuto
import Derived.Deep.CutBlock
import Derived.Maps.RangeWalk
import Derived.Sort.MapsRangeIn
import Derived.RangeFuncNested
import Derived.RangeFuncBound
import Derived.RangeFuncLeaves
import Derived.RangeFuncBox
import Derived.RangeFuncFrom
import Derived.RangeFuncOne
import Derived.Maps.AppendAt
import Derived.Shelf.Abstract
import Derived.Shelf.RegionOpen
import Derived.OwnWalkIn
import Derived.TacticsInMore
import Derived.LoopNIn
import Derived.LoopIn
import Derived.Test.YtpcnolkdnmolgaaGreatDoorProg
import Derived.Shelf.SlLaysF0
import Derived.WalkKit
import Derived.Shelf.SlSortCmp.WholeK
import Derived.WalkLawsBesides
namespace Go.Proofs.YtpcnolkdnmolgaaGreatDoor
section
open Go.RowKit Go.Maps
open Go.MapKept
open Go.ChangeMaps
open Go.WideElems (Fit rd rg pl rd_key rd_val rg_of rd_mk other_key)
def RangeAt (w : World) (P : Program) (k : TypeId) (b r n : Nat) (m : Lit → Option Value) (left : Lit → Bool) (cnt : Nat) : Prop :=
 ∃ D : DataW Value, w.ranges P k anyElem b r n D left cnt ∧ ∀ kl, WideAt.IsKeyLit kl → ofD D kl = m kl
section
variable {P : Program} {k t e : TypeId} {w w' : World} {b r n cnt : Nat} {m : Lit → Option Value} {left : Lit → Bool}
theorem RangeAt.owns (h : RangeAt w P k b r n m left cnt) : MapAt w P k b n m := by obtain ⟨D, h1, h2⟩ := h; exact ⟨D, h1.owns, h2⟩
theorem RangeAt.ltr (h : RangeAt w P k b r n m left cnt) : r < w.heap.size := by obtain ⟨D, h1, _⟩ := h; exact h1.lt
theorem RangeAt.ne (h : RangeAt w P k b r n m left cnt) : r ≠ b := by obtain ⟨D, h1, _⟩ := h; exact h1.ne
theorem RangeAt.left_eq (h : RangeAt w P k b r n m left cnt) : w.rangeLeft b r = cnt := by obtain ⟨D, h1, _⟩ := h; exact h1.left_eq
theorem RangeAt.congr (h : RangeAt w P k b r n m left cnt) {m' : Lit → Option Value} (hm : ∀ kl, WideAt.IsKeyLit kl → m kl = m' kl) : RangeAt w P k b r n m' left cnt := by
 obtain ⟨D, h1, h2⟩ := h; exact ⟨D, h1, fun kl hk => (h2 kl hk).trans (hm kl hk)⟩
theorem RangeAt.same (h : RangeAt w P k b r n m left cnt) (h1 : w'.heap[b]? = w.heap[b]?) (h2 : w'.heap[r]? = w.heap[r]?) : RangeAt w' P k b r n m left cnt := by
 obtain ⟨D, ⟨es, clock, since, seen, c0, hb, F, hs, hD, hr, rest⟩, hm⟩ := h
 exact ⟨D, ⟨es, clock, since, seen, c0, h1.trans hb, F, hs, hD, h2.trans hr, rest⟩, hm⟩
theorem RangeAt.below (h : RangeAt w P k b r n m left cnt) (hb : Below w.heap.size w w') : RangeAt w' P k b r n m left cnt := h.same (hb.block _ h.owns.lt) (hb.block _ h.ltr)
theorem ofD_has {D : DataW Value} (h : w.ownsMap P k anyElem b n D) (K : Keyed P k) {kl : Lit} (hk : WideAt.IsKeyLit kl) : Maps.has D kl = (ofD D kl).isSome := by
 obtain ⟨es, clock, hb, F, _, rfl⟩ := h
 have hat := WideShapes.atKey_sorted (es.toList.map (rg P k anyElem)) (Maps.fit_rising K F) kl hk
 by_cases hx : ∃ x ∈ es.toList, (rg P k anyElem x).1 = kl
 · obtain ⟨x, hx, hxk⟩ := hx
   obtain ⟨y, hy⟩ := F.reads x hx
   obtain ⟨z, hz, hzd⟩ := rd_val hy
   cases hz
   have h1 : ofD (DataW.map ((es.toList.map (rg P k anyElem)).foldr DataW.insert [])) kl = some x.val := by
    unfold ofD
    rw [hat.2 (rg P k anyElem x) (List.mem_map.2 ⟨x, hx, rfl⟩) hxk, rg_of hy, hzd]
   rw [h1]
   show (List.foldr DataW.insert [] _).any _ = true
   exact List.any_eq_true.2 ⟨_, mem_sorted.2 (List.mem_map.2 ⟨x, hx, rfl⟩), by rw [hxk]; exact WideAt.sameKey_self hk⟩
 · have h1 : ofD (DataW.map ((es.toList.map (rg P k anyElem)).foldr DataW.insert [])) kl = none := by
    unfold ofD
    rw [hat.1 (fun p hp e1 => by
     obtain ⟨x, hx', rfl⟩ := List.mem_map.1 hp
     exact hx ⟨x, hx', e1⟩)]
   rw [h1]
   show (List.foldr DataW.insert [] _).any _ = false
   rw [List.any_eq_false]
   intro p hp
   obtain ⟨x, hx', rfl⟩ := List.mem_map.1 (mem_sorted.1 hp)
   intro hh
   exact hx ⟨x, hx', WideAt.sameKey_eq hh⟩
theorem MapAt.range (h : MapAt w P k b n m) (K : Keyed P k) (ht : P.underlying t = some (.map k e)) :
  ∃ w' left cnt, (Instr.range t (.map (some b))).run P w = .ok (.pointer (some ⟨w.heap.size, 0, none⟩)) w' ∧ RangeAt w' P k b w.heap.size n m left cnt ∧ (∀ kl, WideAt.IsKeyLit kl → left kl = (m kl).isSome) ∧ Below w.heap.size w w' ∧ w'.heap.size = w.heap.size + 1 := by
 obtain ⟨D, hD, hm⟩ := h
 obtain ⟨w', h1, h2, h3, h4⟩ := hD.range K ht
 exact ⟨w', _, _, h1, ⟨D, h2, hm⟩, fun kl hk => by rw [ofD_has hD K hk, hm kl hk], ⟨h3.os, h3.tape, h3.output, h3.size, fun i hi => h3.block i hi (by simp)⟩, h4⟩
theorem RangeAt.next (h : RangeAt w P k b r n m left cnt) (K : Keyed P k) (ty : TypeId) :
  (cnt = 0 ∧ (∀ kl, left kl = false) ∧ (Instr.next (.pointer (some ⟨r, 0, none⟩)) false ty).run P w = .ok (.tuple #[.bool false]) w) ∨
  ∃ key v kl w' cnt', keyOf P k key = some kl ∧ left kl = true ∧ m kl = some v ∧ (Instr.next (.pointer (some ⟨r, 0, none⟩)) false ty).run P w = .ok (.tuple #[.bool true, key, v]) w' ∧
   RangeAt w' P k b r n m (fun x => left x && !x.sameKey kl) cnt' ∧ cnt' < cnt ∧ w.grownBy w' (some r) ∧ w'.heap.size = w.heap.size ∧ (Instr.entry (.pointer (some ⟨r, 0, none⟩))).run P w' = .ok (.tuple #[key, v]) w' := by
 obtain ⟨D, hD, hm⟩ := h
 rcases hD.next K ty with h1 | ⟨key, v, kl, yv, w', cnt', h1, h2, h3, h4, h5, h6, h7, h8, h9, h10⟩
 · exact .inl h1
 · cases h3
   refine .inr ⟨key, v, kl, w', cnt', h1, h2, ?_, h5, ⟨D, h6, hm⟩, h7, h8, h9, h10⟩
   rw [← hm kl (K.key h1)]
   unfold ofD
   rw [h4]
theorem RangeAt.drop (h : RangeAt w P k b r n m left cnt) (K : Keyed P k) (ht : P.underlying t = some (.map k e)) {key : Value} {kl : Lit} (hkey : keyOf P k key = some kl) (ty : TypeId) :
  ∃ w' cnt', (Builtin.delete_ #[t, k] ty #[.map (some b), key]).run P w = .ok (.tuple #[]) w' ∧ RangeAt w' P k b r n (delM m kl) (fun x => left x && !x.sameKey kl) cnt' ∧ cnt' ≤ cnt ∧ w.mapTurned w' b := by
 obtain ⟨D, hD, hm⟩ := h
 obtain ⟨w', cnt', h1, h2, h3, h4⟩ := hD.drop K ht hkey ty
 refine ⟨w', cnt', h1, ⟨_, h2, fun x hx => ?_⟩, h3, h4⟩
 unfold delM
 by_cases hs : x.sameKey kl = true
 · rw [if_pos hs]
   have : x = kl := WideAt.sameKey_eq hs
   subst this
   unfold ofD
   rw [Maps.atKey_del_same]
 · rw [if_neg hs, ← hm x hx]
   have hne : x ≠ kl := fun e => hs (by rw [e]; exact WideAt.sameKey_self (e ▸ hx))
   unfold ofD
   rw [Maps.atKey_del_other hne]
theorem RangeAt.store (h : RangeAt w P k b r n m left cnt) (K : Keyed P k) (ht : P.underlying t = some (.map k e)) (hn : n < maxLen) {key val : Value} {kl : Lit} (hkey : keyOf P k key = some kl) (hp : (m kl).isSome = true) :
  ∃ w', (Instr.mapUpdate t (.map (some b)) key val).run P w = .ok () w' ∧ RangeAt w' P k b r n (updM m kl val) left cnt ∧ w.mapTurned w' b := by
 have hmap := h.owns
 have hne := h.ne
 have hkk := K.key hkey
 obtain ⟨D, ⟨es, clock, since, seen, c0, hb, F, hs, rfl, hr, hold, hcnt, hl1, hl2, hsc, hsk⟩, hm⟩ := h
 have hroom : es.size < maxLen := Nat.lt_of_le_of_lt hs hn
 obtain ⟨es1, clock1, hrun1, F1, hput1, _⟩ := Maps.fit_store (R' := anyElem) K ht hb F hroom (fun _ _ _ _ hz => hz) hkey (val := val) (yv := (.held val, [])) rfl
 rcases K.find w hkey es.toList F.keys with ⟨h1, h2⟩ | ⟨j, e0, h1, h2, h3⟩
 · exfalso
   rw [← hm kl hkk, ← ofD_has ⟨es, clock, hb, F, Nat.le_refl _, rfl⟩ K hkk] at hp
   obtain ⟨p, hp1, hp2⟩ := List.any_eq_true.1 (show (List.foldr DataW.insert [] _).any (fun p => p.1.sameKey kl) = true from hp)
   obtain ⟨x, hx, rfl⟩ := List.mem_map.1 (mem_sorted.1 hp1)
   obtain ⟨y, hy⟩ := F.reads x hx
   have hxk := WideAt.sameKey_eq hp2
   rw [rg_of hy] at hxk
   exact h2 x hx (K.inj (hxk ▸ rd_key hy) hkey)
 · have hjl : j < es.toList.length := (List.getElem?_eq_some_iff.1 h2).1
   have hj : es[j]? = some e0 := by simpa using h2
   have hrun2 : (Instr.mapUpdate t (.map (some b)) key val).run P w = .ok () (setBlock w b (.map (es.modify j (fun e' => { e' with key := key, val := val })) clock)) := by
    simp [Instr.mapUpdate, run_underlying ht, MapKept.run_getObj_map hb, K.check w false hkey, h1, hj, h3, K.stays w hkey, MapKept.run_setObj_map _ hb, Result.andThen, setBlock]
   have heq : es1 = es.modify j (fun e' => { e' with key := key, val := val }) ∧ clock1 = clock := by
    rw [hrun1] at hrun2
    injection hrun2 with _ hw
    have e1 : (setBlock w b (.map es1 clock1)).heap[b]? = some (.map es1 clock1) := heap_setBlock_same hb _
    rw [hw, heap_setBlock_same hb _] at e1
    injection e1 with e1
    injection e1 with e1 e2
    exact ⟨e1.symm, e2.symm⟩
   obtain ⟨rfl, rfl⟩ := heq
   have hlist : (es.modify j (fun e' => { e' with key := key, val := val })).toList = es.toList.set j { e0 with key := key, val := val } := by
    rw [Array.toList_modify, modify_eq_set _ _ _ _ h2]
   have he0 : e0 ∈ es.toList := List.mem_of_getElem? h2
   have who : ∀ x ∈ es.toList.set j { e0 with key := key, val := val }, x = { e0 with key := key, val := val } ∨ x ∈ es.toList := by
    intro x hx
    rcases List.mem_or_eq_of_mem_set hx with h | h
    · exact .inr h
    · exact .inl h
   have rgsame : (rg P k anyElem { e0 with key := key, val := val }).1 = (rg P k anyElem e0).1 := by
    obtain ⟨y, hy⟩ := F.reads e0 he0
    have e2 := rd_mk (P := P) (k := k) (R := anyElem) (born := e0.born) hkey (show anyElem val = some (.held val, []) from rfl)
    rw [rg_of hy]
    have e3 : rg P k anyElem { e0 with key := key, val := val } = (kl, .held val) := rg_of e2
    rw [e3]
    have := rd_key hy
    rw [h3, hkey] at this
    injection this
   refine ⟨_, hrun1, ⟨_, ⟨_, clock1, since, seen, c0, heap_setBlock_same hb _, F1, by simpa using hs, rfl, (heap_setBlock_other hb _ hne).trans hr, fun x hx => ?_, ?_, fun x hx => ?_, fun kl' hkl' => ?_, hsc, hsk⟩, fun x hx => ?_⟩, ⟨es, clock1, _, clock1, hb, rfl⟩⟩
   · rw [hlist] at hx
     rcases who x hx with rfl | hx
     · exact hold e0 he0
     · exact hold x hx
   · rw [← hcnt]
     have e1 : ∀ a : Array MapEntry, (leftOf a seen).size = (a.toList.map (·.born)).countP (fun z => !seen.contains z) := fun a => by
      have e0' : (leftOf a seen).size = (a.toList.filter fun e => !seen.contains e.born).length := by
       unfold leftOf
       rw [← Array.toList_filter, Array.length_toList]
      rw [e0', ← List.countP_eq_length_filter, List.countP_map]
      rfl
     rw [e1, e1, hlist, List.map_set]
     congr 1
     apply List.ext_getElem?
     intro i
     rw [List.getElem?_set]
     split
     · rename_i hij
       subst hij
       rw [if_pos (by simpa using hjl), List.getElem?_map, h2]
       rfl
     · rfl
   · rw [hlist] at hx
     rcases who x hx with rfl | hx
     · rw [rgsame]; exact hl1 e0 he0
     · exact hl1 x hx
   · obtain ⟨x, hx, hxk⟩ := hl2 kl' hkl'
     obtain ⟨i, hi⟩ := List.getElem?_of_mem hx
     by_cases hij : i = j
     · subst hij
       rw [h2] at hi
       cases hi
       exact ⟨{ e0 with key := key, val := val }, by rw [hlist]; exact List.mem_of_getElem? (i := i) (by rw [List.getElem?_set_self hjl]), by rw [rgsame]; exact hxk⟩
     · exact ⟨x, by rw [hlist]; exact List.mem_of_getElem? (i := i) (by rw [List.getElem?_set_ne (fun e => hij e.symm)]; exact hi), hxk⟩
   · rw [hput1, ← DataW.put_eq]
     unfold updM
     by_cases hsx : x.sameKey kl = true
     · rw [if_pos hsx]
       have : x = kl := WideAt.sameKey_eq hsx
       subst this
       unfold ofD
       rw [Maps.atKey_put_same ⟨_, rfl⟩ hx]
     · rw [if_neg hsx, ← hm x hx]
       have hne' : x ≠ kl := fun e => hsx (by rw [e]; exact WideAt.sameKey_self (e ▸ hx))
       unfold ofD
       rw [Maps.atKey_put_other hne']
end
end

section
open Go.Shelf Go.RowKit
def sortE_ren : Go.Shelf.Ren := ⟨fun | 6 => 83 | 15 => 127 | 14 => 126 | 28 => 207 | 29 => 208 | 20 => 199 | 21 => 200 | 22 => 201 | 23 => 202 | 24 => 203 | 25 => 204 | 26 => 205 | 27 => 206 | 46 => 247 | 47 => 248 | 48 => 249 | 49 => 250 | 50 => 251 | 57 => 272 | n => n, fun | 22 => 37 | 24 => 100 | 25 => 163 | 3 => 3 | 39 => 222 | 0 => 0 | 53 => 29 | 55 => 238 | 4 => 4 | 46 => 263 | 45 => 262 | 50 => 176 | 5 => 5 | 9 => 9 | 66 => 284 | 70 => 236 | 76 => 296 | 77 => 297 | n => n, fun | n => n⟩
theorem sortE : SlLaysF0.n6 Tryz.prog sortE_ren := {
 mixed := by kernel_rfl
 f6 := ⟨Tryz.f83.name, by decide, Tryz.func83.trans (congrArg some (by kernel_rfl))⟩
 f14 := ⟨Tryz.f126.name, by decide, Tryz.func126.trans (congrArg some (by kernel_rfl))⟩
 f15 := Tryz.func127.trans (congrArg some (by kernel_rfl))
 f20 := ⟨Tryz.f199.name, by decide, Tryz.func199.trans (congrArg some (by kernel_rfl))⟩
 f21 := ⟨Tryz.f200.name, by decide, Tryz.func200.trans (congrArg some (by kernel_rfl))⟩
 f22 := ⟨Tryz.f201.name, by decide, Tryz.func201.trans (congrArg some (by kernel_rfl))⟩
 f23 := ⟨Tryz.f202.name, by decide, Tryz.func202.trans (congrArg some (by kernel_rfl))⟩
 f24 := ⟨Tryz.f203.name, by decide, Tryz.func203.trans (congrArg some (by kernel_rfl))⟩
 f25 := ⟨Tryz.f204.name, by decide, Tryz.func204.trans (congrArg some (by kernel_rfl))⟩
 f26 := ⟨Tryz.f205.name, by decide, Tryz.func205.trans (congrArg some (by kernel_rfl))⟩
 f27 := ⟨Tryz.f206.name, by decide, Tryz.func206.trans (congrArg some (by kernel_rfl))⟩
 f28 := Tryz.func207.trans (congrArg some (by kernel_rfl))
 f29 := Tryz.func208.trans (congrArg some (by kernel_rfl))
 f46 := ⟨Tryz.f247.name, by decide, Tryz.func247.trans (congrArg some (by kernel_rfl))⟩
 f47 := Tryz.func248.trans (congrArg some (by kernel_rfl))
 f48 := Tryz.func249.trans (congrArg some (by kernel_rfl))
 f49 := ⟨Tryz.f250.name, by decide, Tryz.func250.trans (congrArg some (by kernel_rfl))⟩
 f50 := ⟨Tryz.f251.name, by decide, Tryz.func251.trans (congrArg some (by kernel_rfl))⟩
 f57 := ⟨Tryz.f272.name, by decide, Tryz.func272.trans (congrArg some (by kernel_rfl))⟩
 t0 := Tryz.underlying0
 a0 := Tryz.isAgg0
 z0 := Tryz.sizeOf0
 v0 := Tryz.zeroValue0
 t3 := Tryz.underlying3
 a3 := Tryz.isAgg3
 z3 := Tryz.sizeOf3
 v3 := Tryz.zeroValue3
 t4 := Tryz.underlying4
 a4 := Tryz.isAgg4
 z4 := Tryz.sizeOf4
 v4 := Tryz.zeroValue4
 t5 := Tryz.underlying5
 a5 := Tryz.isAgg5
 z5 := Tryz.sizeOf5
 v5 := Tryz.zeroValue5
 t9 := Tryz.underlying9
 a9 := Tryz.isAgg9
 z9 := Tryz.sizeOf9
 v9 := Tryz.zeroValue9
 t22 := Tryz.underlying37
 a22 := Tryz.isAgg37
 z22 := Tryz.sizeOf37
 v22 := Tryz.zeroValue37
 t25 := Tryz.underlying163
 a25 := Tryz.isAgg163
 z25 := Tryz.sizeOf163
 v25 := Tryz.zeroValue163
 t39 := Tryz.underlying222
 a39 := Tryz.isAgg222
 z39 := Tryz.sizeOf222
 v39 := Tryz.zeroValue222
 t45 := Tryz.underlying262
 a45 := Tryz.isAgg262
 z45 := Tryz.sizeOf262
 v45 := Tryz.zeroValue262
 t46 := Tryz.underlying263
 a46 := Tryz.isAgg263
 z46 := Tryz.sizeOf263
 v46 := Tryz.zeroValue263
 t50 := Tryz.underlying176
 a50 := Tryz.isAgg176
 z50 := Tryz.sizeOf176
 v50 := Tryz.zeroValue176
 t53 := Tryz.underlying29
 a53 := Tryz.isAgg29
 z53 := Tryz.sizeOf29
 v53 := Tryz.zeroValue29
 t55 := Tryz.underlying238
 a55 := Tryz.isAgg238
 z55 := Tryz.sizeOf238
 v55 := Tryz.zeroValue238
 t66 := Tryz.underlying284
 a66 := Tryz.isAgg284
 z66 := Tryz.sizeOf284
 v66 := Tryz.zeroValue284
 t70 := Tryz.underlying236
 a70 := Tryz.isAgg236
 z70 := Tryz.sizeOf236
 v70 := Tryz.zeroValue236
 t76 := Tryz.underlying296
 a76 := Tryz.isAgg296
 z76 := Tryz.sizeOf296
 v76 := Tryz.zeroValue296
 t77 := Tryz.underlying297
 a77 := Tryz.isAgg297
 z77 := Tryz.sizeOf297
 v77 := Tryz.zeroValue297 }
end

section
open Go.RowKit Go.Maps Go.Sort
abbrev E := ByteArray × Int
def encE (x : E) : List Value := [.string x.1, .int .u32 x.2]
def nameL (x : E) : List UInt8 := x.1.data.toList
theorem bytesLess_lt : ∀ (x y : List UInt8), Op.bytesLess x y = ltStr x y
 | _, [] => by simp [Op.bytesLess, ltStr]
 | [], _ :: _ => by simp [Op.bytesLess, ltStr]
 | a :: x, b :: y => by
  rw [Op.bytesLess, bytesLess_lt x y]
  unfold ltStr
  rw [Bool.eq_iff_iff]
  simp only [Bool.or_eq_true, Bool.and_eq_true, decide_eq_true_eq, beq_iff_eq]
  rw [List.cons_lt_cons_iff]
def cmpE (x y : E) : Int := if ltStr (nameL x) (nameL y) = true then -1 else if nameL x = nameL y then 0 else 1
theorem ltE (x y : E) : Go.Proofs.ltOf cmpE x y = ltStr (nameL x) (nameL y) := by
 unfold Go.Proofs.ltOf cmpE
 cases h : ltStr (nameL x) (nameL y)
 · by_cases e : nameL x = nameL y <;> simp [e]
 · simp
theorem swoE : SWO (Go.Proofs.ltOf cmpE) where
 irrefl x := by rw [ltE]; exact swo_ltStr.irrefl _
 trans x y z h1 h2 := by rw [ltE] at *; exact swo_ltStr.trans _ _ _ h1 h2
 ntrans x y z h1 h2 := by rw [ltE] at *; exact swo_ltStr.ntrans _ _ _ h1 h2
theorem e_isNaN (x : ByteArray) (w : World) : Calls Tryz.prog 128 #[.string x] w fun e w' => e = .returned (.bool false) ∧ w = w' := by
 go_enter Tryz.func128, Tryz.ntmps128
 go_wp2
 go_ret
 exact ⟨by simp, rfl⟩
theorem e_compare (x y : E) (w : World) : Calls Tryz.prog 85 #[.string x.1, .string y.1] w fun e w' => e = .returned (.int .i64 (cmpE x y)) ∧ w = w' := by
 obtain ⟨b1, h1⟩ : ∃ b1, Op.bytesLess x.1.toList y.1.toList = b1 := ⟨_, rfl⟩
 obtain ⟨b2, h2⟩ : ∃ b2, (x.1.toList == y.1.toList) = b2 := ⟨_, rfl⟩
 have HC : Hid (cmpE x y = if b1 = true then -1 else if b2 = true then 0 else 1) := by
  show _ = _
  unfold cmpE nameL
  rw [← h1, ← h2, bytesLess_lt, Lib.toList_data, Lib.toList_data]
  simp
 go_enter Tryz.func85, Tryz.ntmps85
 cases b1 <;> cases b2
 all_goals go_wp2_with (go_at_call 128; refine (e_isNaN _ _).mono ?_; rintro e w' ⟨rfl, rfl⟩)
 all_goals go_ret
 all_goals exact ⟨by rw [HC.out]; rfl, rfl⟩
theorem e_closure (x y : E) (w : World) : Calls Tryz.prog 84 #[.agg #[.string x.1, .int .u32 x.2], .agg #[.string y.1, .int .u32 y.2]] w fun e w' => e = .returned (.int .i64 (cmpE x y)) ∧ ∃ q os', w' = grow (w.drewN q) os' := by
 have HC := zz (fun w => e_compare x y w)
 generalize cmpE x y = r at HC ⊢
 obtain ⟨x1, x2⟩ := x
 obtain ⟨y1, y2⟩ := y
 go_enter Tryz.func84, Tryz.ntmps84
 go_wp2_with (go_at_call 85; refine (HC.out _).mono ?_; rintro e w' ⟨rfl, rfl⟩)
 go_ret
 exact ⟨rfl, 0, _, by rw [alloc_eq_grow, alloc_eq_grow, grow_grow]; rfl⟩
theorem cmpLaysE (blk off size : Nat) (w : World) : CmpLays Tryz.prog 84 #[] encE 2 cmpE blk off size w := fun _ _ _ _ x y => e_closure x y _
theorem grown_sort {enc : E → List Value} (w : World) (blk off n : Nat) (d : Array E) (os : Array Obj) : w.grownBy (sortWorldK enc 2 w blk off n d os) (some blk) := by
 refine ⟨rfl, rfl, rfl, ?_, fun b hb hn => ?_⟩
 · show w.heap.size ≤ ((putRowK enc 2 (Go.Sort.ahead w n) blk off d).heap ++ os).size
   have : (putRowK enc 2 (Go.Sort.ahead w n) blk off d).heap.size = w.heap.size := by simp [putRowK]
   rw [Array.size_append, this]
   omega
 · show ((putRowK enc 2 (Go.Sort.ahead w n) blk off d).heap ++ os)[b]? = w.heap[b]?
   have hs : (putRowK enc 2 (Go.Sort.ahead w n) blk off d).heap.size = w.heap.size := by simp [putRowK]
   rw [Array.getElem?_append_left (by rw [hs]; exact hb)]
   have hne : blk ≠ b := fun e => hn (by rw [e])
   simp [putRowK, putRow, mapBlock, Array.getElem?_modify, hne]
def SortedE (w : World) (B : Nat) (d : Array E) (e : Ending) (w' : World) : Prop := ∃ d', e = .returned (.tuple #[]) ∧ PermIn 0 d.size d d' ∧ SortedIn (Go.Proofs.ltOf cmpE) 0 d.size d' ∧ HoldsK encE 2 w' B 0 d' ∧ w.grownBy w' (some B)
theorem e_sortFunc (B n cap : Nat) (d : Array E) (w : World) (hn : d.size = n) (hH : HoldsK encE 2 w B 0 d) (hlt : B < w.heap.size) (hsz : n ≤ 60000) :
  Calls Tryz.prog 83 #[.slice (some ⟨B, 0, none⟩) n cap, .func (.func 84) #[] #[]] w (SortedE w B d) := by
 subst hn
 have h := AnyQ.slices_SortFunc sortE 2 Tryz.isAgg100 Tryz.sizeOf100 encE (fun _ => rfl) (fun x v hv => by simp [encE] at hv; rcases hv with rfl | rfl <;> rfl) cmpE swoE 84 #[] B 0 cap d w (enters_of Tryz.func84 (by kernel_rfl) rfl) (cmpLaysE B 0 d.size w) hH hlt (by omega)
 refine Calls.mono h ?_
 rintro e w' ⟨rfl, d', n, os, hp, hs, rfl⟩
 exact ⟨d', rfl, hp, hs, holdsK_sortWorldK encE 2 w B 0 n d d' os hlt hH hp.1, grown_sort w B 0 n d' os⟩
theorem u_len0 (w : World) : Calls Tryz.prog 127 #[.int .u64 0] w fun e w' => e = .returned (.int .i64 0) ∧ w = w' := by
 have H : ∀ w, Calls Tryz.prog 208 #[.int .u64 0] w fun e w' => e = .returned (.int .i64 0) ∧ w = w' := fun w => by
  go_enter Tryz.func208, Tryz.ntmps208
  go_wp2
  go_ret
  exact ⟨ret_int (by decide +kernel), rfl⟩
 have HC := zz H
 clear H
 go_enter Tryz.func127, Tryz.ntmps127
 go_wp2_with (go_at_call 208; refine (HC.out _).mono ?_; rintro e w' ⟨rfl, rfl⟩)
 go_ret
 exact ⟨rfl, rfl⟩
theorem e_ins0 (f : Value) (w : World) : Calls Tryz.prog 199 #[.slice none 0 0, .int .i64 0, .int .i64 0, f] w fun e w' => e = .returned (.tuple #[]) ∧ w = w' := by
 go_enter Tryz.func199, Tryz.ntmps199
 go_wp2
 refine wp_loop_rounds 1 ?_
 rw [rounds_succ]
 go_wp2
 go_end0
 exact ⟨rfl, rfl⟩
theorem e_pdq0 (f : Value) (w : World) : Calls Tryz.prog 126 #[.slice none 0 0, .int .i64 0, .int .i64 0, .int .i64 0, f] w fun e w' => e = .returned (.tuple #[]) ∧ w = w' := by
 go_enter Tryz.func126, Tryz.ntmps126
 go_wp2
 refine wp_loop_rounds 1 ?_
 rw [rounds_succ]
 go_wp2_with (go_at_call 199; refine (e_ins0 _ _).mono ?_; rintro e w' ⟨rfl, rfl⟩)
 refine bodyPost_ret (results_none rfl _ _ _) rfl ?_
 exact ⟨rfl, rfl⟩
theorem e_sort0 (f : Value) (w : World) : Calls Tryz.prog 83 #[.slice none 0 0, f] w fun e w' => e = .returned (.tuple #[]) ∧ w = w' := by
 go_enter Tryz.func83, Tryz.ntmps83
 go_wp2_with (first
  | (go_at_call 127; refine (u_len0 _).mono ?_; rintro e w' ⟨rfl, rfl⟩)
  | (go_at_call 126; refine (e_pdq0 _ _).mono ?_; rintro e w' ⟨rfl, rfl⟩))
 go_end0
 exact ⟨rfl, rfl⟩
end
end Go.Proofs.YtpcnolkdnmolgaaGreatDoor
