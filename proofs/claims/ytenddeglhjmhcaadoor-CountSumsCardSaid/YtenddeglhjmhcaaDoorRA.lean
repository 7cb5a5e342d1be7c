/- Maps of the call's own, with any elements: what they hold, as a function of the key. -/
import Derived.Test.YtenddeglhjmhcaaDoorRows
import Derived.WalkKit
import Derived.WalkSpells
import Derived.WalkLawsBesides
import Derived.Lib.Hide
import Derived.Below
import Derived.Maps.OwnSet
import Derived.Maps.RangeWalk
namespace Go.Proofs.YtenddeglhjmhcaaDoor
open Go.RowKit Go.Maps
open Go.MapKept
open Go.ChangeMaps
open Go.WideElems (Fit rd rg pl rd_key rd_val rg_of rd_mk other_key)

def anyElem (v : Value) : Option (DataW Value × List MemPlace) := some (.held v, [])
def ofD (D : DataW Value) (kl : Lit) : Option Value := match D.atKey kl .nil with | .held v => some v | _ => none
/-- Block b is a map of at most n entries: what stands at each key. -/
def MapAt (w : World) (P : Program) (k : TypeId) (b n : Nat) (m : Lit → Option Value) : Prop :=
  ∃ D : DataW Value, w.ownsMap P k anyElem b n D ∧ ∀ kl, WideAt.IsKeyLit kl → ofD D kl = m kl
def updM (m : Lit → Option Value) (kl : Lit) (v : Value) : Lit → Option Value := fun x => if x.sameKey kl = true then some v else m x
def delM (m : Lit → Option Value) (kl : Lit) : Lit → Option Value := fun x => if x.sameKey kl = true then none else m x

variable {P : Program} {k t e : TypeId} {w w' : World} {b n : Nat} {m : Lit → Option Value}

theorem MapAt.made (w : World) (P : Program) (k : TypeId) : MapAt (w.alloc (.map #[] 0)) P k w.heap.size 0 (fun _ => none) :=
  ⟨.map [], World.ownsMap_made w P k anyElem, fun _ _ => rfl⟩
theorem MapAt.lt (h : MapAt w P k b n m) : b < w.heap.size := by obtain ⟨D, h, _⟩ := h; exact h.lt
theorem MapAt.mono (h : MapAt w P k b n m) {n' : Nat} (hn : n ≤ n') : MapAt w P k b n' m := by obtain ⟨D, h, h2⟩ := h; exact ⟨D, h.mono hn, h2⟩
theorem MapAt.same (h : MapAt w P k b n m) (hb : w'.heap[b]? = w.heap[b]?) : MapAt w' P k b n m := by
  obtain ⟨D, ⟨es, clock, h1, r⟩, h2⟩ := h
  exact ⟨D, ⟨es, clock, hb.trans h1, r⟩, h2⟩
theorem MapAt.congr (h : MapAt w P k b n m) {m' : Lit → Option Value} (hm : ∀ kl, WideAt.IsKeyLit kl → m kl = m' kl) : MapAt w P k b n m' := by
  obtain ⟨D, h1, h2⟩ := h; exact ⟨D, h1, fun kl hk => (h2 kl hk).trans (hm kl hk)⟩
theorem MapAt.isMap (h : MapAt w P k b n m) : ∃ es c, w.heap[b]? = some (.map es c) := by obtain ⟨D, ⟨es, clock, h1, r⟩, h2⟩ := h; exact ⟨es, clock, h1⟩

/-- m[k]. -/
theorem MapAt.look (h : MapAt w P k b n m) (K : Keyed P k) (ht : P.underlying t = some (.map k e)) {z : Value} (hz : (zeroValue e).run P w = .ok z w) {key : Value} {kl : Lit} (hkey : keyOf P k key = some kl) :
    (Instr.lookup t (.map (some b)) key false).run P w = .ok ((m kl).getD z) w := by
  obtain ⟨D, ⟨es, clock, hb, F, _, rfl⟩, hm⟩ := h
  have h1 := hm kl (K.key hkey)
  rcases Maps.fit_look false K ht hz hb F hkey with ⟨hrun, _, hat⟩ | ⟨e0, y, _, _, hrun, hRv, hat, _⟩
  · rw [← h1]; unfold ofD; rw [hat]; exact hrun
  · rw [← h1]; unfold ofD; rw [hat]; cases hRv; exact hrun
/-- v, ok := m[k]. -/
theorem MapAt.look_ok (h : MapAt w P k b n m) (K : Keyed P k) (ht : P.underlying t = some (.map k e)) {z : Value} (hz : (zeroValue e).run P w = .ok z w) {key : Value} {kl : Lit} (hkey : keyOf P k key = some kl) :
    (Instr.lookup t (.map (some b)) key true).run P w = .ok (.tuple #[(m kl).getD z, .bool (m kl).isSome]) w := by
  obtain ⟨D, ⟨es, clock, hb, F, _, rfl⟩, hm⟩ := h
  have h1 := hm kl (K.key hkey)
  rcases Maps.fit_look true K ht hz hb F hkey with ⟨hrun, _, hat⟩ | ⟨e0, y, _, _, hrun, hRv, hat, _⟩
  · rw [← h1]; unfold ofD; rw [hat]; exact hrun
  · rw [← h1]; unfold ofD; rw [hat]; cases hRv; exact hrun
/-- m[k] = v. -/
theorem MapAt.update (h : MapAt w P k b n m) (K : Keyed P k) (ht : P.underlying t = some (.map k e)) (hn : n < maxLen) {key val : Value} {kl : Lit} (hkey : keyOf P k key = some kl) :
    ∃ w', (Instr.mapUpdate t (.map (some b)) key val).run P w = .ok () w' ∧ MapAt w' P k b (n + 1) (updM m kl val) ∧ w.mapTurned w' b := by
  obtain ⟨D, hD, hm⟩ := h
  obtain ⟨w', h1, h2, h3⟩ := hD.store K ht hn hkey (val := val) (d := .held val) (ps := []) rfl
  have hi := hD.isMap
  refine ⟨w', h1, ⟨_, h2, fun x hx => ?_⟩, h3⟩
  unfold updM
  by_cases hs : x.sameKey kl = true
  · rw [if_pos hs]
    have : x = kl := WideAt.sameKey_eq hs
    subst this
    unfold ofD
    rw [Maps.atKey_put_same hi hx]
  · rw [if_neg hs, ← hm x hx]
    have hne : x ≠ kl := fun e => hs (by rw [e]; exact WideAt.sameKey_self (e ▸ hx))
    unfold ofD
    rw [Maps.atKey_put_other hne]
/-- delete(m, k). -/
theorem MapAt.drop (h : MapAt w P k b n m) (K : Keyed P k) (ht : P.underlying t = some (.map k e)) {key : Value} {kl : Lit} (hkey : keyOf P k key = some kl) (ty : TypeId) :
    ∃ w', (Builtin.delete_ #[t, k] ty #[.map (some b), key]).run P w = .ok (.tuple #[]) w' ∧ MapAt w' P k b n (delM m kl) ∧ w.mapTurned w' b := by
  obtain ⟨D, hD, hm⟩ := h
  obtain ⟨w', h1, h2, h3⟩ := hD.drop K ht hkey ty
  refine ⟨w', h1, ⟨_, h2, fun x hx => ?_⟩, h3⟩
  unfold delM
  by_cases hs : x.sameKey kl = true
  · rw [if_pos hs]
    have : x = kl := WideAt.sameKey_eq hs
    subst this
    unfold ofD
    rw [Maps.atKey_del_same]
  · rw [if_neg hs, ← hm x hx]
    have hne : x ≠ kl := fun e => hs (by rw [e]; exact WideAt.sameKey_self (e ▸ hx))
    unfold ofD
    rw [Maps.atKey_del_other hne]

/-- len(m): how many; and whether there is one. -/
theorem MapAt.len (h : MapAt w P k b n m) (K : Keyed P k) (ht : P.underlying t = some (.map k e)) (ty : TypeId) :
    ∃ s : Nat, s ≤ n ∧ (Builtin.len_ #[t] ty #[.map (some b)]).run P w = .ok (.int .i64 s) w ∧ (s = 0 ↔ ∀ kl, WideAt.IsKeyLit kl → m kl = none) := by
  obtain ⟨D, hD, hm⟩ := h
  refine ⟨Maps.size D, hD.size_le, hD.len ht ty, ?_⟩
  obtain ⟨es, clock, hb, F, _, rfl⟩ := hD
  constructor
  · intro h0 kl hk
    rw [← hm kl hk]
    have : (es.toList.map (rg P k anyElem)).foldr DataW.insert [] = [] := List.eq_nil_of_length_eq_zero h0
    rw [this]; rfl
  · intro hall
    cases hl : (es.toList.map (rg P k anyElem)).foldr DataW.insert [] with
    | nil => rfl
    | cons p r =>
      exfalso
      have hp : p ∈ (es.toList.map (rg P k anyElem)) := mem_sorted.1 (by rw [hl]; simp)
      obtain ⟨x, hx, rfl⟩ := List.mem_map.1 hp
      obtain ⟨y, hy⟩ := F.reads x hx
      have hkl : WideAt.IsKeyLit y.1 := K.key (rd_key hy)
      obtain ⟨z, hz, hzd⟩ := rd_val hy
      have h1 := hall y.1 hkl
      rw [← hm y.1 hkl] at h1
      unfold ofD at h1
      rw [(WideShapes.atKey_sorted (es.toList.map (rg P k anyElem)) (Maps.fit_rising K F) y.1 hkl).2 (rg P k anyElem x) (List.mem_map.2 ⟨x, hx, rfl⟩) (by rw [rg_of hy]), rg_of hy] at h1
      cases hz
      rw [hzd] at h1
      cases h1
end Go.Proofs.YtenddeglhjmhcaaDoor
