/- Maps of the call's own, with any elements: what they hold, as a function of the key. -/
import Derived.Test.YtpcnolkdnmolgaaGreatDoorRows
import Derived.WalkKit
import Derived.WalkSpells
import Derived.WalkLawsBesides
import Derived.Lib.Hide
import Derived.Below
import Derived.Maps.OwnSet
import Derived.Maps.RangeWalk
import Derived.Lib.TrimU
import Derived.Lib.OthersKept
import Derived.Deep.LoopGhost
import Derived.LoopTactic
import Derived.BigQuiet
import Derived.Laws.RangeAny
import Derived.Shelf.Abstract
namespace Go.Proofs.YtpcnolkdnmolgaaGreatDoor
theorem zz {p : Prop} (h : p) : Go.RowKit.Hid p := h
section
open Go.RowKit Go.Maps
open Go.MapKept
open Go.ChangeMaps
open Go.WideElems (Fit rd rg pl rd_key rd_val rg_of rd_mk other_key)
def anyElem (v : Value) : Option (DataW Value × List MemPlace) := some (.held v, [])
def ofD (D : DataW Value) (kl : Lit) : Option Value := match D.atKey kl .nil with | .held v => some v | _ => none
def MapAt (w : World) (P : Program) (k : TypeId) (b n : Nat) (m : Lit → Option Value) : Prop :=
 ∃ D : DataW Value, w.ownsMap P k anyElem b n D ∧ ∀ kl, WideAt.IsKeyLit kl → ofD D kl = m kl
def updM (m : Lit → Option Value) (kl : Lit) (v : Value) : Lit → Option Value := fun x => if x.sameKey kl = true then some v else m x
def delM (m : Lit → Option Value) (kl : Lit) : Lit → Option Value := fun x => if x.sameKey kl = true then none else m x
variable {P : Program} {k t e : TypeId} {w w' : World} {b n : Nat} {m : Lit → Option Value}
theorem MapAt.made (w : World) (P : Program) (k : TypeId) : MapAt (w.alloc (.map #[] 0)) P k w.heap.size 0 (fun _ => none) :=
 ⟨.map [], World.ownsMap_made w P k anyElem, fun _ _ => rfl⟩
theorem MapAt.lt (h : MapAt w P k b n m) : b < w.heap.size := by obtain ⟨D, h, _⟩ := h; exact h.lt
theorem MapAt.mono (h : MapAt w P k b n m) {n' : Nat} (hn : n ≤ n') : MapAt w P k b n' m := by obtain ⟨D, h, h2⟩ := h; exact ⟨D, h.mono hn, h2⟩
theorem MapAt.same (h : MapAt w P k b n m) (hb : w'.heap[b]? = w.heap[b]?) : MapAt w' P k b n m := by
 obtain ⟨D, ⟨es, clock, h1, r⟩, h2⟩ := h
 exact ⟨D, ⟨es, clock, hb.trans h1, r⟩, h2⟩
theorem MapAt.congr (h : MapAt w P k b n m) {m' : Lit → Option Value} (hm : ∀ kl, WideAt.IsKeyLit kl → m kl = m' kl) : MapAt w P k b n m' := by
 obtain ⟨D, h1, h2⟩ := h; exact ⟨D, h1, fun kl hk => (h2 kl hk).trans (hm kl hk)⟩
theorem MapAt.isMap (h : MapAt w P k b n m) : ∃ es c, w.heap[b]? = some (.map es c) := by obtain ⟨D, ⟨es, clock, h1, r⟩, h2⟩ := h; exact ⟨es, clock, h1⟩
theorem MapAt.look (h : MapAt w P k b n m) (K : Keyed P k) (ht : P.underlying t = some (.map k e)) {z : Value} (hz : (zeroValue e).run P w = .ok z w) {key : Value} {kl : Lit} (hkey : keyOf P k key = some kl) :
  (Instr.lookup t (.map (some b)) key false).run P w = .ok ((m kl).getD z) w := by
 obtain ⟨D, ⟨es, clock, hb, F, _, rfl⟩, hm⟩ := h
 have h1 := hm kl (K.key hkey)
 rcases Maps.fit_look false K ht hz hb F hkey with ⟨hrun, _, hat⟩ | ⟨e0, y, _, _, hrun, hRv, hat, _⟩
 · rw [← h1]; unfold ofD; rw [hat]; exact hrun
 · rw [← h1]; unfold ofD; rw [hat]; cases hRv; exact hrun
theorem MapAt.look_ok (h : MapAt w P k b n m) (K : Keyed P k) (ht : P.underlying t = some (.map k e)) {z : Value} (hz : (zeroValue e).run P w = .ok z w) {key : Value} {kl : Lit} (hkey : keyOf P k key = some kl) :
  (Instr.lookup t (.map (some b)) key true).run P w = .ok (.tuple #[(m kl).getD z, .bool (m kl).isSome]) w := by
 obtain ⟨D, ⟨es, clock, hb, F, _, rfl⟩, hm⟩ := h
 have h1 := hm kl (K.key hkey)
 rcases Maps.fit_look true K ht hz hb F hkey with ⟨hrun, _, hat⟩ | ⟨e0, y, _, _, hrun, hRv, hat, _⟩
 · rw [← h1]; unfold ofD; rw [hat]; exact hrun
 · rw [← h1]; unfold ofD; rw [hat]; cases hRv; exact hrun
theorem MapAt.update (h : MapAt w P k b n m) (K : Keyed P k) (ht : P.underlying t = some (.map k e)) (hn : n < maxLen) {key val : Value} {kl : Lit} (hkey : keyOf P k key = some kl) :
  ∃ w', (Instr.mapUpdate t (.map (some b)) key val).run P w = .ok () w' ∧ MapAt w' P k b (n + 1) (updM m kl val) ∧ w.mapTurned w' b := by
 obtain ⟨D, hD, hm⟩ := h
 obtain ⟨w', h1, h2, h3⟩ := hD.store K ht hn hkey (val := val) (d := .held val) (ps := []) rfl
 have hi := hD.isMap
 refine ⟨w', h1, ⟨_, h2, fun x hx => ?_⟩, h3⟩
 unfold updM
 by_cases hs : x.sameKey kl = true
 · rw [if_pos hs]
   have : x = kl := WideAt.sameKey_eq hs
   subst this
   unfold ofD
   rw [Maps.atKey_put_same hi hx]
 · rw [if_neg hs, ← hm x hx]
   have hne : x ≠ kl := fun e => hs (by rw [e]; exact WideAt.sameKey_self (e ▸ hx))
   unfold ofD
   rw [Maps.atKey_put_other hne]
theorem MapAt.drop (h : MapAt w P k b n m) (K : Keyed P k) (ht : P.underlying t = some (.map k e)) {key : Value} {kl : Lit} (hkey : keyOf P k key = some kl) (ty : TypeId) :
  ∃ w', (Builtin.delete_ #[t, k] ty #[.map (some b), key]).run P w = .ok (.tuple #[]) w' ∧ MapAt w' P k b n (delM m kl) ∧ w.mapTurned w' b := by
 obtain ⟨D, hD, hm⟩ := h
 obtain ⟨w', h1, h2, h3⟩ := hD.drop K ht hkey ty
 refine ⟨w', h1, ⟨_, h2, fun x hx => ?_⟩, h3⟩
 unfold delM
 by_cases hs : x.sameKey kl = true
 · rw [if_pos hs]
   have : x = kl := WideAt.sameKey_eq hs
   subst this
   unfold ofD
   rw [Maps.atKey_del_same]
 · rw [if_neg hs, ← hm x hx]
   have hne : x ≠ kl := fun e => hs (by rw [e]; exact WideAt.sameKey_self (e ▸ hx))
   unfold ofD
   rw [Maps.atKey_del_other hne]
theorem MapAt.len (h : MapAt w P k b n m) (K : Keyed P k) (ht : P.underlying t = some (.map k e)) (ty : TypeId) :
  ∃ s : Nat, s ≤ n ∧ (Builtin.len_ #[t] ty #[.map (some b)]).run P w = .ok (.int .i64 s) w ∧ (s = 0 ↔ ∀ kl, WideAt.IsKeyLit kl → m kl = none) := by
 obtain ⟨D, hD, hm⟩ := h
 refine ⟨Maps.size D, hD.size_le, hD.len ht ty, ?_⟩
 obtain ⟨es, clock, hb, F, _, rfl⟩ := hD
 constructor
 · intro h0 kl hk
   rw [← hm kl hk]
   have : (es.toList.map (rg P k anyElem)).foldr DataW.insert [] = [] := List.eq_nil_of_length_eq_zero h0
   rw [this]; rfl
 · intro hall
   cases hl : (es.toList.map (rg P k anyElem)).foldr DataW.insert [] with
   | nil => rfl
   | cons p r =>
    exfalso
    have hp : p ∈ (es.toList.map (rg P k anyElem)) := mem_sorted.1 (by rw [hl]; simp)
    obtain ⟨x, hx, rfl⟩ := List.mem_map.1 hp
    obtain ⟨y, hy⟩ := F.reads x hx
    have hkl : WideAt.IsKeyLit y.1 := K.key (rd_key hy)
    obtain ⟨z, hz, hzd⟩ := rd_val hy
    have h1 := hall y.1 hkl
    rw [← hm y.1 hkl] at h1
    unfold ofD at h1
    rw [(WideShapes.atKey_sorted (es.toList.map (rg P k anyElem)) (Maps.fit_rising K F) y.1 hkl).2 (rg P k anyElem x) (List.mem_map.2 ⟨x, hx, rfl⟩) (by rw [rg_of hy]), rg_of hy] at h1
    cases hz
    rw [hzd] at h1
    cases h1
end

section
open Go.RowKit
theorem pret_bool {a b : Bool} (h : a = b) : Ending.returned (.bool a) = .returned (.bool b) := by rw [h]
theorem pret_i64 {a b : Int} (h : a = b) : Ending.returned (.int .i64 a) = .returned (.int .i64 b) := by rw [h]
theorem pbelow_drew {B : Nat} {a w : World} (h : Below B a w) : Below B a w.drew := ⟨h.os, h.tape, h.output, h.size, h.block⟩
def pplainTo (s : ByteArray) (k : Nat) : Bool := (s.data.toList.take k).all fun c => c != 47 && c != 0
def pnameB (s : ByteArray) : Bool := decide (1 ≤ s.size) && decide (s.size ≤ 27) && !(s.toList == [46]) && !(s.toList == [46, 46]) && pplainTo s s.size
theorem pplainTo_bad {s : ByteArray} {k m : Nat} (hkm : k ≤ m) (h : pplainTo s k = false) : pplainTo s m = false := by
 unfold pplainTo at *
 rw [List.all_eq_false] at *
 obtain ⟨x, hx, hp⟩ := h
 exact ⟨x, List.take_subset_take_left _ hkm hx, hp⟩
theorem pplainTo_full {s : ByteArray} {k : Nat} (h : s.size ≤ k) : pplainTo s k = pplainTo s s.size := by
 unfold pplainTo
 rw [List.take_of_length_le (by simpa using h), List.take_of_length_le (by simp)]
theorem pplainTo_more {s : ByteArray} {p : Nat} (k : Nat) (h : pplainTo s p = true) (hh : ∀ j, p ≤ j → j < p + k → ∀ hj : j < s.size, ((s[j]'hj) != 47 && (s[j]'hj) != 0) = true) : pplainTo s (p + k) = true := by
 unfold pplainTo at *
 rw [List.all_eq_true] at *
 intro x hx
 obtain ⟨j, hj, rfl⟩ := List.getElem_of_mem hx
 have hj' : j < p + k ∧ j < s.size := by simp at hj; omega
 by_cases hjp : j < p
 · refine h _ ?_
   rw [List.getElem_take]
   refine List.mem_iff_getElem.2 ⟨j, by simp; omega, by simp⟩
 · have := hh j (by omega) hj'.1 hj'.2
   rw [List.getElem_take]
   exact this
theorem pplainTo_hit {s : ByteArray} {p : Nat} (hp : p < s.size) (hb : ((s[p]'hp) != 47 && (s[p]'hp) != 0) = false) : pplainTo s s.size = false := by
 refine pplainTo_bad (k := p + 1) (by omega) ?_
 unfold pplainTo
 rw [List.all_eq_false]
 exact ⟨s[p], List.mem_iff_getElem.2 ⟨p, by simp; omega, by simp; rfl⟩, by simpa using hb⟩
theorem pget! {s : ByteArray} {j : Nat} (hj : j < s.size) : s.get! j = s[j]'hj := by
 show s.data[j]! = s.data[j]
 exact getElem!_pos s.data j hj
theorem decode_conts (s : ByteArray) (pos : Nat) (h : pos < s.size) (ha : 128 ≤ (s[pos]'h).toNat) : ∀ j, pos ≤ j → j < pos + (Utf8.decode s pos).2 → ∀ hj : j < s.size, 128 ≤ (s[j]'hj).toNat := by
 intro j h1 h2 hj
 by_cases hjp : j = pos
 · subst hjp; exact ha
 have e0 : (s.get! (pos + 0)).toNat = (s[pos]'h).toNat := by rw [pget! (by simpa using h)]; rfl
 have ha' : ¬ (s.get! (pos + 0)).toNat < 128 := by rw [e0]; omega
 have key : ∀ k, j = pos + k → (s.get! (pos + k)).toNat / 64 = 2 → 128 ≤ (s[j]'hj).toNat := by
  rintro k rfl hk
  rw [pget! hj] at hk
  omega
 unfold Utf8.decode at h2
 simp only [ha', if_false] at h2
 split at h2
 · rename_i hc
   simp only [Bool.and_eq_true, beq_iff_eq, decide_eq_true_eq] at hc
   have : j = pos + 1 := by split at h2 <;> simp only at h2 <;> omega
   exact key 1 this hc.2.2
 · split at h2
   · rename_i hc
     simp only [Bool.and_eq_true, beq_iff_eq, decide_eq_true_eq] at hc
     have : j = pos + 1 ∨ j = pos + 2 := by split at h2 <;> simp only at h2 <;> omega
     rcases this with e | e
     · exact key 1 e hc.1.2.2
     · exact key 2 e hc.2.2
   · split at h2
     · rename_i hc
       simp only [Bool.and_eq_true, beq_iff_eq, decide_eq_true_eq] at hc
       have : j = pos + 1 ∨ j = pos + 2 ∨ j = pos + 3 := by split at h2 <;> simp only at h2 <;> omega
       rcases this with e | e | e
       · exact key 1 e hc.1.1.2.2
       · exact key 2 e hc.1.2.2
       · exact key 3 e hc.2.2
     · simp only at h2; omega
theorem decode_bad (s : ByteArray) (pos : Nat) (h : pos < s.size) (hr : ((Utf8.decode s pos).1 : Int) = 47 ∨ ((Utf8.decode s pos).1 : Int) = 0) : pplainTo s s.size = false := by
 by_cases ha : (s[pos]'h).toNat < 128
 · rw [decode_ascii s pos h ha] at hr
   refine pplainTo_hit h ?_
   simp only at hr
   rcases hr with hr | hr
   · have : s[pos]'h = 47 := UInt8.toNat_inj.1 (by simp; omega)
     rw [this]; rfl
   · have : s[pos]'h = 0 := UInt8.toNat_inj.1 (by simp; omega)
     rw [this]; rfl
 · have := (decode_high s pos h (by omega)).1
   omega
theorem decode_good (s : ByteArray) (pos : Nat) (h : pos < s.size) (hr : ¬ ((Utf8.decode s pos).1 : Int) = 47) (hr' : ¬ ((Utf8.decode s pos).1 : Int) = 0) (hp : pplainTo s pos = true) : pplainTo s (pos + (Utf8.decode s pos).2) = true := by
 refine pplainTo_more _ hp fun j h1 h2 hj => ?_
 have big : 128 ≤ (s[j]'hj).toNat → ((s[j]'hj) != 47 && (s[j]'hj) != 0) = true := fun hb => by
  have a1 : s[j]'hj ≠ 47 := fun e => by rw [e] at hb; simp at hb
  have a2 : s[j]'hj ≠ 0 := fun e => by rw [e] at hb; simp at hb
  simp [bne_iff_ne, a1, a2]
 by_cases ha : (s[pos]'h).toNat < 128
 · rw [decode_ascii s pos h ha] at hr hr' h2
   have : j = pos := by simp only at h2; omega
   subst this
   simp only at hr hr'
   have a1 : s[j]'hj ≠ 47 := fun e => hr (by rw [e]; rfl)
   have a2 : s[j]'hj ≠ 0 := fun e => hr' (by rw [e]; rfl)
   simp [bne_iff_ne, a1, a2]
 · exact big (decode_conts s pos h (by omega) j h1 h2 hj)
theorem t_bad (r : Int) (b : Bool) (hb : (r == 47 || r == 0) = b) (w : World) :
  Calls Tryz.prog 175 #[.int .i32 r] w fun e w' => e = .returned (.bool b) ∧ w = w' := by
 cases h1 : (r == 47) with
 | true =>
  have HB : Hid (true = b) := by show _ = _; rw [← hb, h1]; rfl
  clear hb
  go_enter Tryz.func175, Tryz.ntmps175
  go_wp2
  go_ret
  exact ⟨pret_bool HB.out, rfl⟩
 | false =>
  have HB : Hid ((r == 0) = b) := by show _ = _; rw [← hb, h1]; rfl
  clear hb
  go_enter Tryz.func175, Tryz.ntmps175
  go_wp2
  go_ret
  exact ⟨pret_bool HB.out, rfl⟩
def HitI (s : ByteArray) (e : Ending) : Prop := ∃ n : Int, e = .returned (.int .i64 n) ∧ decide (0 ≤ n) = !pplainTo s s.size
set_option maxHeartbeats 2000000 in
set_option maxRecDepth 1000000 in
theorem t_indexFunc (s : ByteArray) (w : World) (_hs : s.size ≤ maxLen) :
  Calls Tryz.prog 270 #[.string s, .func (.func 175) #[] #[], .bool true] w fun e w' => HitI s e ∧ Below w.heap.size w w' := by
 unfold maxLen at _hs
 go_enter Tryz.func270, Tryz.ntmps270
 go_wp2
 go_loopg [] s.size (fun gf wx => ∃ pos : Nat, wx.heap[w.heap.size]? = some (.stringIter s pos) ∧ Below w.heap.size w wx ∧ Hid (pplainTo s pos = true) ∧ s.size ≤ pos + gf)
 case atStart => exact ⟨0, World.iter_heap w s 0, (Below.refl _ w).alloc (Nat.le_refl _) _, by show _ = _; simp [pplainTo], by omega⟩
 case round =>
  obtain ⟨pos, hit, hbw, hpl, hfu⟩ := hrel
  by_cases hps : pos < s.size
  · obtain ⟨g', rfl⟩ : ∃ g', gk = g' + 1 := ⟨gk - 1, by omega⟩
    have hnx : ∀ ty, (Instr.next (.pointer (some ⟨w.heap.size, 0, none⟩)) true ty).run Tryz.prog wr = _ := fun ty => Lib.run_next_any_at wr w.heap.size s pos ty hit hps
    have hwd := Lib.width_pos s pos
    have HG := zz (decode_good s pos hps)
    have HBd := zz (decode_bad s pos hps)
    obtain ⟨R, hR⟩ : ∃ R, (Utf8.decode s pos).1 = R := ⟨_, rfl⟩
    obtain ⟨K, hK⟩ : ∃ K, (Utf8.decode s pos).2 = K := ⟨_, rfl⟩
    rw [hR, hK] at hnx
    rw [hK] at hwd
    rw [hR, hK] at HG
    rw [hR] at HBd
    have hit2 := Lib.iterAt_heap wr w.heap.size s pos (pos + K) hit
    have hbw2 := Lib.below_iterAt hbw (k := w.heap.size) (Nat.le_refl _) s (pos + K)
    obtain ⟨W, hWd⟩ : ∃ W, wr.iterAt w.heap.size s (pos + K) = W := ⟨_, rfl⟩
    rw [hWd] at hnx hit2 hbw2
    clear hR hK
    by_cases h1 : (R : Int) = 47 ∨ (R : Int) = 0
    · have cS := t_bad (R : Int) true (by rcases h1 with h | h <;> simp [h]) W
      have HX : Hid (pplainTo s s.size = false) := HBd.out h1
      have hpn : Hid (HitI s (.returned (.int .i64 (pos : Int)))) := ⟨_, rfl, by rw [HX.out]; simp⟩
      clear h1
      go_wp2_with (go_at_call 175; refine cS.mono ?_; rintro e W' ⟨rfl, rfl⟩)
      go_ret
      exact ⟨hpn.out, hbw2⟩
    · have h2 : ¬ (R : Int) = 47 := fun h => h1 (.inl h)
      have h3 : ¬ (R : Int) = 0 := fun h => h1 (.inr h)
      have HX : Hid (pplainTo s (pos + K) = true) := HG.out h2 h3 hpl.out
      have cS := t_bad (R : Int) false (by simp [h2]; omega) W
      clear h1 h2 h3
      go_wp2_with (go_at_call 175; refine cS.mono ?_; rintro e W' ⟨rfl, rfl⟩)
      go_roundg g'
      case measure => omega
      case rel => exact ⟨pos + K, hit2, hbw2, HX, by omega⟩
  · have hnx : ∀ ty, (Instr.next (.pointer (some ⟨w.heap.size, 0, none⟩)) true ty).run Tryz.prog wr = _ := fun ty => Lib.run_next_end_at wr w.heap.size s pos ty hit hps
    have HX : Hid (HitI s (.returned (.int .i64 (-1)))) := ⟨_, rfl, by rw [← pplainTo_full (k := pos) (by omega), hpl.out]; rfl⟩
    go_wp2
    go_ret
    exact ⟨HX.out, hbw⟩
theorem t_sIndexFunc (s : ByteArray) (w : World) (hs : s.size ≤ maxLen) :
  Calls Tryz.prog 238 #[.string s, .func (.func 175) #[] #[]] w fun e w' => HitI s e ∧ Below w.heap.size w w' := by
 go_enter Tryz.func238, Tryz.ntmps238
 go_wp2_with (go_at_call 270; refine (t_indexFunc s _ hs).mono ?_; rintro e w' ⟨⟨n, rfl, hn⟩, hb⟩; have HN : Hid (HitI s (.returned (.int .i64 n))) := ⟨n, rfl, hn⟩; clear hn)
 go_ret
 exact ⟨HN.out, hb⟩
theorem t_sContainsFunc (s : ByteArray) (b : Bool) (hpb : (!pplainTo s s.size) = b) (w : World) (hs : s.size ≤ maxLen) :
  Calls Tryz.prog 176 #[.string s, .func (.func 175) #[] #[]] w fun e w' => e = .returned (.bool b) ∧ Below w.heap.size w w' := by
 have HP := zz hpb
 clear hpb
 go_enter Tryz.func176, Tryz.ntmps176
 go_wp2_with (go_at_call 238; refine (t_sIndexFunc s _ hs).mono ?_; rintro e w' ⟨⟨n, rfl, hn⟩, hb⟩; have HN : Hid (decide (0 ≤ n) = b) := hn.trans HP.out; clear hn)
 go_ret
 exact ⟨pret_bool HN.out, hb⟩
theorem ptoList_length (s : ByteArray) : s.toList.length = s.size := by rw [ByteArray.toList_eq]; simp
def nameE (s : ByteArray) : Int := if pnameB s = true then 0 else 2
set_option maxHeartbeats 4000000 in
theorem t_pname (s : ByteArray) (r : Int) (hr : nameE s = r) (w : World) (hs : s.size ≤ maxLen) :
  Calls Tryz.prog 105 #[.string s] w fun e w' => e = .returned (.int .i64 r) ∧ Below w.heap.size w w' := by
 have hs' := hs
 unfold maxLen at hs'
 have HR := zz hr
 clear hr
 have bad : pnameB s = false → Hid (2 = r) := fun h => by show _ = _; rw [← HR.out]; unfold nameE; rw [h]; rfl
 by_cases h1 : 1 ≤ s.size
 · have e1 : (s.toList == []) = false := by
    rw [Bool.eq_false_iff]; intro h
    have : s.toList = [] := by simpa using h
    have : s.toList.length = 0 := by rw [this]; rfl
    rw [ptoList_length] at this
    omega
   by_cases h2 : s.size ≤ 27
   · cases h3 : (s.toList == [46]) with
     | true =>
      have HB := bad (by unfold pnameB; simp [h3])
      clear bad
      go_enter Tryz.func105, Tryz.ntmps105
      go_wp2
      go_ret
      exact ⟨pret_i64 HB.out, Below.refl _ _⟩
     | false =>
      cases h4 : (s.toList == [46, 46]) with
      | true =>
       have HB := bad (by unfold pnameB; simp [h4])
       clear bad
       go_enter Tryz.func105, Tryz.ntmps105
       go_wp2
       go_ret
       exact ⟨pret_i64 HB.out, Below.refl _ _⟩
      | false =>
       cases h5 : pplainTo s s.size with
       | false =>
        have HB := bad (by unfold pnameB; simp [h5])
        have HC := zz (show (!pplainTo s s.size) = true by rw [h5]; rfl)
        clear bad h5
        go_enter Tryz.func105, Tryz.ntmps105
        go_wp2_with (go_at_call 176; refine (t_sContainsFunc s _ HC.out _ hs).mono ?_; rintro e w' ⟨rfl, hb⟩)
        go_ret
        exact ⟨pret_i64 HB.out, hb⟩
       | true =>
        have HB : Hid (0 = r) := by show _ = _; rw [← HR.out]; unfold nameE pnameB; simp [h1, h2, h3, h4, h5]
        have HC := zz (show (!pplainTo s s.size) = false by rw [h5]; rfl)
        clear bad h5
        go_enter Tryz.func105, Tryz.ntmps105
        go_wp2_with (go_at_call 176; refine (t_sContainsFunc s _ HC.out _ hs).mono ?_; rintro e w' ⟨rfl, hb⟩)
        go_ret
        exact ⟨pret_i64 HB.out, hb⟩
   · have HB := bad (by unfold pnameB; simp [h2])
     clear bad
     go_enter Tryz.func105, Tryz.ntmps105
     go_wp2
     go_ret
     exact ⟨pret_i64 HB.out, Below.refl _ _⟩
 · have HB := bad (by unfold pnameB; simp [h1])
   have e1 : (s.toList == []) = true := by
    have : s.toList.length = 0 := by rw [ptoList_length]; omega
    rw [List.eq_nil_of_length_eq_zero this]; rfl
   clear bad
   go_enter Tryz.func105, Tryz.ntmps105
   go_wp2
   go_ret
   exact ⟨pret_i64 HB.out, Below.refl _ _⟩
end

section
open Go.RowKit
def SliceAt (w : World) (A : Option Addr) (xs : List Value) : Prop :=
 0 < xs.length → ∃ b o, A = some ⟨b, o, none⟩ ∧ b < w.heap.size ∧ ∀ j x, xs[j]? = some x → w.cell? ⟨b, o + j, none⟩ = some x
theorem SliceAt.below {w w' : World} {A : Option Addr} {xs : List Value} (h : SliceAt w A xs) (hb : Below w.heap.size w w') : SliceAt w' A xs := fun h0 => by
 obtain ⟨b, o, h1, h2, h3⟩ := h h0
 exact ⟨b, o, h1, Nat.lt_of_lt_of_le h2 hb.size, fun j x hx => (hb.cell (p := ⟨b, o + j, none⟩) h2).trans (h3 j x hx)⟩
theorem SliceAt.built (w : World) (xs : List Value) (T : TypeId) : SliceAt (w.alloc (.cells xs.toArray T)) (some ⟨w.heap.size, 0, none⟩) xs := fun _ =>
 ⟨_, 0, rfl, by simp, fun j x hx => by simp [World.cell?_alloc_new, hx]⟩
def PredV (w : World) (g : Nat) (lb : Array Value) (p : Value → Bool) (xs : List Value) : Prop :=
 ∀ W x, x ∈ xs → Below w.heap.size w W → Calls Tryz.prog g (#[x] ++ lb) W fun e W' => e = .returned (.bool (p x)) ∧ Below W.heap.size W W'
theorem ptrans {a b c : World} (h : Below a.heap.size a b) (k : Below b.heap.size b c) : Below a.heap.size a c := h.trans (k.mono h.size)
def FoundI (b : Bool) (e : Ending) : Prop := ∃ k : Int, e = .returned (.int .i64 k) ∧ decide (0 ≤ k) = b
theorem any_take_false {xs : List Value} {p : Value → Bool} {j : Nat} {x : Value} (h : (xs.take j).any p = false) (hx : xs[j]? = some x) (hp : p x = false) : (xs.take (j + 1)).any p = false := by
 rw [List.take_add_one, hx]; simp [h, hp]
theorem any_hit {xs : List Value} {p : Value → Bool} {x : Value} (hx : x ∈ xs) (hp : p x = true) : xs.any p = true := List.any_eq_true.2 ⟨x, hx, hp⟩
set_option maxHeartbeats 2000000 in
theorem t_indexStr (A : Option Addr) (n c : Nat) (xs : List Value) (g : Nat) (lb : Array Value) (p : Value → Bool) (w : World) (hl : xs.length = n) (hn : n ≤ maxLen) (hs : SliceAt w A xs)
  (eg : ∀ args w, (callFunc g args).run Tryz.prog w = .ok (.enter g args) w) (hp : PredV w g lb p xs) :
  Calls Tryz.prog 271 #[.slice A n c, .func (.func g) #[] lb] w fun e w' => FoundI (xs.any p) e ∧ Below w.heap.size w w' := by
 subst hl
 unfold maxLen at hn
 have HP := zz hp
 have HS := zz hs
 clear hp hs
 go_enter Tryz.func271, Tryz.ntmps271
 go_wp2
 go_loopw [8] (fun i wr => ∃ j : Nat, j ≤ xs.length ∧ i = .int .i64 j ∧ Hid ((xs.take j).any p = false) ∧ Below w.heap.size w wr) (fun i _ => xs.length - (intOf i).toNat)
 case atStart => exact ⟨0, Nat.zero_le _, rfl, rfl, Below.refl _ _⟩
 case round =>
  obtain ⟨j, hj, rfl, hno, hb⟩ := hrel
  by_cases hjn : j < xs.length
  · obtain ⟨b, o, rfl, hlt, hc⟩ := HS.out (by omega)
    have hx := List.getElem?_eq_getElem hjn
    have c1 := (hb.cell (p := ⟨b, o + j, none⟩) hlt).trans (hc j _ hx)
    have cS := HP.out wr xs[j] (List.getElem_mem hjn) hb
    have HX := zz hx
    obtain ⟨x, hxe⟩ : ∃ x, xs[j] = x := ⟨_, rfl⟩
    have HM : Hid (x ∈ xs) := by rw [← hxe]; exact List.getElem_mem hjn
    rw [hxe] at c1 cS HX
    clear hx hc hxe
    cases hpx : p x with
    | true =>
     rw [hpx] at cS
     have HF : Hid (FoundI (xs.any p) (.returned (.int .i64 (j : Int)))) := ⟨_, rfl, by rw [any_hit HM.out hpx]; simp⟩
     clear hpx
     go_wp2_with (go_at_fn g; refine cS.mono ?_; rintro e W' ⟨rfl, hb2⟩)
     go_ret
     exact ⟨HF.out, ptrans hb hb2⟩
    | false =>
     rw [hpx] at cS
     have HF : Hid ((xs.take (j + 1)).any p = false) := any_take_false hno.out HX.out hpx
     clear hpx
     go_wp2_with (go_at_fn g; refine cS.mono ?_; rintro e W' ⟨rfl, hb2⟩)
     go_roundw
     case rel => exact ⟨j + 1, by omega, by go_num, HF, ptrans hb hb2⟩
     case measure => simp [intOf]; omega
  · have HF : Hid (FoundI (xs.any p) (.returned (.int .i64 (-1)))) := ⟨_, rfl, by rw [List.take_of_length_le (by omega)] at hno; rw [hno.out]; rfl⟩
    go_wp2
    go_ret
    exact ⟨HF.out, hb⟩
set_option maxHeartbeats 2000000 in
theorem t_indexU32 (A : Option Addr) (n c : Nat) (xs : List Value) (g : Nat) (lb : Array Value) (p : Value → Bool) (w : World) (hl : xs.length = n) (hn : n ≤ maxLen) (hs : SliceAt w A xs)
  (eg : ∀ args w, (callFunc g args).run Tryz.prog w = .ok (.enter g args) w) (hp : PredV w g lb p xs) :
  Calls Tryz.prog 198 #[.slice A n c, .func (.func g) #[] lb] w fun e w' => FoundI (xs.any p) e ∧ Below w.heap.size w w' := by
 subst hl
 unfold maxLen at hn
 have HP := zz hp
 have HS := zz hs
 clear hp hs
 go_enter Tryz.func198, Tryz.ntmps198
 go_wp2
 go_loopw [8] (fun i wr => ∃ j : Nat, j ≤ xs.length ∧ i = .int .i64 j ∧ Hid ((xs.take j).any p = false) ∧ Below w.heap.size w wr) (fun i _ => xs.length - (intOf i).toNat)
 case atStart => exact ⟨0, Nat.zero_le _, rfl, rfl, Below.refl _ _⟩
 case round =>
  obtain ⟨j, hj, rfl, hno, hb⟩ := hrel
  by_cases hjn : j < xs.length
  · obtain ⟨b, o, rfl, hlt, hc⟩ := HS.out (by omega)
    have hx := List.getElem?_eq_getElem hjn
    have c1 := (hb.cell (p := ⟨b, o + j, none⟩) hlt).trans (hc j _ hx)
    have cS := HP.out wr xs[j] (List.getElem_mem hjn) hb
    have HX := zz hx
    obtain ⟨x, hxe⟩ : ∃ x, xs[j] = x := ⟨_, rfl⟩
    have HM : Hid (x ∈ xs) := by rw [← hxe]; exact List.getElem_mem hjn
    rw [hxe] at c1 cS HX
    clear hx hc hxe
    cases hpx : p x with
    | true =>
     rw [hpx] at cS
     have HF : Hid (FoundI (xs.any p) (.returned (.int .i64 (j : Int)))) := ⟨_, rfl, by rw [any_hit HM.out hpx]; simp⟩
     clear hpx
     go_wp2_with (go_at_fn g; refine cS.mono ?_; rintro e W' ⟨rfl, hb2⟩)
     go_ret
     exact ⟨HF.out, ptrans hb hb2⟩
    | false =>
     rw [hpx] at cS
     have HF : Hid ((xs.take (j + 1)).any p = false) := any_take_false hno.out HX.out hpx
     clear hpx
     go_wp2_with (go_at_fn g; refine cS.mono ?_; rintro e W' ⟨rfl, hb2⟩)
     go_roundw
     case rel => exact ⟨j + 1, by omega, by go_num, HF, ptrans hb hb2⟩
     case measure => simp [intOf]; omega
  · have HF : Hid (FoundI (xs.any p) (.returned (.int .i64 (-1)))) := ⟨_, rfl, by rw [List.take_of_length_le (by omega)] at hno; rw [hno.out]; rfl⟩
    go_wp2
    go_ret
    exact ⟨HF.out, hb⟩
theorem t_containsStr (A : Option Addr) (n c : Nat) (xs : List Value) (g : Nat) (lb : Array Value) (p : Value → Bool) (r : Bool) (hr : xs.any p = r) (w : World) (hl : xs.length = n) (hn : n ≤ maxLen) (hs : SliceAt w A xs)
  (eg : ∀ args w, (callFunc g args).run Tryz.prog w = .ok (.enter g args) w) (hp : PredV w g lb p xs) :
  Calls Tryz.prog 241 #[.slice A n c, .func (.func g) #[] lb] w fun e w' => e = .returned (.bool r) ∧ Below w.heap.size w w' := by
 have HR := zz hr
 clear hr
 have HP := zz (t_indexStr A n c xs g lb p w hl hn hs eg hp)
 clear hp hs
 go_enter Tryz.func241, Tryz.ntmps241
 go_wp2_with (go_at_call 271; refine HP.out.mono ?_; rintro e w' ⟨⟨k, rfl, hk⟩, hb⟩; have HN : Hid (decide (0 ≤ k) = r) := hk.trans HR.out; clear hk)
 go_ret
 exact ⟨pret_bool HN.out, hb⟩
theorem t_containsU32 (A : Option Addr) (n c : Nat) (xs : List Value) (g : Nat) (lb : Array Value) (p : Value → Bool) (r : Bool) (hr : xs.any p = r) (w : World) (hl : xs.length = n) (hn : n ≤ maxLen) (hs : SliceAt w A xs)
  (eg : ∀ args w, (callFunc g args).run Tryz.prog w = .ok (.enter g args) w) (hp : PredV w g lb p xs) :
  Calls Tryz.prog 121 #[.slice A n c, .func (.func g) #[] lb] w fun e w' => e = .returned (.bool r) ∧ Below w.heap.size w w' := by
 have HR := zz hr
 clear hr
 have HP := zz (t_indexU32 A n c xs g lb p w hl hn hs eg hp)
 clear hp hs
 go_enter Tryz.func121, Tryz.ntmps121
 go_wp2_with (go_at_call 198; refine HP.out.mono ?_; rintro e w' ⟨⟨k, rfl, hk⟩, hb⟩; have HN : Hid (decide (0 ≤ k) = r) := hk.trans HR.out; clear hk)
 go_ret
 exact ⟨pret_bool HN.out, hb⟩
end

section
open Go.RowKit Go.Maps
structure PN where
 kind : Int
 links : Int
 size : Int
 l : List UInt8 → Option Int
 pages : Int → Option (List UInt8)
 held : Int
 up : Int
structure PT where
 room : Int
 n : Int → Option PN
def PT.set (t : PT) (i : Int) (x : PN) : PT := { t with n := fun j => if j = i then some x else t.n j }
def PT.del (t : PT) (i : Int) : PT := { t with n := fun j => if j = i then none else t.n j }
def entsM (l : List UInt8 → Option Int) : Lit → Option Value
 | .string s => (l s).map (Value.int .u32)
 | _ => none
def pageV (b : List UInt8) : Value := .agg (b.map fun c => Value.int .u8 (c.toNat : Int)).toArray
def pagesM (p : Int → Option (List UInt8)) : Lit → Option Value
 | .int .i64 k => (p k).map pageV
 | _ => none
def nodesM (n : Int → Option PN) (f : Int → Nat) : Lit → Option Value
 | .int .u32 i => (n i).map fun _ => .pointer (some ⟨f i, 0, none⟩)
 | _ => none
structure NodeM (w : World) (Q L G N : Nat) (x : PN) : Prop where
 cells : w.heap[Q]? = some (.cells #[.int .u8 x.kind, .int .i64 x.links, .int .u32 x.size, .map (some L), .map (some G), .int .i64 x.held, .int .u32 x.up] 115 (0, 0))
 ents : MapAt w Tryz.prog 9 L N (entsM x.l)
 pages : MapAt w Tryz.prog 3 G N (pagesM x.pages)
structure Lay where
 M : Nat
 f : Int → Nat
 L : Int → Nat
 G : Int → Nat
 own : Nat → Int
structure TreeM (w : World) (F : Nat → Prop) (P N : Nat) (y : Lay) (t : PT) : Prop where
 head : w.heap[P]? = some (.cells #[.int .u32 t.room, .map (some y.M)] 109 (0, 0))
 nodes : MapAt w Tryz.prog 29 y.M N (nodesM t.n y.f)
 node : ∀ i x, t.n i = some x → NodeM w (y.f i) (y.L i) (y.G i) N x
 pos : ∀ i x, t.n i = some x → 1 ≤ i ∧ i ≤ 4294967295
 own : ∀ i x, t.n i = some x → y.own (y.f i) = i ∧ y.own (y.L i) = i ∧ y.own (y.G i) = i ∧ y.L i ≠ y.G i
 ownM : y.own y.M = 0
 ownP : y.own P = 0
 fP : F P
 fM : F y.M
 foot : ∀ i x, t.n i = some x → F (y.f i) ∧ F (y.L i) ∧ F (y.G i)
 lt : ∀ b, F b → b < w.heap.size
theorem MapAt.below {w w' : World} {P : Program} {k : TypeId} {b n : Nat} {m : Lit → Option Value} (h : MapAt w P k b n m) (hb : Below w.heap.size w w') : MapAt w' P k b n m := h.same (hb.block b h.lt)
section
variable {w w' : World} {F F' : Nat → Prop} {P N N' : Nat} {y : Lay} {t : PT} {i : Int} {x : PN}
theorem NodeM.same {Q L G : Nat} (h : NodeM w Q L G N x) (h1 : w'.heap[Q]? = w.heap[Q]?) (h2 : w'.heap[L]? = w.heap[L]?) (h3 : w'.heap[G]? = w.heap[G]?) : NodeM w' Q L G N x :=
 ⟨h1.trans h.cells, h.ents.same h2, h.pages.same h3⟩
theorem NodeM.mono {Q L G : Nat} (h : NodeM w Q L G N x) (hN : N ≤ N') : NodeM w Q L G N' x := ⟨h.cells, h.ents.mono hN, h.pages.mono hN⟩
theorem NodeM.ltQ {Q L G : Nat} (h : NodeM w Q L G N x) : Q < w.heap.size := (Array.getElem?_eq_some_iff.1 h.cells).1
theorem NodeM.cell {Q L G : Nat} (h : NodeM w Q L G N x) (j : Nat) : w.cell? ⟨Q, j, none⟩ = (#[Value.int .u8 x.kind, .int .i64 x.links, .int .u32 x.size, .map (some L), .map (some G), .int .i64 x.held, .int .u32 x.up])[j]? := by
 simp [World.cell?, h.cells]
theorem NodeM.frozen {Q L G : Nat} (h : NodeM w Q L G N x) (j : Nat) : w.frozen? ⟨Q, j, none⟩ = false := by simp [World.frozen?, h.cells]
theorem TreeM.c0 (h : TreeM w F P N y t) : w.cell? ⟨P, 0, none⟩ = some (.int .u32 t.room) := by simp [World.cell?, h.head]
theorem TreeM.c1 (h : TreeM w F P N y t) : w.cell? ⟨P, 1, none⟩ = some (.map (some y.M)) := by simp [World.cell?, h.head]
theorem TreeM.mono (h : TreeM w F P N y t) (hN : N ≤ N') : TreeM w F P N' y t :=
 { h with nodes := h.nodes.mono hN, node := fun i x hx => (h.node i x hx).mono hN }
theorem TreeM.same (h : TreeM w F P N y t) (hb : ∀ b, F b → w'.heap[b]? = w.heap[b]?) (hs : w.heap.size ≤ w'.heap.size) : TreeM w' F P N y t :=
 { h with
  head := (hb P h.fP).trans h.head
  nodes := h.nodes.same (hb _ h.fM)
  node := fun i x hx => by
   obtain ⟨f1, f2, f3⟩ := h.foot i x hx
   exact (h.node i x hx).same (hb _ f1) (hb _ f2) (hb _ f3)
  lt := fun b hF => Nat.lt_of_lt_of_le (h.lt b hF) hs }
theorem TreeM.below (h : TreeM w F P N y t) (hb : Below w.heap.size w w') : TreeM w' F P N y t := h.same (fun b hF => hb.block b (h.lt b hF)) hb.size
theorem pkey32 (h : 0 ≤ i ∧ i ≤ 4294967295) : keyOf Tryz.prog 29 (.int .u32 i) = some (.int .u32 i) :=
 keyOf_int_mk Tryz.underlying29 (by simp [Lit.wf, IntKind.min, IntKind.max, IntKind.signed, IntKind.bits]; omega)
theorem pkey64 {k : Int} (h : -9223372036854775808 ≤ k ∧ k ≤ 9223372036854775807) : keyOf Tryz.prog 3 (.int .i64 k) = some (.int .i64 k) :=
 keyOf_int_mk Tryz.underlying3 (by simp [Lit.wf, IntKind.min, IntKind.max, IntKind.signed, IntKind.bits]; omega)
theorem pkeyS {s : ByteArray} (h : s.size ≤ maxLen) : keyOf Tryz.prog 9 (.string s) = some (.string s.data.toList) := _root_.Go.WideMaps.keyOf_string_mk Tryz.underlying9 h
theorem law32 : Keyed Tryz.prog 29 := int_keyed Tryz.underlying29
theorem law64 : Keyed Tryz.prog 3 := int_keyed Tryz.underlying3
theorem lawS : Keyed Tryz.prog 9 := string_keyed Tryz.underlying9
theorem zeroN (w : World) : (zeroValue 107).run Tryz.prog w = .ok (.pointer none) w := by kernel_rfl
theorem zero32 (w : World) : (zeroValue 29).run Tryz.prog w = .ok (.int .u32 0) w := by kernel_rfl
theorem TreeM.look (h : TreeM w F P N y t) (hi : 0 ≤ i ∧ i ≤ 4294967295) :
  (Instr.lookup 106 (.map (some y.M)) (.int .u32 i) false).run Tryz.prog w = .ok (((t.n i).map fun _ => Value.pointer (some ⟨y.f i, 0, none⟩)).getD (.pointer none)) w :=
 h.nodes.look law32 Tryz.underlying106 (zeroN w) (pkey32 hi)
theorem TreeM.look_some (h : TreeM w F P N y t) (hx : t.n i = some x) :
  (Instr.lookup 106 (.map (some y.M)) (.int .u32 i) false).run Tryz.prog w = .ok (.pointer (some ⟨y.f i, 0, none⟩)) w := by
 have hp := h.pos i x hx
 have := h.look (i := i) ⟨by omega, hp.2⟩
 rw [hx] at this
 exact this
theorem TreeM.look_none (h : TreeM w F P N y t) (hi : 0 ≤ i ∧ i ≤ 4294967295) (hx : t.n i = none) :
  (Instr.lookup 106 (.map (some y.M)) (.int .u32 i) false).run Tryz.prog w = .ok (.pointer none) w := by
 have := h.look (i := i) hi
 rw [hx] at this
 exact this
theorem NodeM.look {Q L G : Nat} (h : NodeM w Q L G N x) {s : ByteArray} (hs : s.size ≤ maxLen) :
  (Instr.lookup 112 (.map (some L)) (.string s) false).run Tryz.prog w = .ok (.int .u32 ((x.l s.data.toList).getD 0)) w := by
 have := h.ents.look lawS Tryz.underlying112 (zero32 w) (pkeyS hs)
 rw [this]
 cases hx : x.l s.data.toList with
 | none => simp [entsM, hx]
 | some v => simp [entsM, hx]
theorem TreeM.setNode (h : TreeM w F P N y t) (hN : N ≤ N') (hx : t.n i = some x) {x' : PN} (hn : NodeM w' (y.f i) (y.L i) (y.G i) N' x')
  (hb : ∀ b, F b → b ≠ y.f i → b ≠ y.L i → b ≠ y.G i → w'.heap[b]? = w.heap[b]?) (hs : w.heap.size ≤ w'.heap.size) : TreeM w' F P N' y (t.set i x') := by
 have hi := h.pos i x hx
 obtain ⟨o1, o2, o3, o4⟩ := h.own i x hx
 have apart : ∀ b, y.own b ≠ i → b ≠ y.f i ∧ b ≠ y.L i ∧ b ≠ y.G i := fun b hb => ⟨fun e => hb (e ▸ o1), fun e => hb (e ▸ o2), fun e => hb (e ▸ o3)⟩
 have hM := apart y.M (by rw [h.ownM]; omega)
 have hP := apart P (by rw [h.ownP]; omega)
 refine { head := (hb P h.fP hP.1 hP.2.1 hP.2.2).trans h.head, nodes := ?_, node := ?_, pos := ?_, own := ?_, ownM := h.ownM, ownP := h.ownP, fP := h.fP, fM := h.fM, foot := ?_, lt := fun b hF => Nat.lt_of_lt_of_le (h.lt b hF) hs }
 · refine ((h.nodes.mono hN).same (hb y.M h.fM hM.1 hM.2.1 hM.2.2)).congr fun kl _ => ?_
   cases kl with
   | int q a =>
    cases q <;> try rfl
    show (t.n a).map _ = ((t.set i x').n a).map _
    unfold PT.set
    by_cases ha : a = i
    · subst ha; simp [hx]
    · simp [ha]
   | _ => rfl
 · intro j z hz
   unfold PT.set at hz
   by_cases hj : j = i
   · subst hj; simp at hz; subst hz; exact hn
   · simp [hj] at hz
     obtain ⟨p1, p2, p3, _⟩ := h.own j z hz
     obtain ⟨f1, f2, f3⟩ := h.foot j z hz
     have a1 := apart (y.f j) (by rw [p1]; exact hj)
     have a2 := apart (y.L j) (by rw [p2]; exact hj)
     have a3 := apart (y.G j) (by rw [p3]; exact hj)
     exact ((h.node j z hz).mono hN).same (hb _ f1 a1.1 a1.2.1 a1.2.2) (hb _ f2 a2.1 a2.2.1 a2.2.2) (hb _ f3 a3.1 a3.2.1 a3.2.2)
 all_goals
  intro j z hz
  unfold PT.set at hz
  by_cases hj : j = i
  · subst hj
    first | exact hi | exact ⟨o1, o2, o3, o4⟩ | exact h.foot j x hx
  · simp [hj] at hz
    first | exact h.pos j z hz | exact h.own j z hz | exact h.foot j z hz
theorem TreeM.delNode (h : TreeM w F P N y t) (hM : MapAt w' Tryz.prog 29 y.M N (delM (nodesM t.n y.f) (.int .u32 i)))
  (hb : ∀ b, F b → b ≠ y.M → w'.heap[b]? = w.heap[b]?) (hs : w.heap.size ≤ w'.heap.size) : TreeM w' F P N y (t.del i) := by
 have hne : P ≠ y.M := fun e => by
  obtain ⟨es, c, h1⟩ := h.nodes.isMap
  rw [← e, h.head] at h1; cases h1
 have sub : ∀ j z, (t.del i).n j = some z → t.n j = some z := fun j z hz => by
  unfold PT.del at hz
  by_cases hj : j = i
  · simp [hj] at hz
  · simpa [hj] using hz
 refine { head := (hb P h.fP hne).trans h.head, nodes := ?_, node := ?_, pos := fun j z hz => h.pos j z (sub j z hz), own := fun j z hz => h.own j z (sub j z hz), ownM := h.ownM, ownP := h.ownP, fP := h.fP, fM := h.fM, foot := fun j z hz => h.foot j z (sub j z hz), lt := fun b hF => Nat.lt_of_lt_of_le (h.lt b hF) hs }
 · refine hM.congr fun kl hk => ?_
   cases kl with
   | int q a =>
    cases q <;> try (unfold delM; simp [nodesM]; done)
    show delM _ _ _ = ((t.del i).n a).map _
    unfold delM PT.del
    by_cases ha : a = i
    · subst ha; simp [Lit.sameKey]
    · simp [Lit.sameKey, ha, nodesM]
   | _ => unfold delM; simp [nodesM]
 · intro j z hz
   have hz' := sub j z hz
   have hp := h.pos j z hz'
   obtain ⟨p1, p2, p3, _⟩ := h.own j z hz'
   obtain ⟨f1, f2, f3⟩ := h.foot j z hz'
   have ne : ∀ b, y.own b = j → b ≠ y.M := fun b hb e => by rw [e, h.ownM] at hb; omega
   exact (h.node j z hz').same (hb _ f1 (ne _ p1)) (hb _ f2 (ne _ p2)) (hb _ f3 (ne _ p3))
end
structure Turn (w w' : World) (F F' : Nat → Prop) : Prop where
 os : w'.os = w.os
 tape : w'.tape = w.tape
 output : w'.output = w.output
 size : w.heap.size ≤ w'.heap.size
 block : ∀ b, b < w.heap.size → ¬ F b → w'.heap[b]? = w.heap[b]?
 foot : ∀ b, F' b → F b ∨ w.heap.size ≤ b
theorem Turn.refl (w : World) (F : Nat → Prop) : Turn w w F F := ⟨rfl, rfl, rfl, Nat.le_refl _, fun _ _ _ => rfl, fun _ h => .inl h⟩
theorem Turn.trans {w w1 w2 : World} {F F1 F2 : Nat → Prop} (h : Turn w w1 F F1) (k : Turn w1 w2 F1 F2) : Turn w w2 F F2 :=
 ⟨k.os.trans h.os, k.tape.trans h.tape, k.output.trans h.output, Nat.le_trans h.size k.size,
  fun b hb hF => (k.block b (Nat.lt_of_lt_of_le hb h.size) (fun h1 => by rcases h.foot b h1 with h2 | h2; exact hF h2; omega)).trans (h.block b hb hF),
  fun b hb => by
   rcases k.foot b hb with h1 | h1
   · exact h.foot b h1
   · exact .inr (Nat.le_trans h.size h1)⟩
theorem Turn.of_below {w w' : World} (F : Nat → Prop) (h : Below w.heap.size w w') : Turn w w' F F := ⟨h.os, h.tape, h.output, h.size, fun b hb _ => h.block b hb, fun _ h => .inl h⟩
theorem Turn.of_grown {w w' : World} {F : Nat → Prop} {b : Nat} (h : w.grownBy w' (some b)) (hF : F b) : Turn w w' F F :=
 ⟨h.os, h.tape, h.output, h.size, fun c hc hn => h.block c hc (fun e => hn (by injection e with e; rw [e]; exact hF)), fun _ h => .inl h⟩
theorem Turn.below {w w' : World} {F F' : Nat → Prop} {B : Nat} (h : Turn w w' F F') (hF : ∀ b, F b → B ≤ b) (hB : B ≤ w.heap.size) : Below B w w' :=
 ⟨h.os, h.tape, h.output, h.size, fun b hb => h.block b (Nat.lt_of_lt_of_le hb hB) (fun h1 => by have := hF b h1; omega)⟩
end

section
open Go.RowKit Go.Maps
def Enters (g : Nat) : Prop := ∀ args w, (callFunc g args).run Tryz.prog w = .ok (.enter g args) w
def Does (w : World) (v : Value) (R : World → Int → World → Prop) : Prop :=
 ∃ g lb, v = .func (.func g) #[] lb ∧ Enters g ∧ ∀ W, Below w.heap.size w W → Calls Tryz.prog g lb W fun e W' => ∃ x, e = .returned (.int .i64 x) ∧ R W x W'
def Quiet (e : Int) : World → Int → World → Prop := fun W x W' => x = e ∧ Below W.heap.size W W'
abbrev Question (w : World) (v : Value) (e : Int) : Prop := Does w v (Quiet e)
theorem Does.later {w w' : World} {v : Value} {R : World → Int → World → Prop} (h : Does w v R) (hb : Below w.heap.size w w') : Does w' v R := by
 obtain ⟨g, lb, h1, h2, h3⟩ := h
 exact ⟨g, lb, h1, h2, fun W hW => h3 W (ptrans hb hW)⟩
def CheckPost (w : World) (R : World → Int → World → Prop) (e : Ending) (w' : World) : Prop := ∃ x W, e = .returned (.int .i64 x) ∧ Below w.heap.size w W ∧ R W x w'
def CheckRel (w : World) (R : World → Int → World → Prop) (k n : Nat) (j : Nat) (wr : World) : Prop := (j ≤ k ∧ Below w.heap.size w wr) ∨ (j = n ∧ ∃ W, Below w.heap.size w W ∧ R W 0 wr)
set_option maxHeartbeats 4000000 in
theorem t_check (a : Addr) (A : Option Addr) (vs : List Value) (c k : Nat) (R : World → Int → World → Prop) (w : World) (hn : vs.length ≤ maxLen) (hs : SliceAt w A vs)
  (hq : ∀ j v, j < k → vs[j]? = some v → Question w v 0) (v : Value) (hv : vs[k]? = some v) (hd : Does w v R) (hstop : ∀ W x W', R W x W' → x ≠ 0 ∨ k + 1 = vs.length) :
  Calls Tryz.prog 80 #[.pointer (some a), .slice A vs.length c] w (CheckPost w R) := by
 have HQ := zz hq
 have HS := zz hs
 have HV := zz hv
 have HD := zz hd
 have HT := zz hstop
 have hk : k < vs.length := (List.getElem?_eq_some_iff.1 hv).1
 unfold maxLen at hn
 clear hq hs hv hd hstop
 go_enter Tryz.func80, Tryz.ntmps80
 go_wp2
 go_loopw [12] (fun i wr => ∃ j : Nat, j ≤ vs.length ∧ i = .int .i64 j ∧ CheckRel w R k vs.length j wr) (fun i _ => vs.length - (intOf i).toNat)
 case atStart => exact ⟨0, Nat.zero_le _, rfl, .inl ⟨Nat.zero_le _, Below.refl _ _⟩⟩
 case round =>
  obtain ⟨j, hj, rfl, hrl⟩ := hrel
  rcases hrl with ⟨hjk, hb⟩ | ⟨hjn, hend⟩
  · have hjn : j < vs.length := by omega
    obtain ⟨b, o, rfl, hlt, hc⟩ := HS.out (by omega)
    by_cases hjk2 : j = k
    · have c1 := (hb.cell (p := ⟨b, o + j, none⟩) hlt).trans (hc j v (by rw [hjk2]; exact HV.out))
      have HJ := zz hjk2
      obtain ⟨g, lb, rfl, eg, hcall⟩ := HD.out
      have cS := hcall wr hb
      unfold Enters at eg
      clear hc hcall hjk2
      have HB := zz hb
      have HXX : Hid (∀ x W', R wr x W' → x ≠ 0 ∨ j + 1 = vs.length) := fun x W' h => (HT.out wr x W' h).imp id (fun h => by rw [HJ.out]; exact h)
      clear hb
      go_wp2_with (go_at_fn g; refine cS.mono ?_; rintro e W' ⟨x, rfl, hR⟩; have HR := zz hR; clear hR)
      · go_ret
        exact ⟨x, wr, rfl, HB.out, HR.out⟩
      · have hx : x = 0 := by have h : (x != 0) = false := by assumption
                              simpa using h
        subst hx
        go_roundw
        case rel => exact ⟨j + 1, by omega, by go_num, .inr ⟨(HXX.out 0 W' HR.out).resolve_left (fun h => h rfl), wr, HB.out, HR.out⟩⟩
        case measure => simp [intOf]; omega
    · have hjk3 : j < k := by omega
      have hx := List.getElem?_eq_getElem hjn
      have c1 := (hb.cell (p := ⟨b, o + j, none⟩) hlt).trans (hc j _ hx)
      obtain ⟨g, lb, hxe, eg, hcall⟩ := HQ.out j _ hjk3 hx
      have cS := hcall wr hb
      rw [hxe] at c1
      unfold Enters at eg
      clear hc hcall hx hxe
      go_wp2_with (go_at_fn g; refine cS.mono ?_; rintro e W' ⟨x, rfl, rfl, hb2⟩)
      go_roundw
      case rel => exact ⟨j + 1, by omega, by go_num, .inl ⟨by omega, ptrans hb hb2⟩⟩
      case measure => simp [intOf]; omega
  · have hjn' : ¬ j < vs.length := by omega
    have HE : Hid (CheckPost w R (.returned (.int .i64 0)) wr) := by
     obtain ⟨W, h1, h2⟩ := hend
     exact ⟨0, W, rfl, h1, h2⟩
    clear hend hjn
    go_wp2
    go_ret
    exact HE.out
end
end Go.Proofs.YtpcnolkdnmolgaaGreatDoor
