/- Fair's closure: is each core met? -/
import Derived.Test.YtmnombfgahmfkaaGreatDoorOB
namespace Go.Proofs.YtmnombfgahmfkaaGreatDoor
open Go.RowKit Go.Maps

/-- Bytes in a row: l's, from a place on. -/
def U8At (w : World) (A : Option Addr) (l : List Int) : Prop := (∀ v ∈ l, 0 ≤ v ∧ v ≤ 255) ∧ (l ≠ [] → ∃ b o, A = some ⟨b, o, none⟩ ∧ ∀ k v, l[k]? = some v → w.cell? ⟨b, o + k, none⟩ = some (.int .u8 v))
theorem U8At.below {w w' : World} {A : Option Addr} {l : List Int} (h : U8At w A l) (hb : Below w.heap.size w w') : U8At w' A l := by
  refine ⟨h.1, fun hl => ?_⟩
  obtain ⟨b, o, h1, h2⟩ := h.2 hl
  refine ⟨b, o, h1, fun k v hv => ?_⟩
  have hc := h2 k v hv
  exact (World.cell?_of_block (hb.block b (World.block_lt_of_cell? w _ hc))).trans hc
/-- A map of the numbers that were met. -/
def MetAt (w : World) (b n : Nat) (s : List Int) : Prop :=
  ∃ (D : DataW Value) (m : Lit → Option Value), w.ownsMap Tryz.prog 3 anyElem b n D ∧ (∀ kl, WideAt.IsKeyLit kl → ofD D kl = m kl) ∧ (∀ k v, m (.int .i64 k) = some v → ∃ x, v = .int .i64 x) ∧ (∀ k, Maps.has D (.int .i64 k) = decide (k ∈ s)) ∧ Maps.size D = s.length
theorem mkey {k : Int} (h : -9223372036854775808 ≤ k ∧ k ≤ 9223372036854775807) : keyOf Tryz.prog 3 (.int .i64 k) = some (.int .i64 k) :=
  keyOf_int_mk Tryz.underlying3 (by simp [Lit.wf, IntKind.min, IntKind.max, IntKind.signed, IntKind.bits]; omega)
theorem mlaw : Keyed Tryz.prog 3 := int_keyed Tryz.underlying3
theorem mzero (w : World) : (zeroValue 3).run Tryz.prog w = .ok (.int .i64 0) w := by kernel_rfl
section
variable {w w' : World} {b n : Nat} {s : List Int}
theorem MetAt.made (w : World) : MetAt (w.alloc (.map #[] 0)) w.heap.size 0 [] :=
  ⟨.map [], fun _ => none, World.ownsMap_made w Tryz.prog 3 anyElem, fun _ _ => rfl, fun _ _ h => by simp at h, fun _ => rfl, rfl⟩
theorem MetAt.same (h : MetAt w b n s) (hb : w'.heap[b]? = w.heap[b]?) : MetAt w' b n s := by
  obtain ⟨D, m, ⟨es, clock, h1, r⟩, h2⟩ := h
  exact ⟨D, m, ⟨es, clock, hb.trans h1, r⟩, h2⟩
theorem MetAt.look (h : MetAt w b n s) {k : Int} (hk : -9223372036854775808 ≤ k ∧ k ≤ 9223372036854775807) : ∃ x, (Instr.lookup 35 (.map (some b)) (.int .i64 k) false).run Tryz.prog w = .ok (.int .i64 x) w := by
  obtain ⟨D, m, hD, hm, hv, _, _⟩ := h
  have := MapAt.look (m := m) ⟨D, hD, hm⟩ mlaw Tryz.underlying35 (mzero w) (mkey hk)
  cases hx : m (.int .i64 k) with
  | none => rw [hx] at this; exact ⟨0, this⟩
  | some v =>
    obtain ⟨x, rfl⟩ := hv k v hx
    rw [hx] at this
    exact ⟨x, this⟩
theorem MetAt.put (h : MetAt w b n s) (hn : n < maxLen) {k : Int} (hk : -9223372036854775808 ≤ k ∧ k ≤ 9223372036854775807) (x : Int) :
    ∃ w', (Instr.mapUpdate 35 (.map (some b)) (.int .i64 k) (.int .i64 x)).run Tryz.prog w = .ok () w' ∧ MetAt w' b (n + 1) (if k ∈ s then s else k :: s) ∧ w.mapTurned w' b := by
  obtain ⟨D, m, hD, hm, hv, hs, hz⟩ := h
  obtain ⟨w', h1, h2, h3⟩ := hD.store mlaw Tryz.underlying35 hn (mkey hk) (val := .int .i64 x) (d := .held (.int .i64 x)) (ps := []) rfl
  have hi := hD.isMap
  have ht := hD.tidy mlaw
  have hkl : WideAt.IsKeyLit (.int .i64 k) := mlaw.key (mkey hk)
  refine ⟨w', h1, ⟨_, updM m (.int .i64 k) (.int .i64 x), h2, fun y hy => ?_, fun j v hjv => ?_, fun j => ?_, ?_⟩, h3⟩
  · unfold updM
    by_cases hsk : y.sameKey (.int .i64 k) = true
    · rw [if_pos hsk]
      have : y = .int .i64 k := WideAt.sameKey_eq hsk
      subst this
      unfold ofD
      rw [Maps.atKey_put_same hi hy]
    · rw [if_neg hsk, ← hm y hy]
      have hne : y ≠ .int .i64 k := fun e => hsk (by rw [e]; exact WideAt.sameKey_self (e ▸ hy))
      unfold ofD
      rw [Maps.atKey_put_other hne]
  · unfold updM at hjv
    split at hjv
    · cases hjv; exact ⟨x, rfl⟩
    · exact hv j v hjv
  · by_cases hj : j = k
    · subst hj
      refine (Maps.has_put_same hi hkl _).trans (decide_eq_true ?_).symm
      split
      · assumption
      · exact List.mem_cons_self ..
    · have hne : (Lit.int .i64 j) ≠ Lit.int .i64 k := fun e => hj (by injection e)
      have e1 : Maps.has (DataW.put D (.int .i64 k) (.held (.int .i64 x))) (.int .i64 j) = Maps.has D (.int .i64 j) := Maps.has_put_other hne _
      have e2 := hs j
      have e3 : (j ∈ s) ↔ j ∈ (if k ∈ s then s else k :: s) := by
        split
        · exact Iff.rfl
        · exact ⟨fun h => List.mem_cons_of_mem _ h, fun h => by
            rcases List.mem_cons.1 h with h | h
            · exact absurd h hj
            · exact h⟩
      rw [e1, e2]
      exact decide_eq_decide.2 e3
  · rw [Maps.size_put ht, hs k, hz]
    by_cases c : k ∈ s
    · rw [if_pos (by simpa using c), if_pos c]
    · rw [if_neg (by simpa using c), if_neg c]; rfl
theorem MetAt.len (h : MetAt w b n s) (ty : TypeId) : (Builtin.len_ #[35] ty #[.map (some b)]).run Tryz.prog w = .ok (.int .i64 s.length) w := by
  obtain ⟨D, m, hD, hm, hv, hs, hz⟩ := h
  rw [← hz]
  exact hD.len Tryz.underlying35 ty
end
theorem metL_snoc {c : Int} {l : List Int} {k : Nat} {v : Int} (h : l[k]? = some v) : metL c (l.take (k + 1)) = if v % c ∈ metL c (l.take k) then metL c (l.take k) else v % c :: metL c (l.take k) := by
  unfold metL
  rw [List.take_add_one, h]
  simp only [Option.toList_some, List.foldl_append, List.foldl_cons, List.foldl_nil]
  rfl
set_option maxRecDepth 100000 in
theorem t_has (B : Nat) (c : Int) (A : Option Addr) (n cp : Nat) (l : List Int) (w : World) (hc : 1 ≤ c ∧ c ≤ 8) (hl : U8At w A l) (hn : l.length = n) (hn2 : n ≤ 100000) (hB : w.cell? ⟨B, 0, none⟩ = some (.int .i64 c)) :
    Calls Tryz.prog 11 #[.slice A n cp, .pointer (some ⟨B, 0, none⟩)] w fun e w' => e = .returned (.bool (hasF c l)) ∧ Below w.heap.size w w' := by
  have hmm := @run_makeMap Tryz.prog
  have HL := Lib.hid hl
  have HN := Lib.hid hn
  have HM := Lib.hid (MetAt.made w)
  have hBl := World.block_lt_of_cell? w _ hB
  have HC := Lib.hid hc
  clear hl hn
  go_enter Tryz.func11, Tryz.ntmps11
  go_wp2
  go_loopw [10] (fun x wr => ∃ i : Nat, x = .int .i64 (i : Int) ∧ i ≤ n ∧ Hid (MetAt wr w.heap.size i (metL c (l.take i)) ∧ Below w.heap.size w wr)) (fun x _ => n - (intOf x).toNat)
  case atStart => exact ⟨0, rfl, Nat.zero_le _, ⟨HM.out, (Below.refl _ _).alloc (Nat.le_refl _) _⟩⟩
  case round =>
    obtain ⟨k, rfl, hk, HW⟩ := hrel
    have hcB : wr.cell? ⟨B, 0, none⟩ = some (.int .i64 c) := (World.cell?_of_block (HW.out.2.block B hBl)).trans hB
    by_cases he : k < n
    · obtain ⟨v, hv⟩ : ∃ v, l[k]? = some v := ⟨_, List.getElem?_eq_getElem (by rw [HN.out]; exact he)⟩
      have hl := HL.out.below HW.out.2
      obtain ⟨b, o, rfl, hcell⟩ := hl.2 (fun e => by rw [e] at hv; simp at hv)
      have hx := hcell k v hv
      have hr := hl.1 v (List.mem_of_getElem? hv)
      have hm : v.tmod c = v % c := Int.tmod_eq_emod_of_nonneg hr.1
      have hm1 := Int.emod_nonneg v (show c ≠ 0 by omega)
      have hm2 := Int.emod_lt_of_pos v (show 0 < c by omega)
      obtain ⟨x, hlook⟩ := HW.out.1.look (k := v % c) ⟨by omega, by omega⟩
      obtain ⟨w2, hput, hM2, ht2⟩ := HW.out.1.put (k := v % c) (by unfold maxLen; omega) ⟨by omega, by omega⟩ (wrap64 (x + 1))
      have HM2 : Hid (MetAt w2 w.heap.size (k + 1) (metL c (l.take (k + 1))) ∧ Below w.heap.size w w2) := by
        refine ⟨?_, (HW.out.2).trans ?_⟩
        · rw [metL_snoc hv]
          exact hM2
        · have hg := ht2.grown
          refine ⟨hg.os, hg.tape, hg.output, hg.size, fun b hb => hg.block b (Nat.lt_of_lt_of_le hb HW.out.2.size) fun e => ?_⟩
          injection e with e
          omega
      clear hM2 ht2 hcell hl hv
      have hc0 : c ≠ 0 := by omega
      go_wp2
      go_roundw
      case rel => exact ⟨k + 1, rfl, he, HM2⟩
      case measure => simp only [intOf]; omega
    · have hk2 : k = n := by omega
      have hlen := HW.out.1.len 3
      have HE : Hid (metL c (l.take k) = metL c l) := by show _ = _; rw [List.take_of_length_le (by rw [HN.out]; omega)]
      rw [HE.out] at hlen
      go_wp2
      go_ret
      refine ⟨?_, HW.out.2⟩
      unfold hasF
      have e : (((metL c l).length : Int) == c) = decide (((metL c l).length : Int) = c) := by rw [Bool.eq_iff_iff]; simp
      rw [e]
      rfl
set_option maxRecDepth 100000 in
theorem t_steps (i c l r : Int) (w : World) : Calls Tryz.prog 8 #[confV i c l r] w fun e w' => e = .returned (.int .i64 (stepsF i r)) ∧ Below w.heap.size w w' := by
  have hb : Below w.heap.size w (w.alloc (.cells #[.int .i64 i, .int .i64 c, .int .i64 l, .int .i64 r] 24)) := (Below.refl _ _).alloc (Nat.le_refl _) _
  by_cases h1 : 2 ≤ i
  rotate_left
  · rw [show stepsF i r = 0 by unfold stepsF; rw [if_neg (by omega)]]
    go_enter Tryz.func8, Tryz.ntmps8
    go_wp2
    go_ret
    exact ⟨rfl, hb⟩
  by_cases h2 : i ≤ 256
  rotate_left
  · rw [show stepsF i r = 0 by unfold stepsF; rw [if_neg (by omega)]]
    go_enter Tryz.func8, Tryz.ntmps8
    go_wp2
    go_ret
    exact ⟨rfl, hb⟩
  by_cases h3 : 0 ≤ r
  rotate_left
  · rw [show stepsF i r = 0 by unfold stepsF; rw [if_neg (by omega)]]
    go_enter Tryz.func8, Tryz.ntmps8
    go_wp2
    go_ret
    exact ⟨rfl, hb⟩
  by_cases h4 : r ≤ 16
  rotate_left
  · rw [show stepsF i r = 0 by unfold stepsF; rw [if_neg (by omega)]]
    go_enter Tryz.func8, Tryz.ntmps8
    go_wp2
    go_ret
    exact ⟨rfl, hb⟩
  rw [show stepsF i r = 48 * (r + 1) + 3 * (i + 1) + 1 by unfold stepsF; rw [if_pos ⟨⟨h1, h2⟩, h3, h4⟩]]
  go_enter Tryz.func8, Tryz.ntmps8
  go_wp2
  go_ret
  exact ⟨rfl, hb⟩
end Go.Proofs.YtmnombfgahmfkaaGreatDoor
