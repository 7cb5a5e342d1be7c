/- The program's tree: New. -/
import Derived.Test.YtehckjkihaalfaaGreatRO
namespace Go.Proofs.YtehckjkihaalfaaGreat
open Go.RowKit Go.Maps

def newT (n : Int) : PT := (⟨n, fun _ => none⟩ : PT).set 1 (newN 2)
theorem t_newNo (n : Int) (w : World) (hn : n < 2 ∨ 256 < n) : Calls Tryz.prog 68 #[.int .i64 n] w fun e w' => e = .returned (.tuple #[.pointer none, .int .i64 2]) ∧ w = w' := by
  by_cases h : n < 2
  · clear hn
    go_enter Tryz.func68, Tryz.ntmps68
    go_wp2
    go_ret2
    exact ⟨rfl, rfl⟩
  · have h2 : 256 < n := by omega
    clear hn
    go_enter Tryz.func68, Tryz.ntmps68
    go_wp2
    go_ret2
    exact ⟨rfl, rfl⟩
def NewT (n : Int) (w : World) (e : Ending) (w' : World) : Prop := ∃ P y F, e = .returned (.tuple #[.pointer (some ⟨P, 0, none⟩), .int .i64 0]) ∧ TreeM w' F P 1 y (newT n) ∧ Below w.heap.size w w' ∧ ∀ b, F b → w.heap.size ≤ b
set_option maxRecDepth 100000 in
set_option maxHeartbeats 4000000 in
theorem t_new (n : Int) (w : World) (h1 : 2 ≤ n) (h2 : n ≤ 256) : Calls Tryz.prog 68 #[.int .i64 n] w (NewT n w) := by
  have hmm := @run_makeMap Tryz.prog
  go_enter Tryz.func68, Tryz.ntmps68
  go_wp2
  obtain ⟨w0, hw0⟩ : ∃ w0, (w.alloc (.map #[] 0)).alloc (.cells #[.int .u32 n, .map (some w.heap.size)] 155) = w0 := ⟨_, rfl⟩
  have hBw : Below w.heap.size w w0 := by rw [← hw0]; exact ((Below.refl _ _).alloc (Nat.le_refl _) _).alloc (by simp) _
  have hsz : w0.heap.size = w.heap.size + 2 := by rw [← hw0]; simp
  have hT : TreeM w0 (fun b => b = w.heap.size ∨ b = w.heap.size + 1) (w.heap.size + 1) 0 ⟨w.heap.size, fun _ => 0, fun _ => 0, fun _ => 0, fun _ => 0⟩ ⟨n, fun _ => none⟩ := by
    have e1 : (w.alloc (.map #[] 0)).heap.size = w.heap.size + 1 := by simp
    refine { head := ?_, nodes := ?_, node := fun _ _ h => (by cases h), pos := fun _ _ h => (by cases h), own := fun _ _ h => (by cases h), ownM := rfl, ownP := rfl, fP := .inr rfl, fM := .inl rfl, foot := fun _ _ h => (by cases h), lt := fun b hb => by rw [hsz]; rcases hb with h | h <;> omega }
    · have := heap_alloc_new (w.alloc (.map #[] 0)) (.cells #[.int .u32 n, .map (some w.heap.size)] 155)
      rw [e1] at this
      rw [← hw0]; exact this
    · rw [← hw0]
      refine ((MapAt.made w Tryz.prog 32).same (Below.heap_alloc _ _ _ (by rw [e1]; exact Nat.lt_succ_self _))).congr fun kl _ => ?_
      cases kl with
      | int q a => cases q <;> rfl
      | _ => rfl
  rw [hw0]
  clear hw0 hmm
  refine wp_region_front 5 (phi [isV (.pointer (some ⟨w.heap.size + 1, 0, none⟩)), isV (.pointer (some ⟨w.heap.size + 1, 0, none⟩)), isV (.pointer (some ⟨w.heap.size + 1, 1, none⟩)), isV (.map (some w.heap.size)), isNew w0.heap.size (newN 2)]) (by kernel_rfl) (by kernel_rfl) (by kernel_rfl) ?_ ?_ ?_
  · refine stays_phi ?_
    simp only [List.forall_mem_cons]
    exact ⟨stays_V _, stays_V _, stays_V _, stays_V _, stays_New _ _, fun _ h => absurd h (by simp)⟩
  · refine ⟨?_, ?_, ?_, ?_, ?_, trivial⟩
    · refine op_mk rfl fun a W2 hB hp hq K hK => ?_
      have e4 : a.tmps[4]?.getD undef = .pointer (some ⟨w.heap.size + 1, 0, none⟩) := hp 4 (by kernel_rfl)
      clear hp hq
      go_simp
      exact hK _ _ (Below.refl _ _) rfl
    · refine op_mk rfl fun a W2 hB hp hq K hK => ?_
      have e16 : a.tmps[16]?.getD undef = .pointer (some ⟨w.heap.size + 1, 0, none⟩) := hq 0 16 (by kernel_rfl) (by kernel_rfl)
      clear hp hq
      go_simp
      exact hK _ _ (Below.refl _ _) rfl
    · refine op_mk rfl fun a W2 hB hp hq K hK => ?_
      have e17 : a.tmps[17]?.getD undef = .pointer (some ⟨w.heap.size + 1, 0, none⟩) := hq 1 17 (by kernel_rfl) (by kernel_rfl)
      clear hp hq
      go_simp
      exact hK _ _ (Below.refl _ _) rfl
    · refine op_mk rfl fun a W2 hB hp hq K hK => ?_
      have e18 : a.tmps[18]?.getD undef = .pointer (some ⟨w.heap.size + 1, 1, none⟩) := hq 2 18 (by kernel_rfl) (by kernel_rfl)
      have cc : W2.cell? ⟨w.heap.size + 1, 1, none⟩ = some (.map (some w.heap.size)) := (hT.below hB).c1
      clear hp hq
      go_simp
      exact hK _ _ (Below.refl _ _) rfl
    · refine op_mk rfl fun a W2 hB hp hq K hK => ?_
      have HB := Lib.hid hB
      clear hp hq hB
      go_simp
      refine (t_freshN 2 (.inr rfl) W2).mono ?_
      rintro e w' ⟨rfl, hn, hb, _⟩
      have := HB.out.size
      exact hK _ _ hb ⟨_, _, _, rfl, hn, by omega, by omega, by omega, by omega⟩
  · intro us W2 hB2 hv
    have u3 : us 3 = .map (some w.heap.size) := hv 3 (by decide) (by kernel_rfl)
    obtain ⟨Q, L, G, u4, hn, hQ, hL, hG, hLG⟩ : isNew w0.heap.size (newN 2) (us 4) W2 := hv 4 (by decide) (by kernel_rfl)
    clear hv
    obtain ⟨w3, hrun, hM3, ht3⟩ := (hT.below hB2).nodes.update law32 Tryz.underlying153 (by unfold maxLen; omega) (val := .pointer (some ⟨Q, 0, none⟩)) (pkey32 (i := 1) ⟨by omega, by omega⟩)
    obtain ⟨hT3, hU3⟩ := hT.add (i := 1) ⟨by omega, by omega⟩ hB2 hn hQ hL hG hLG hM3 ht3
    have HX : Hid (NewT n w (.returned (.tuple #[.pointer (some ⟨w.heap.size + 1, 0, none⟩), .int .i64 0])) w3) :=
      ⟨_, _, _, rfl, hT3, (hBw.trans (hU3.below (B := w.heap.size) (fun b hb => by rcases hb with h | h <;> omega) (by omega))), fun b hb => by
        rcases hb with (h | h) | h | h | h <;> omega⟩
    clear hT3 hU3 hM3 ht3 hn hB2 hT
    refine (show wpAny Tryz.prog .any _ _ 1 _ _ W2 from ?_)
    refine wpAny_one (i := 5) (by kernel_rfl) (by rfl) rfl (fun K hK => ?_)
    simp only [List.take_succ_cons, List.take_zero, putAll, Act.put, List.setIfInBounds_toArray, List.set_cons_succ, List.set_cons_zero, Nat.zero_add, Nat.reduceAdd, u3, u4] at hK ⊢
    go_simp
    refine hK _ _ (wpAny_end (by kernel_rfl) ?_)
    clear hK
    go_wp2
    go_ret2
    exact HX.out
end Go.Proofs.YtehckjkihaalfaaGreat
