/- Marks of ranges over functions among a frame's deferred calls: a loop in whose round such a range stands; and the function's end. -/
import Derived.RangeFuncNested
import Derived.RangeFuncLeaves
import Derived.RangeFuncBox
namespace Go.Proofs.Ytggpjddomicekaa
open Go.RowKit

/-- A mark. -/
def mark (D : Nat) : Deferred := { target := .collected D, args := #[] }

/-- ds are marks of blocks at or beyond n, each an empty list of deferred calls, no two the same. -/
def MarksOk (n : Nat) (ds : List Deferred) (W : World) : Prop :=
  ∃ Ds : List Nat, ds = Ds.map mark ∧ Ds.Nodup ∧ ∀ D ∈ Ds, n ≤ D ∧ W.heap[D]? = some (.deferred (some []))

theorem MarksOk.nil (n : Nat) (W : World) : MarksOk n [] W := ⟨[], rfl, List.nodup_nil, by simp⟩
theorem MarksOk.lt {n : Nat} {Ds : List Nat} {W : World} (h : ∀ D ∈ Ds, n ≤ D ∧ W.heap[D]? = some (.deferred (some []))) : ∀ D ∈ Ds, D < W.heap.size :=
  fun D hD => (Array.getElem?_eq_some_iff.1 (h D hD).2).1
/-- Kept wherever the blocks that are no cells and lie below B are kept. -/
theorem MarksOk.keeps {n : Nat} {ds : List Deferred} {W W' : World} (h : MarksOk n ds W) (hk : ∀ (k : Nat) (o : Obj), W.heap[k]? = some o → o.isCells = false → W'.heap[k]? = some o) : MarksOk n ds W' := by
  obtain ⟨Ds, h1, h2, h3⟩ := h
  exact ⟨Ds, h1, h2, fun D hD => ⟨(h3 D hD).1, hk D _ (h3 D hD).2 rfl⟩⟩
theorem MarksOk.others {n : Nat} {ds : List Deferred} {W W' : World} (h : MarksOk n ds W) (hk : KeepsOthers W W') : MarksOk n ds W' := h.keeps fun k o h1 h2 => hk.same k o h1 h2
theorem MarksOk.alloc {n : Nat} {ds : List Deferred} {W : World} (h : MarksOk n ds W) (o : Obj) : MarksOk n ds (W.alloc o) := h.others (KeepsOthers.alloc W o)
theorem MarksOk.set {n : Nat} {ds : List Deferred} {W : World} (h : MarksOk n ds W) (p : Addr) (v : Value) : MarksOk n ds (W.setCell p v) := h.others (KeepsOthers.setCell W p v)
/-- Through a range over a function: it turns blocks from B on alone. -/
theorem MarksOk.own {β : Type} (n : Nat) (ds : List Deferred) (W0 : World) : OwnFrom W0.heap.size (fun (_ : β) W => MarksOk n ds W ∧ ∀ D, mark D ∈ ds → D < W0.heap.size) := by
  rintro s W W' row ⟨⟨Ds, h1, h2, h3⟩, hl⟩ hg hr
  refine ⟨⟨Ds, h1, h2, fun D hD => ⟨(h3 D hD).1, ?_⟩⟩, hl⟩
  have hlt := hl D (by rw [h1]; exact List.mem_map_of_mem hD)
  exact (hg.block D (MarksOk.lt h3 D hD) (fun e => by have := (hr D e.symm).1; omega)).trans (h3 D hD).2
theorem MarksOk.atStart {n : Nat} {ds : List Deferred} {W0 : World} (h : MarksOk n ds W0) : MarksOk n ds W0 ∧ ∀ D, mark D ∈ ds → D < W0.heap.size := by
  refine ⟨h, fun D hD => ?_⟩
  obtain ⟨Ds, h1, h2, h3⟩ := h
  rw [h1] at hD
  obtain ⟨D', hD', e⟩ := List.mem_map.1 hD
  have : D' = D := by simpa [mark] using e
  subst this
  exact MarksOk.lt h3 _ hD'
/-- One mark more. -/
theorem MarksOk.cons {n B : Nat} {ds : List Deferred} {W : World} {D : Nat} (h : MarksOk n ds W) (hl : ∀ D, mark D ∈ ds → D < B) (hn : n ≤ B) (hD : B ≤ D) (hK : W.heap[D]? = some (.deferred (some []))) : MarksOk n (mark D :: ds) W := by
  obtain ⟨Ds, h1, h2, h3⟩ := h
  refine ⟨D :: Ds, by rw [h1]; rfl, List.nodup_cons.2 ⟨fun hm => ?_, h2⟩, fun D' hD' => ?_⟩
  · have := hl D (by rw [h1]; exact List.mem_map_of_mem hm); omega
  · rcases List.mem_cons.1 hD' with rfl | hD'
    · exact ⟨by omega, hK⟩
    · exact h3 D' hD'

/-- W' is W but for lists of deferred calls from n on. -/
structure Shutting (n : Nat) (W W' : World) : Prop where
  os : W'.os = W.os
  tape : W'.tape = W.tape
  output : W'.output = W.output
  size : W'.heap.size = W.heap.size
  low : ∀ k, k < n → W'.heap[k]? = W.heap[k]?
  same : ∀ (k : Nat) (o : Obj), W.heap[k]? = some o → (∀ l, o ≠ Obj.deferred l) → W'.heap[k]? = some o
theorem Shutting.refl (n : Nat) (W : World) : Shutting n W W := ⟨rfl, rfl, rfl, rfl, fun _ _ => rfl, fun _ _ h _ => h⟩
theorem Shutting.below {n : Nat} {W W' : World} (h : Shutting n W W') : Below n W W' := ⟨h.os, h.tape, h.output, by rw [h.size]; exact Nat.le_refl _, h.low⟩
theorem Shutting.cell {n : Nat} {W W' : World} (h : Shutting n W W') {a : Addr} {v : Value} (hc : W.cell? a = some v) : W'.cell? a = some v := by
  unfold World.cell? at hc ⊢
  split at hc
  · rename_i c e f hb
    rw [h.same _ _ hb (by intro l hh; cases hh)]
    exact hc
  · cases hc
theorem Shutting.boxed {n : Nat} {W W' : World} (h : Shutting n W W') {B : Nat} {t : TypeId} {v : Value} (hb : Boxed W B t v) : Boxed W' B t v := h.same _ _ hb (by intro l hh; cases hh)
theorem Shutting.row {n : Nat} {W W' : World} (h : Shutting n W W') {base : Nat} {e : TypeId} {size k : Nat} {v : Value} {xs : List Value} (hr : W.ownsRow base e size v k xs) : W'.ownsRow base e size v k xs := by
  obtain ⟨h1, h2⟩ := hr
  refine ⟨h1, ?_⟩
  rcases h2 with h2 | ⟨g, cap, cur, hv, hg, hh, r⟩
  · exact Or.inl h2
  · exact Or.inr ⟨g, cap, cur, hv, hg, h.same _ _ hh (by intro l hx; cases hx), r⟩

variable {F : Fence} {n : Nat} {P : Program}

/-- AT THE FUNCTION's END the marks' blocks are shut, one behind the other. -/
theorem leaves_marks {fn : Func} {tmps : Array Value} {R : Ending → World → Prop} {n₀ : Nat} :
    ∀ (ds : List Deferred) (W0 W : World), Shutting n₀ W0 W → MarksOk n₀ ds W → (∀ W', Shutting n₀ W0 W' → ∃ v, (results fn tmps).run P W' = .ok v W' ∧ R (.returned v) W') →
      LeavesInM F n P fn tmps R ds .returning W := by
  intro ds
  induction ds with
  | nil => intro W0 W hs _ h; exact h W hs
  | cons d ds ih =>
    intro W0 W hs hm h
    obtain ⟨Ds, h1, h2, h3⟩ := hm
    cases Ds with
    | nil => cases h1
    | cons D Ds =>
      simp only [List.map_cons, List.cons.injEq] at h1
      obtain ⟨rfl, rfl⟩ := h1
      obtain ⟨hn, hK⟩ := h3 D (List.mem_cons_self ..)
      refine ⟨by simp, .inl ⟨D, _, rfl, run_takeDeferred hK, ih W0 _ ?_ ?_ h⟩⟩
      · refine ⟨hs.os, hs.tape, hs.output, (by simp [World.putObj, hs.size]), fun k hk => (World.putObj_heap_other (by omega)).trans (hs.low k hk), fun k o ho hne => ?_⟩
        have hk := hs.same k o ho hne
        refine (World.putObj_heap_other ?_).trans hk
        rintro rfl
        rw [hK] at hk
        cases hk
        exact hne _ rfl
      · refine ⟨Ds, rfl, (List.nodup_cons.1 h2).2, fun D' hD' => ⟨(h3 D' (List.mem_cons_of_mem _ hD')).1, ?_⟩⟩
        exact (World.putObj_heap_other (by rintro rfl; exact (List.nodup_cons.1 h2).1 hD')).trans (h3 D' (List.mem_cons_of_mem _ hD')).2

/-- A loop in whose round ranges over functions stand. -/
theorem wpIn_loop_marks {c : Code} {Q : Exit → Act → World → Prop} {tmps : Array Value} {ds : List Deferred} {w : World} (n₀ : Nat) (I : Array Value → World → Prop) (μ : Array Value → World → Nat)
    (h₀ : I tmps w) (hd : MarksOk n₀ ds w)
    (round : ∀ t d w, I t w → MarksOk n₀ d w → c.wpIn F n P (Exit.then (fun a' w' => (I a'.tmps w' ∧ μ a'.tmps w' < μ t w) ∧ MarksOk n₀ a'.defers w') Q) ⟨t, d⟩ w) :
    (Code.loop c).wpIn F n P Q ⟨tmps, ds⟩ w :=
  wpIn_loop (fun a w => I a.tmps w ∧ MarksOk n₀ a.defers w) (fun a w => μ a.tmps w) ⟨h₀, hd⟩ fun a w hI => by
    refine wpIn_mono (round a.tmps a.defers w hI.1 hI.2) fun e a' w' h => ?_
    cases e with
    | normal => exact ⟨⟨h.1.1, h.2⟩, h.1.2⟩
    | _ => exact h
end Go.Proofs.Ytggpjddomicekaa
