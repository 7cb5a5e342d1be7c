/- A range over a function that turns a variable of its own between two rounds. -/
import Derived.Test.YtmnombfgahmfkaaGreatDoorRA
import Derived.RangeFuncNested
import Derived.RangeFuncLeaves
import Derived.RangeFuncBox
namespace Go.Proofs.YtmnombfgahmfkaaGreatDoor
open Go.RowKit

/-- An iterator's contract: between two rounds it turns block Bp alone. -/
def SeqB {α : Type} (F : Fence) (n : Nat) (P : Program) (g : Nat) (lb : Array Value) (encs : α → Array Value) (Kp : World → World → Prop) (Bp : Nat) (S Sp : List α → Prop) (N : Nat) (w : World) : Prop :=
  ∀ (l : Nat) (J Jx : List α → World → Prop) (W : World), Below w.heap.size w W → (∀ s A C, J s A → A.grownBy C (some Bp) → J s C) → (∀ s A C, Jx s A → A.grownBy C (some Bp) → Jx s C) →
    (∀ pre x W1, J pre W1 → pre.length < N → YieldAt F (n - 1) P l (encs x) W1 fun e W' =>
      (e = .returned (.bool true) ∧ J (pre ++ [x]) W' ∧ Kp W1 W') ∨ (e = .returned (.bool false) ∧ Jx (pre ++ [x]) W')) →
    J [] W →
    CallsIn F n P g (#[.func (.yield l) #[] #[]] ++ lb) W fun e W' => (∃ v, e = .returned v) ∧ ((∃ xs, S xs ∧ J xs W') ∨ (∃ pre, Sp pre ∧ Jx pre W'))
section
variable {F : Fence} {n : Nat} {P : Program}
theorem wpIn_rangeB {α : Type} {g : Operand} {ps : Array Tmp} {assign body : Code} {Q : Exit → Act → World → Prop} {a : Act} {w : World}
    (hro : F.round = none) (h1 : 1 ≤ n) {gf : Nat} {lb : Array Value} (hg : a.eval g = .func (.func gf) #[] lb) (hFg : F.fn gf) (eg : ∀ args w, (callFunc gf args).run P w = .ok (.enter gf args) w)
    {encs : α → Array Value} {Kp : World → World → Prop} {S Sp : List α → Prop} {N Bp : Nat} (hBp : Bp < w.heap.size) (hseq : SeqB F (n - 1) P gf lb encs Kp Bp S Sp N w)
    (hKt : ∀ {A B C : World}, Kp A B → Kp B C → Kp A C) (hKb : ∀ (W : World) (l : Nat) (o : Obj), w.heap.size ≤ l → l < W.heap.size → Kp W (W.putObj l o)) (hps : ∀ x, (encs x).size = ps.size)
    (I : List α → World → Prop) (Ix : Code → List α → World → Prop) (hI : OwnFrom w.heap.size I) (hIx : ∀ c, OwnFrom w.heap.size (Ix c)) (hIB : ∀ s A C, I s A → A.grownBy C (some Bp) → I s C) (hIxB : ∀ c s A C, Ix c s A → A.grownBy C (some Bp) → Ix c s C)
    (h0 : I [] w) (Ax : α → Act → World → Prop) (hAx : ∀ x a', OwnFrom w.heap.size (fun (_ : Unit) W => Ax x a' W))
    (hassign : ∀ (l : Nat) (pre : List α) (x : α) (W : World) (K : Act → World → Prop), I pre W → (∀ a' W', KeepsFrom w.heap.size W W' → Kp W W' → I pre W' → Ax x a' W' → K a' W') →
      assign.wpIn (F.inRound l) (n - 1 - 1) P (Exit.then K (fun _ _ _ => False)) { tmps := (ps.zip (encs x)).foldl (fun t (p, v) => t.setIfInBounds p v) a.tmps, defers := [] } W)
    (hbody : ∀ (l : Nat) (pre : List α) (x : α) (a' : Act) (W : World), w.heap.size ≤ l → I pre W → Ax x a' W → pre.length < N → body.wpIn (F.inRound l) (n - 1 - 1) P (ownPostG w.heap.size Kp I Ix (pre ++ [x]) W) a' W)
    (hdone : ∀ (D : Nat) (xs : List α) (W : World), w.heap.size ≤ D → S xs → I xs W → W.heap[D]? = some (.deferred (some [])) → Q .normal { a with defers := { target := .collected D, args := #[] } :: a.defers } W)
    (hstop : ∀ (D : Nat) (c : Code) (pre : List α) (W : World), w.heap.size ≤ D → Sp pre → Ix c pre W → W.heap[D]? = some (.deferred (some [])) → c.wpIn F n P Q { a with defers := { target := .collected D, args := #[] } :: a.defers } W) :
    (Code.rangeFunc g ps assign body).wpIn F n P Q a w := by
  refine wpIn_rangeFunc ?_
  intro fn hfn
  rw [hro]
  -- the loop's record, ready, busy or done; the block of deferred calls ahead of it
  obtain ⟨rc, hrc⟩ : ∃ rc : LoopState → Option Code → Loop, rc = fun st pe => { state := st, pending := pe, fn, tmps := a.tmps, params := ps, assign, body, defers := w.heap.size } := ⟨_, rfl⟩
  have hsz0 : (w.alloc (.deferred (some []))).heap.size = w.heap.size + 1 := World.size_alloc _ _
  obtain ⟨W1, hW1⟩ : ∃ W1, (w.alloc (.deferred (some []))).alloc (.loop (rc .ready none)) = W1 := ⟨_, rfl⟩
  have rec1 : W1.heap[w.heap.size + 1]? = some (.loop (rc .ready none)) := by
    have := World.alloc_heap_new (w.alloc (.deferred (some []))) (.loop (rc .ready none))
    rw [hsz0] at this
    rwa [hW1] at this
  have def1 : W1.heap[w.heap.size]? = some (.deferred (some [])) := by
    rw [← hW1]
    exact (Below.heap_alloc _ _ _ (by rw [hsz0]; omega)).trans (World.alloc_heap_new w _)
  have i1 : I [] W1 := by rw [← hW1]; exact hI.alloc _ (hI.alloc _ h0)
  have b1 : Below w.heap.size w W1 := by
    rw [← hW1]
    exact ((Below.refl _ w).alloc (Nat.le_refl _) _).alloc (by rw [hsz0]; omega) _
  refine ⟨w.heap.size + 1, [{ target := .collected w.heap.size, args := #[] }], W1, { target := .fn (.func gf) lb, args := #[.func (.yield (w.heap.size + 1)) #[] #[]] }, W1, gf, #[.func (.yield (w.heap.size + 1)) #[] #[]] ++ lb, W1, ?enter, ?res, ?lead, ?inv, fun _ => h1, ?call⟩
  case enter => rw [← hW1, hrc]; exact run_enterLoop_outer _ _ _ _ _
  case res =>
    simp only [resolve, hg]
    simp [go_sem]
  case lead =>
    intro f' hf'
    simp [Target.leads] at hf'
    subst hf'
    exact hFg
  case inv => simp [invoke, go_sem, eg]
  case call =>
    -- what lies at a block that is not Bp stays through the iterator's own steps
    have stays : ∀ {A C : World} {k : Nat} {o : Obj}, w.heap.size ≤ k → A.grownBy C (some Bp) → A.heap[k]? = some o → C.heap[k]? = some o := fun {A C k o} hk hgr ho =>
      (hgr.block k (Array.getElem?_eq_some_iff.1 ho).1 (fun e => by injection e with e; omega)).trans ho
    refine (hseq (w.heap.size + 1)
      (fun pre W => I pre W ∧ W.heap[w.heap.size + 1]? = some (.loop (rc .ready none)) ∧ W.heap[w.heap.size]? = some (.deferred (some [])))
      (fun pre W => ∃ c, Ix c pre W ∧ W.heap[w.heap.size + 1]? = some (.loop (rc .done (some c))) ∧ W.heap[w.heap.size]? = some (.deferred (some [])))
      W1 b1 (fun s A C h hgr => ⟨hIB s A C h.1 hgr, stays (by omega) hgr h.2.1, stays (Nat.le_refl _) hgr h.2.2⟩)
      (fun s A C h hgr => by obtain ⟨c, hc, hl, hk⟩ := h; exact ⟨c, hIxB c s A C hc hgr, stays (by omega) hgr hl, stays (Nat.le_refl _) hgr hk⟩)
      ?round ⟨i1, rec1, def1⟩).mono ?behind
    case round =>
      rintro pre x W ⟨hi, hl, hk⟩ hlen
      have hy := run_yield (P := P) (args := encs x) hl (by rw [hrc]; exact hps x)
      rw [hrc] at hy
      refine ⟨fn, _, assign, body, hy, roundIn_of_wpIn hfn (hassign _ pre x W _ hi ?_)⟩
      intro a' V hkf hkp hiV hax
      have hlV := hkf.same _ _ (by omega) hl rfl
      have hkV := hkf.same _ _ (Nat.le_refl _) hk rfl
      have hltV : w.heap.size + 1 < V.heap.size := (Array.getElem?_eq_some_iff.1 hlV).1
      refine ⟨_, run_beginRound hlV (by rw [hrc]), ?_⟩
      have hl2 : (V.putObj (w.heap.size + 1) (.loop { rc .ready none with state := .busy })).heap[w.heap.size + 1]? = some (.loop { rc .ready none with state := .busy }) := World.putObj_heap_same hltV
      have hk2 : (V.putObj (w.heap.size + 1) (.loop { rc .ready none with state := .busy })).heap[w.heap.size]? = some (.deferred (some [])) := (World.putObj_heap_other (by omega)).trans hkV
      refine wpIn_mono (hbody _ pre x a' _ (by omega) (hI.putObj _ hiV (by omega) hlV rfl) ((hAx x a').putObj (s := ()) _ hax (by omega) hlV rfl) hlen) ?_
      have fin : ∀ (jump : Option Code) (X : World), KeepsFrom w.heap.size (V.putObj (w.heap.size + 1) (.loop { rc .ready none with state := .busy })) X →
          (Instr.endRound (w.heap.size + 1) jump).run P X = .ok (.bool jump.isNone) (X.putObj (w.heap.size + 1) (.loop (rc (if jump.isNone then .ready else .done) jump))) ∧
          X.heap[w.heap.size + 1]? = some (.loop { rc .ready none with state := .busy }) ∧
          (X.putObj (w.heap.size + 1) (.loop (rc (if jump.isNone then .ready else .done) jump))).heap[w.heap.size + 1]? = some (.loop (rc (if jump.isNone then .ready else .done) jump)) ∧
          (X.putObj (w.heap.size + 1) (.loop (rc (if jump.isNone then .ready else .done) jump))).heap[w.heap.size]? = some (.deferred (some [])) := fun jump X hX => by
        have hlX := hX.same _ _ (by omega) hl2 rfl
        have hkX := hX.same _ _ (Nat.le_refl _) hk2 rfl
        have hr := run_endRound (P := P) jump hlX
        rw [hrc] at hr hlX ⊢
        exact ⟨hr, hlX, World.putObj_heap_same (Array.getElem?_eq_some_iff.1 hlX).1, (World.putObj_heap_other (by omega)).trans hkX⟩
      have hkp2 : Kp V (V.putObj (w.heap.size + 1) (.loop { rc .ready none with state := .busy })) := hKb _ _ _ (by omega) hltV
      intro e a3 X hp
      cases e with
      | normal =>
        obtain ⟨q1, q2, q3⟩ := hp
        obtain ⟨hr, hlX, hl4, hk4⟩ := fin none X q1
        exact ⟨_, _, hr, .inl ⟨rfl, ⟨hI.putObj _ q3 (by omega) hlX rfl, hl4, hk4⟩, hKt hkp (hKt (hKt hkp2 q2) (hKb _ _ _ (by omega) (Array.getElem?_eq_some_iff.1 hlX).1))⟩⟩
      | ret =>
        obtain ⟨q1, q3⟩ := hp
        obtain ⟨hr, hlX, hl4, hk4⟩ := fin (some .ret) X q1
        exact ⟨_, _, hr, .inr ⟨rfl, .ret, (hIx _).putObj _ q3 (by omega) hlX rfl, hl4, hk4⟩⟩
      | exit id =>
        obtain ⟨q1, q3⟩ := hp
        obtain ⟨hr, hlX, hl4, hk4⟩ := fin (some (.exit id)) X q1
        exact ⟨_, _, hr, .inr ⟨rfl, .exit id, (hIx _).putObj _ q3 (by omega) hlX rfl, hl4, hk4⟩⟩
      | goto t =>
        obtain ⟨q1, q3⟩ := hp
        obtain ⟨hr, hlX, hl4, hk4⟩ := fin (some (.goto t)) X q1
        exact ⟨_, _, hr, .inr ⟨rfl, .goto t, (hIx _).putObj _ q3 (by omega) hlX rfl, hl4, hk4⟩⟩
      | panic ch => exact hp.elim
      | outgrown => exact hp.elim
    case behind =>
      rintro e W2 ⟨⟨v, rfl⟩, (⟨xs, hS, hi, hl, hk⟩ | ⟨pre, hSp, c, hi, hl, hk⟩)⟩
      · have hr := run_endLoop (P := P) hl (by rw [hrc]; simp)
        rw [hrc] at hr
        exact ⟨none, _, hr, hdone _ xs _ (Nat.le_refl _) hS (hI.putObj _ hi (by omega) hl rfl) ((World.putObj_heap_other (by omega)).trans hk)⟩
      · have hr := run_endLoop (P := P) hl (by rw [hrc]; simp)
        rw [hrc] at hr
        exact ⟨some c, _, hr, hstop _ c pre _ (Nat.le_refl _) hSp ((hIx c).putObj _ hi (by omega) hl rfl) ((World.putObj_heap_other (by omega)).trans hk)⟩
end
end Go.Proofs.YtmnombfgahmfkaaGreatDoor
