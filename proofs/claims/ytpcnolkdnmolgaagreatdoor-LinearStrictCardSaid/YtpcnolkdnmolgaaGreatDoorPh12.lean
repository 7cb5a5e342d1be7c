/- strings.Cut at a stroke. -/
import Derived.Test.YtpcnolkdnmolgaaGreatDoorPh00
import Derived.Lib.CutLaws
import Derived.Lib.Bytealg
import Derived.Shelf.Strings.Search1
import Derived.Shelf.RegionOpenPlain
import Derived.RangeFuncNested
import Derived.RangeFuncLeaves
import Derived.RangeFuncBox
import Derived.Shelf.Abstract
import Derived.Shelf.RegionOpen
import Derived.OwnWalkIn
import Derived.TacticsInMore
import Derived.LoopNIn
import Derived.LoopIn
import Derived.Maps.AppendAt
import Derived.Sort.BigQuietIn
import Derived.BigQuiet
import Derived.Deep.MidRow
import Derived.Laws.EntriesVeiled
import Derived.Deep.RegionHeld3
import Derived.Maps.OwnIn
namespace Go.Proofs.YtpcnolkdnmolgaaGreatDoor
section
open Go.RowKit Go.Maps
def strokeI (s : ByteArray) : Int := Lib.indexByte s.data.toList 47
set_option maxRecDepth 100000 in
theorem t_ixByte (s : ByteArray) (w : World) : Calls Tryz.prog 276 #[.string s, .int .u8 47] w fun e w' => e = .returned (.int .i64 (strokeI s)) ∧ w = w' := by
 go_enter Tryz.func276, Tryz.ntmps276
 go_wp2
 rw [run_callFunc_extern Tryz.func280 (by kernel_rfl) (by kernel_rfl) (by kernel_rfl) (e := Extern.BytealgIndexByte.indexByte) (by kernel_rfl), Lib.run_indexByteString]
 simp only [Result.andThen]
 rw [Oper.upon_value]
 go_wp2
 go_ret
 exact ⟨rfl, rfl⟩
abbrev stroke : ByteArray := ⟨#[47]⟩
set_option maxRecDepth 100000 in
set_option maxHeartbeats 2000000 in
theorem t_ix (s : ByteArray) (w : World) : Calls Tryz.prog 269 #[.string s, .string stroke] w fun e w' => e = .returned (.int .i64 (strokeI s)) ∧ w = w' := by
 by_cases h : s.data.toList = [47]
 · have h2 : ([47] == s.toList) = true := by rw [ByteArray.toList_eq, h]; rfl
   have h3 : strokeI s = 0 := by unfold strokeI; rw [h]; rfl
   rw [h3]
   go_enter Tryz.func269, Tryz.ntmps269
   go_wp2_with (go_at_call 276; refine (t_ixByte s _).mono ?_; rintro e w' ⟨rfl, rfl⟩)
   go_ret
   exact ⟨rfl, rfl⟩
 · have h2 : ([47] == s.toList) = false := by
    rw [ByteArray.toList_eq]
    cases hb : ([47] == s.data.toList) with
    | false => rfl
    | true => exact absurd (eq_of_beq hb).symm h
   go_enter Tryz.func269, Tryz.ntmps269
   go_wp2_with (go_at_call 276; refine (t_ixByte s _).mono ?_; rintro e w' ⟨rfl, rfl⟩)
   go_ret
   exact ⟨rfl, rfl⟩
def cutS (s : ByteArray) : ByteArray × ByteArray × Bool := if strokeI s = -1 then (s, ByteArray.empty, false) else (s.extract 0 (strokeI s).toNat, s.extract ((strokeI s).toNat + 1) s.size, true)
theorem stroke_range : ∀ l : List UInt8, Lib.indexByte l 47 = -1 ∨ (0 ≤ Lib.indexByte l 47 ∧ Lib.indexByte l 47 < l.length)
 | [] => .inl rfl
 | b :: l => by
  unfold Lib.indexByte
  rcases stroke_range l with h | h
  · by_cases c : (b == 47) = true
    · rw [if_pos c]; right; simp
    · rw [if_neg c, h]; left; rfl
  · by_cases c : (b == 47) = true
    · rw [if_pos c]; right; simp
    · rw [if_neg c, if_neg (by simp; omega)]; right; simp; omega
set_option maxRecDepth 100000 in
set_option maxHeartbeats 2000000 in
theorem t_cut (s : ByteArray) (hs : s.size ≤ 100000) (w : World) : Calls Tryz.prog 237 #[.string s, .string stroke] w fun e w' => e = .returned (.tuple #[.string (cutS s).1, .string (cutS s).2.1, .bool (cutS s).2.2]) ∧ ∃ n, w' = w.drewN n := by
 rcases stroke_range s.data.toList with h | ⟨h1, h2⟩
 · have hi : strokeI s = -1 := h
   have hc : cutS s = (s, ByteArray.empty, false) := by unfold cutS; rw [if_pos hi]
   rw [hc]
   have T := fun W => t_ix s W
   rw [hi] at T
   go_enter Tryz.func237, Tryz.ntmps237
   go_wp2_with (go_at_call 269; refine (T _).mono ?_; rintro e w' ⟨rfl, rfl⟩)
   go_ret3
   exact ⟨rfl, 0, rfl⟩
 · obtain ⟨i, hi⟩ : ∃ i : Nat, strokeI s = i := ⟨(strokeI s).toNat, by unfold strokeI; omega⟩
   have hlt : i < s.size := by
    have : strokeI s < s.data.toList.length := h2
    have h3 : s.data.toList.length = s.size := by simp
    omega
   have hc : cutS s = (s.extract 0 i, s.extract (i + 1) s.size, true) := by unfold cutS; rw [hi, if_neg (by omega)]; rfl
   rw [hc]
   have T := fun W => t_ix s W
   rw [hi] at T
   have c1 : (0 : Int) ≤ (i : Int) := by omega
   have c2 : (i : Int) ≤ s.size := by omega
   have c4 : (i : Int) + 1 ≤ s.size := by omega
   have mixed : Tryz.prog.follows Departure.mixedOrders = true := by kernel_rfl
   have hwr : IntKind.i64.wrap ((i : Int) + 1) = (i : Int) + 1 := IntWalk.i64_in _ (by omega)
   go_enter Tryz.func237, Tryz.ntmps237
   go_wp2_with (go_at_call 269; refine (T _).mono ?_; rintro e w' ⟨rfl, rfl⟩)
   go_region_o
   go_wp2
   go_ret3
   exact ⟨rfl, 1, rfl⟩
end

section
open Go.RowKit
def SeqB {α : Type} (F : Fence) (n : Nat) (P : Program) (g : Nat) (lb : Array Value) (encs : α → Array Value) (Kp : World → World → Prop) (Bp : Nat) (S Sp : List α → Prop) (N : Nat) (w : World) : Prop :=
 ∀ (l : Nat) (J Jx : List α → World → Prop) (W : World), Below w.heap.size w W → (∀ s A C, J s A → A.grownBy C (some Bp) → J s C) → (∀ s A C, Jx s A → A.grownBy C (some Bp) → Jx s C) →
  (∀ pre x W1, J pre W1 → pre.length < N → YieldAt F (n - 1) P l (encs x) W1 fun e W' =>
   (e = .returned (.bool true) ∧ J (pre ++ [x]) W' ∧ Kp W1 W') ∨ (e = .returned (.bool false) ∧ Jx (pre ++ [x]) W')) →
  J [] W →
  CallsIn F n P g (#[.func (.yield l) #[] #[]] ++ lb) W fun e W' => (∃ v, e = .returned v) ∧ ((∃ xs, S xs ∧ J xs W') ∨ (∃ pre, Sp pre ∧ Jx pre W'))
section
variable {F : Fence} {n : Nat} {P : Program}
theorem wpIn_rangeB {α : Type} {g : Operand} {ps : Array Tmp} {assign body : Code} {Q : Exit → Act → World → Prop} {a : Act} {w : World}
  (hro : F.round = none) (h1 : 1 ≤ n) {gf : Nat} {lb : Array Value} (hg : a.eval g = .func (.func gf) #[] lb) (hFg : F.fn gf) (eg : ∀ args w, (callFunc gf args).run P w = .ok (.enter gf args) w)
  {encs : α → Array Value} {Kp : World → World → Prop} {S Sp : List α → Prop} {N Bp : Nat} (hBp : Bp < w.heap.size) (hseq : SeqB F (n - 1) P gf lb encs Kp Bp S Sp N w)
  (hKt : ∀ {A B C : World}, Kp A B → Kp B C → Kp A C) (hKb : ∀ (W : World) (l : Nat) (o : Obj), w.heap.size ≤ l → l < W.heap.size → Kp W (W.putObj l o)) (hps : ∀ x, (encs x).size = ps.size)
  (I : List α → World → Prop) (Ix : Code → List α → World → Prop) (hI : OwnFrom w.heap.size I) (hIx : ∀ c, OwnFrom w.heap.size (Ix c)) (hIB : ∀ s A C, I s A → A.grownBy C (some Bp) → I s C) (hIxB : ∀ c s A C, Ix c s A → A.grownBy C (some Bp) → Ix c s C)
  (h0 : I [] w) (Ax : α → Act → World → Prop) (hAx : ∀ x a', OwnFrom w.heap.size (fun (_ : Unit) W => Ax x a' W))
  (hassign : ∀ (l : Nat) (pre : List α) (x : α) (W : World) (K : Act → World → Prop), I pre W → (∀ a' W', KeepsFrom w.heap.size W W' → Kp W W' → I pre W' → Ax x a' W' → K a' W') →
   assign.wpIn (F.inRound l) (n - 1 - 1) P (Exit.then K (fun _ _ _ => False)) { tmps := (ps.zip (encs x)).foldl (fun t (p, v) => t.setIfInBounds p v) a.tmps, defers := [] } W)
  (hbody : ∀ (l : Nat) (pre : List α) (x : α) (a' : Act) (W : World), w.heap.size ≤ l → I pre W → Ax x a' W → pre.length < N → body.wpIn (F.inRound l) (n - 1 - 1) P (ownPostG w.heap.size Kp I Ix (pre ++ [x]) W) a' W)
  (hdone : ∀ (D : Nat) (xs : List α) (W : World), w.heap.size ≤ D → S xs → I xs W → W.heap[D]? = some (.deferred (some [])) → Q .normal { a with defers := { target := .collected D, args := #[] } :: a.defers } W)
  (hstop : ∀ (D : Nat) (c : Code) (pre : List α) (W : World), w.heap.size ≤ D → Sp pre → Ix c pre W → W.heap[D]? = some (.deferred (some [])) → c.wpIn F n P Q { a with defers := { target := .collected D, args := #[] } :: a.defers } W) :
  (Code.rangeFunc g ps assign body).wpIn F n P Q a w := by
 refine wpIn_rangeFunc ?_
 intro fn hfn
 rw [hro]
 -- the loop's record, ready, busy or done; the block of deferred calls ahead of it
 obtain ⟨rc, hrc⟩ : ∃ rc : LoopState → Option Code → Loop, rc = fun st pe => { state := st, pending := pe, fn, tmps := a.tmps, params := ps, assign, body, defers := w.heap.size } := ⟨_, rfl⟩
 have hsz0 : (w.alloc (.deferred (some []))).heap.size = w.heap.size + 1 := World.size_alloc _ _
 obtain ⟨W1, hW1⟩ : ∃ W1, (w.alloc (.deferred (some []))).alloc (.loop (rc .ready none)) = W1 := ⟨_, rfl⟩
 have rec1 : W1.heap[w.heap.size + 1]? = some (.loop (rc .ready none)) := by
  have := World.alloc_heap_new (w.alloc (.deferred (some []))) (.loop (rc .ready none))
  rw [hsz0] at this
  rwa [hW1] at this
 have def1 : W1.heap[w.heap.size]? = some (.deferred (some [])) := by
  rw [← hW1]
  exact (Below.heap_alloc _ _ _ (by rw [hsz0]; omega)).trans (World.alloc_heap_new w _)
 have i1 : I [] W1 := by rw [← hW1]; exact hI.alloc _ (hI.alloc _ h0)
 have b1 : Below w.heap.size w W1 := by
  rw [← hW1]
  exact ((Below.refl _ w).alloc (Nat.le_refl _) _).alloc (by rw [hsz0]; omega) _
 refine ⟨w.heap.size + 1, [{ target := .collected w.heap.size, args := #[] }], W1, { target := .fn (.func gf) lb, args := #[.func (.yield (w.heap.size + 1)) #[] #[]] }, W1, gf, #[.func (.yield (w.heap.size + 1)) #[] #[]] ++ lb, W1, ?enter, ?res, ?lead, ?inv, fun _ => h1, ?call⟩
 case enter => rw [← hW1, hrc]; exact run_enterLoop_outer _ _ _ _ _
 case res =>
  simp only [resolve, hg]
  simp [go_sem]
 case lead =>
  intro f' hf'
  simp [Target.leads] at hf'
  subst hf'
  exact hFg
 case inv => simp [invoke, go_sem, eg]
 case call =>
  -- what lies at a block that is not Bp stays through the iterator's own steps
  have stays : ∀ {A C : World} {k : Nat} {o : Obj}, w.heap.size ≤ k → A.grownBy C (some Bp) → A.heap[k]? = some o → C.heap[k]? = some o := fun {A C k o} hk hgr ho =>
   (hgr.block k (Array.getElem?_eq_some_iff.1 ho).1 (fun e => by injection e with e; omega)).trans ho
  refine (hseq (w.heap.size + 1)
   (fun pre W => I pre W ∧ W.heap[w.heap.size + 1]? = some (.loop (rc .ready none)) ∧ W.heap[w.heap.size]? = some (.deferred (some [])))
   (fun pre W => ∃ c, Ix c pre W ∧ W.heap[w.heap.size + 1]? = some (.loop (rc .done (some c))) ∧ W.heap[w.heap.size]? = some (.deferred (some [])))
   W1 b1 (fun s A C h hgr => ⟨hIB s A C h.1 hgr, stays (by omega) hgr h.2.1, stays (Nat.le_refl _) hgr h.2.2⟩)
   (fun s A C h hgr => by obtain ⟨c, hc, hl, hk⟩ := h; exact ⟨c, hIxB c s A C hc hgr, stays (by omega) hgr hl, stays (Nat.le_refl _) hgr hk⟩)
   ?round ⟨i1, rec1, def1⟩).mono ?behind
  case round =>
   rintro pre x W ⟨hi, hl, hk⟩ hlen
   have hy := run_yield (P := P) (args := encs x) hl (by rw [hrc]; exact hps x)
   rw [hrc] at hy
   refine ⟨fn, _, assign, body, hy, roundIn_of_wpIn hfn (hassign _ pre x W _ hi ?_)⟩
   intro a' V hkf hkp hiV hax
   have hlV := hkf.same _ _ (by omega) hl rfl
   have hkV := hkf.same _ _ (Nat.le_refl _) hk rfl
   have hltV : w.heap.size + 1 < V.heap.size := (Array.getElem?_eq_some_iff.1 hlV).1
   refine ⟨_, run_beginRound hlV (by rw [hrc]), ?_⟩
   have hl2 : (V.putObj (w.heap.size + 1) (.loop { rc .ready none with state := .busy })).heap[w.heap.size + 1]? = some (.loop { rc .ready none with state := .busy }) := World.putObj_heap_same hltV
   have hk2 : (V.putObj (w.heap.size + 1) (.loop { rc .ready none with state := .busy })).heap[w.heap.size]? = some (.deferred (some [])) := (World.putObj_heap_other (by omega)).trans hkV
   refine wpIn_mono (hbody _ pre x a' _ (by omega) (hI.putObj _ hiV (by omega) hlV rfl) ((hAx x a').putObj (s := ()) _ hax (by omega) hlV rfl) hlen) ?_
   have fin : ∀ (jump : Option Code) (X : World), KeepsFrom w.heap.size (V.putObj (w.heap.size + 1) (.loop { rc .ready none with state := .busy })) X →
     (Instr.endRound (w.heap.size + 1) jump).run P X = .ok (.bool jump.isNone) (X.putObj (w.heap.size + 1) (.loop (rc (if jump.isNone then .ready else .done) jump))) ∧
     X.heap[w.heap.size + 1]? = some (.loop { rc .ready none with state := .busy }) ∧
     (X.putObj (w.heap.size + 1) (.loop (rc (if jump.isNone then .ready else .done) jump))).heap[w.heap.size + 1]? = some (.loop (rc (if jump.isNone then .ready else .done) jump)) ∧
     (X.putObj (w.heap.size + 1) (.loop (rc (if jump.isNone then .ready else .done) jump))).heap[w.heap.size]? = some (.deferred (some [])) := fun jump X hX => by
    have hlX := hX.same _ _ (by omega) hl2 rfl
    have hkX := hX.same _ _ (Nat.le_refl _) hk2 rfl
    have hr := run_endRound (P := P) jump hlX
    rw [hrc] at hr hlX ⊢
    exact ⟨hr, hlX, World.putObj_heap_same (Array.getElem?_eq_some_iff.1 hlX).1, (World.putObj_heap_other (by omega)).trans hkX⟩
   have hkp2 : Kp V (V.putObj (w.heap.size + 1) (.loop { rc .ready none with state := .busy })) := hKb _ _ _ (by omega) hltV
   intro e a3 X hp
   cases e with
   | normal =>
    obtain ⟨q1, q2, q3⟩ := hp
    obtain ⟨hr, hlX, hl4, hk4⟩ := fin none X q1
    exact ⟨_, _, hr, .inl ⟨rfl, ⟨hI.putObj _ q3 (by omega) hlX rfl, hl4, hk4⟩, hKt hkp (hKt (hKt hkp2 q2) (hKb _ _ _ (by omega) (Array.getElem?_eq_some_iff.1 hlX).1))⟩⟩
   | ret =>
    obtain ⟨q1, q3⟩ := hp
    obtain ⟨hr, hlX, hl4, hk4⟩ := fin (some .ret) X q1
    exact ⟨_, _, hr, .inr ⟨rfl, .ret, (hIx _).putObj _ q3 (by omega) hlX rfl, hl4, hk4⟩⟩
   | exit id =>
    obtain ⟨q1, q3⟩ := hp
    obtain ⟨hr, hlX, hl4, hk4⟩ := fin (some (.exit id)) X q1
    exact ⟨_, _, hr, .inr ⟨rfl, .exit id, (hIx _).putObj _ q3 (by omega) hlX rfl, hl4, hk4⟩⟩
   | goto t =>
    obtain ⟨q1, q3⟩ := hp
    obtain ⟨hr, hlX, hl4, hk4⟩ := fin (some (.goto t)) X q1
    exact ⟨_, _, hr, .inr ⟨rfl, .goto t, (hIx _).putObj _ q3 (by omega) hlX rfl, hl4, hk4⟩⟩
   | panic ch => exact hp.elim
   | outgrown => exact hp.elim
  case behind =>
   rintro e W2 ⟨⟨v, rfl⟩, (⟨xs, hS, hi, hl, hk⟩ | ⟨pre, hSp, c, hi, hl, hk⟩)⟩
   · have hr := run_endLoop (P := P) hl (by rw [hrc]; simp)
     rw [hrc] at hr
     exact ⟨none, _, hr, hdone _ xs _ (Nat.le_refl _) hS (hI.putObj _ hi (by omega) hl rfl) ((World.putObj_heap_other (by omega)).trans hk)⟩
   · have hr := run_endLoop (P := P) hl (by rw [hrc]; simp)
     rw [hrc] at hr
     exact ⟨some c, _, hr, hstop _ c pre _ (Nat.le_refl _) hSp ((hIx c).putObj _ hi (by omega) hl rfl) ((World.putObj_heap_other (by omega)).trans hk)⟩
end
end

section
open Go.RowKit Go.Maps
theorem oheap_set (w : World) (B : Nat) (v v0 : Value) (T : TypeId) (h : w.heap[B]? = some (.cells #[v0] T (0, 0))) : (w.setCell ⟨B, 0, none⟩ v).heap[B]? = some (.cells #[v] T (0, 0)) := by
 simp [World.setCell, Array.getElem?_modify, h]
theorem oadd_flat {b o : Nat} (i : Nat) : (⟨b, o, none⟩ : Addr).add i = ⟨b, o + i, none⟩ := by unfold Addr.add; split <;> simp_all
theorem keeps_of_below {B : Nat} {A C : World} (h : Below A.heap.size A C) : KeepsFrom B A C := ⟨h.size, fun k _o _ hk _ => (h.block k (Array.getElem?_eq_some_iff.1 hk).1).trans hk⟩
theorem heap_up {w : World} {j : Nat} {o : Obj} (p : Obj) (h : w.heap[j]? = some o) : (w.alloc p).heap[j]? = some o := (Below.heap_alloc _ _ _ (Array.getElem?_eq_some_iff.1 h).1).trans h
end

section
open Go.RowKit Go.Maps
attribute [local go_sem] Oper.semAt_some
theorem t_each (s : ByteArray) (w : World) :
  CallsIn Fence.wide 9 Tryz.prog 104 #[.string s] w fun e w' => e = .returned (.func (.func 173) #[] #[.pointer (some ⟨w.heap.size, 0, none⟩)]) ∧ w' = w.alloc (.cells #[.string s] 9) := by
 refine callsIn_of_wp Tryz.func104 rfl trivial ?_ rfl
 simp only [Tryz.ntmps104, List.size_toArray, List.length_cons, List.length_nil, Nat.reduceAdd, Nat.reduceSub, Array.replicate_succ, Array.replicate_zero, List.push_toArray, List.append_toArray, List.nil_append, List.cons_append]
 gi_wp2
 go_ret
 exact ⟨rfl, rfl⟩
abbrev nameOf (s : ByteArray) : ByteArray := (cutS (s.extract 1 s.size)).1
abbrev restOf (s : ByteArray) : ByteArray := ⟨#[47]⟩ ++ (cutS (s.extract 1 s.size)).2.1
abbrev moreOf (s : ByteArray) : Bool := (cutS (s.extract 1 s.size)).2.2
inductive EachS : ByteArray → Bool → List ByteArray → Prop
 | done (s : ByteArray) : EachS s false []
 | more {s : ByteArray} {l : List ByteArray} : EachS (restOf s) (moreOf s) l → EachS s true (nameOf s :: l)
abbrev NameV : Type := { x : ByteArray // x.size ≤ 1000 }
theorem cutS_le1 (t : ByteArray) : (cutS t).1.size ≤ t.size := by
 unfold cutS
 by_cases c : strokeI t = -1
 · rw [if_pos c]; simp
 · rw [if_neg c]; simp only [ByteArray.size_extract]; omega
def KpE (Bp : Nat) (A C : World) : Prop := C.heap[Bp]? = A.heap[Bp]?
def boxE (w : World) (B : Nat) : Nat := match w.cell? ⟨B, 0, none⟩ with | some (.string s) => s.size | _ => 0
set_option maxRecDepth 100000 in
theorem t_strCut (s : ByteArray) (hs : s.size ≤ 100000) (w : World) : Calls Tryz.prog 174 #[.string s, .string stroke] w fun e w' => e = .returned (.tuple #[.string (cutS s).1, .string (cutS s).2.1, .bool (cutS s).2.2]) ∧ ∃ n, w' = w.drewN n := by
 go_enter Tryz.func174, Tryz.ntmps174
 go_wp2_with (go_at_call 237; refine (t_cut s hs _).mono ?_; rintro e w' ⟨rfl, n, rfl⟩)
 first
  | (go_ret3; exact ⟨rfl, _, rfl⟩)
  | (go_ret; exact ⟨rfl, _, rfl⟩)
theorem cutS_more (t : ByteArray) (h : (cutS t).2.2 = true) : (cutS t).2.1.size < t.size := by
 unfold cutS at h ⊢
 by_cases c : strokeI t = -1
 · rw [if_pos c] at h; cases h
 · rw [if_neg c]
   rcases stroke_range t.data.toList with g | ⟨g1, g2⟩
   · exact absurd g c
   · have h3 : t.data.toList.length = t.size := by simp
     have h4 : 0 ≤ strokeI t := g1
     have h5 : strokeI t < t.size := by unfold strokeI; omega
     simp only [ByteArray.size_extract]
     omega
theorem cutS_le (t : ByteArray) : (cutS t).2.1.size ≤ t.size := by
 unfold cutS
 by_cases c : strokeI t = -1
 · rw [if_pos c]; simp
 · rw [if_neg c]; simp only [ByteArray.size_extract]; omega
theorem rest_more (s : ByteArray) (_hs : 1 ≤ s.size) (h : moreOf s = true) : (restOf s).size + 1 ≤ s.size := by
 have := cutS_more _ h
 simp only [ByteArray.size_extract] at this
 show (ByteArray.append _ _).size + 1 ≤ s.size
 have e : ((⟨#[47]⟩ : ByteArray) ++ (cutS (s.extract 1 s.size)).2.1).size = 1 + (cutS (s.extract 1 s.size)).2.1.size := by rw [ByteArray.size_append]; rfl
 have e2 : (ByteArray.append ⟨#[47]⟩ (cutS (s.extract 1 s.size)).2.1).size = 1 + (cutS (s.extract 1 s.size)).2.1.size := e
 omega
theorem rest_le (s : ByteArray) (hs : 1 ≤ s.size) : 1 ≤ (restOf s).size ∧ (restOf s).size ≤ s.size := by
 have := cutS_le (s.extract 1 s.size)
 simp only [ByteArray.size_extract] at this
 have e : (restOf s).size = 1 + (cutS (s.extract 1 s.size)).2.1.size := by unfold restOf; rw [ByteArray.size_append]; rfl
 omega
theorem each_total : ∀ (n : Nat) (s : ByteArray) (b : Bool), 1 ≤ s.size → s.size ≤ n → ∃ l, EachS s b l
 | _, s, false, _, _ => ⟨[], .done s⟩
 | 0, _, true, h1, h2 => by omega
 | n + 1, s, true, h1, h2 => by
  cases hm : moreOf s with
  | false => exact ⟨[nameOf s], .more (by rw [hm]; exact .done _)⟩
  | true =>
   obtain ⟨l, hl⟩ := each_total n (restOf s) true (rest_le s h1).1 (by have := rest_more s h1 hm; omega)
   exact ⟨nameOf s :: l, .more (by rw [hm]; exact hl)⟩
def muE (v : Value) (n : Nat) : Nat := match v with | .bool true => 1 + n | _ => 0
set_option maxRecDepth 100000 in
set_option maxHeartbeats 1000000 in
theorem iterE (y Bp : Nat) (s0 : ByteArray) (J Jx : List NameV → World → Prop) (hs0 : s0.size ≤ 1000) (hs1 : 1 ≤ s0.size)
  (hJ : ∀ s A C, J s A → A.grownBy C (some Bp) → J s C)
  (hY : ∀ pre x W, J pre W → pre.length < 1001 → YieldAt Fence.wide 8 Tryz.prog y #[.string x.1] W fun e W' =>
   (e = .returned (.bool true) ∧ J (pre ++ [x]) W' ∧ KpE Bp W W') ∨ (e = .returned (.bool false) ∧ Jx (pre ++ [x]) W'))
  (W : World) (hbp : W.heap[Bp]? = some (.cells #[.string s0] 9 (0, 0))) (h0 : J [] W) :
  CallsIn Fence.wide 9 Tryz.prog 173 #[.func (.yield y) #[] #[], .pointer (some ⟨Bp, 0, none⟩)] W fun e W' => (∃ v, e = .returned v) ∧
   ((∃ ys : List NameV, EachS s0 (!(s0.toList == [47])) (ys.map (·.1)) ∧ J ys W') ∨ (∃ pre, Jx pre W' ∧ ∃ l, EachS s0 (!(s0.toList == [47])) (pre.map (·.1) ++ l))) := by
 have cp : W.cell? ⟨Bp, 0, none⟩ = some (.string s0) := by simp [World.cell?, hbp]
 refine callsIn_of_wp Tryz.func173 rfl trivial ?_ rfl
 simp only [Tryz.ntmps173, List.size_toArray, List.length_cons, List.length_nil, Nat.reduceAdd, Nat.reduceSub, Array.replicate_succ, Array.replicate_zero, List.push_toArray, List.append_toArray, List.nil_append, List.cons_append]
 gi_wp2
 gi_loopw [3] (fun v3 wr => ∃ (s : ByteArray) (b : Bool) (ys : List NameV), v3 = .bool b ∧ 1 ≤ s.size ∧ s.size ≤ 1000 ∧ (b = true → ys.length + s.size ≤ s0.size) ∧ J ys wr ∧ wr.heap[Bp]? = some (.cells #[.string s] 9 (0, 0)) ∧ (∀ l, EachS s b l → EachS s0 (!(s0.toList == [47])) (ys.map (·.1) ++ l))) (fun v3 wr => muE v3 (boxE wr Bp))
 case atStart => exact ⟨s0, _, [], rfl, hs1, hs0, fun _ => by simp, h0, hbp, fun l h => h⟩
 case round =>
  obtain ⟨s, b, ys, rfl, z1, z2, z3, hJk, hbp, hE⟩ := hrel
  have cp : wr.cell? ⟨Bp, 0, none⟩ = some (.string s) := by simp [World.cell?, hbp]
  have fp : wr.frozen? ⟨Bp, 0, none⟩ = false := by simp [World.frozen?, hbp]
  cases b with
  | false =>
   gi_wp2
   go_end0
   exact ⟨⟨_, rfl⟩, .inl ⟨ys, by have := hE [] (.done s); rwa [List.append_nil] at this, hJk⟩⟩
  | true =>
   have hz1 : (0 : Int) ≤ 1 := by omega
   have hz2 : (1 : Int) ≤ s.size := by omega
   have HE := zz hE
   have hsz := rest_le s z1
   have hmo := rest_more s z1
   have T := t_strCut (s.extract 1 s.size) (by simp only [ByteArray.size_extract]; omega) wr
   have hle := cutS_le (s.extract 1 s.size)
   have hL : ¬ 9223372036854775807 < 1 + (cutS (s.extract 1 s.size)).2.1.size := by simp only [ByteArray.size_extract] at hle; omega
   have hEm : ∀ l, EachS (restOf s) (moreOf s) l → EachS s0 (!(s0.toList == [47])) (ys.map (·.1) ++ [nameOf s] ++ l) := fun l h => by
    have := hE _ (.more h)
    rwa [List.append_assoc]
   obtain ⟨lt, hlt⟩ := each_total _ (restOf s) (moreOf s) (rest_le s z1).1 (Nat.le_refl _)
   have hEt := hEm lt hlt
   clear hlt
   unfold nameOf at hEt
   unfold restOf moreOf nameOf at hEm
   unfold restOf at hsz hmo
   unfold moreOf at hmo
   have hn := cutS_le1 (s.extract 1 s.size)
   simp only [ByteArray.size_extract] at hn
   obtain ⟨C, hC⟩ : ∃ C, cutS (s.extract 1 s.size) = C := ⟨_, rfl⟩
   rw [hC] at T hL hEm hEt hsz hmo hn
   have hn2 : C.1.size ≤ 1000 := by omega
   clear hn
   have HEM := zz hEm
   have HET := zz hEt
   clear hEt
   have HMO := zz hmo
   have HSZ := zz hsz
   clear hle hEm hmo hsz hE HE
   gi_wp2
   refine ⟨trivial, ?_⟩
   gi_at_call 174
   refine (callsIn_wide.2 T).mono ?_
   rintro e w' ⟨rfl, n, rfl⟩
   clear T
   have hz3 : ys.length + s.size ≤ s0.size := by first | exact z3 rfl | exact z3 trivial
   have hbpD : (wr.drewN n).heap[Bp]? = some (.cells #[.string s] 9 (0, 0)) := hbp
   have cpD : (wr.drewN n).cell? ⟨Bp, 0, none⟩ = some (.string s) := cp
   have fpD : (wr.drewN n).frozen? ⟨Bp, 0, none⟩ = false := fp
   have hJD : J ys (wr.drewN n) := hJ _ _ _ hJk ⟨rfl, rfl, rfl, Nat.le_refl _, fun _ _ _ => rfl⟩
   obtain ⟨WD, hWD⟩ : ∃ WD, wr.drewN n = WD := ⟨_, rfl⟩
   rw [hWD] at hbpD cpD fpD hJD ⊢
   have hJ1 := hJ _ _ _ hJD (grownBy_setCell' WD Bp (.string C.2.1))
   have hb1 := oheap_set WD Bp (.string C.2.1) _ _ hbpD
   have hJ2 := hJ _ _ _ hJ1 (grownBy_setCell' (WD.setCell ⟨Bp, 0, none⟩ (.string C.2.1)) Bp (.string (⟨#[47]⟩ ++ C.2.1)))
   have hb2 := oheap_set (WD.setCell ⟨Bp, 0, none⟩ (.string C.2.1)) Bp (.string (⟨#[47]⟩ ++ C.2.1)) _ _ hb1
   obtain ⟨fn, tmps, assign, body, hy, hR⟩ := hY ys ⟨C.1, hn2⟩ _ hJ2 (by omega)
   gi_wp2
   refine hR.mono ?_
   rintro e W3 (⟨rfl, hJ3, hk⟩ | ⟨rfl, hJx3⟩)
   · have hbp3 := hk.trans hb2
     clear hk hR hy
     gi_wp2
     refine ⟨⟨_, _, _, rfl, HSZ.out.1, by have := HSZ.out.2; omega, fun h => ?_, hJ3, hbp3, fun l h => by rw [List.map_append]; exact HEM.out l h⟩, ?_⟩
     · have := HMO.out h
       rw [List.length_append]
       show ys.length + 1 + _ ≤ _
       omega
     · unfold boxE
       rw [cp, show W3.cell? ⟨Bp, 0, none⟩ = some (.string (⟨#[47]⟩ ++ C.2.1)) by simp [World.cell?, hbp3]]
       show muE (.bool C.2.2) ((⟨#[47]⟩ ++ C.2.1 : ByteArray).size) < 1 + s.size
       cases hcc : C.2.2 with
       | false => show 0 < _; omega
       | true =>
        have := HMO.out hcc
        show 1 + (⟨#[47]⟩ ++ C.2.1 : ByteArray).size < 1 + s.size
        omega
   · gi_wp2
     refine bodyPost_ret (results_none rfl _ _ _) rfl ?_
     exact ⟨⟨_, rfl⟩, .inr ⟨_, hJx3, lt, by rw [List.map_append]; exact HET.out⟩⟩
end

section
open Go.RowKit Go.Maps
attribute [local go_sem] Oper.semAt_some
theorem head47 (s : ByteArray) : decide (s.data.toList.head? = some 47) = (decide (1 ≤ s.size) && ((s.extract 0 1).toList == [47])) := by
 have h3 : s.data.toList.length = s.size := by simp
 rw [ByteArray.toList_eq]
 have e : (s.extract 0 1).data.toList = s.data.toList.take 1 := by simp
 rw [e]
 cases h : s.data.toList with
 | nil => rw [h] at h3; simp at h3; simp [← h3]
 | cons a l =>
  rw [h] at h3
  have : 1 ≤ s.size := by simp at h3; omega
  simp [this]
  by_cases c : a = 47
  · simp [c]
  · simp [c]
set_option maxRecDepth 100000 in
theorem t_slHas (s : ByteArray) (w : World) : Calls Tryz.prog 172 #[.string s, .string stroke] w fun e w' => e = .returned (.bool (decide (s.data.toList.head? = some 47))) ∧ w = w' := by
 rw [head47]
 by_cases h : 1 ≤ s.size
 · have h1 : (1 : Int) ≤ s.size := by omega
   have h0 : (0 : Int) ≤ 1 := by omega
   go_enter Tryz.func172, Tryz.ntmps172
   go_wp2
   go_ret
   exact ⟨by simp [h]; try rfl, rfl⟩
 · have h1 : ¬ (1 : Int) ≤ s.size := by omega
   go_enter Tryz.func172, Tryz.ntmps172
   go_wp2
   go_ret
   exact ⟨by simp, rfl⟩
set_option maxRecDepth 100000 in
theorem t_strHas (s : ByteArray) (w : World) : Calls Tryz.prog 103 #[.string s, .string stroke] w fun e w' => e = .returned (.bool (decide (s.data.toList.head? = some 47))) ∧ w = w' := by
 go_enter Tryz.func103, Tryz.ntmps103
 go_wp2_with (go_at_call 172; refine (t_slHas s _).mono ?_; rintro e w' ⟨rfl, rfl⟩)
 go_ret
 exact ⟨rfl, rfl⟩
theorem seqE (Bp : Nat) (s0 : ByteArray) (w : World) (hs0 : s0.size ≤ 1000) (hs1 : 1 ≤ s0.size) (hbp : w.heap[Bp]? = some (.cells #[.string s0] 9 (0, 0))) :
  SeqB Fence.wide 9 Tryz.prog 173 #[.pointer (some ⟨Bp, 0, none⟩)] (fun x : NameV => #[.string x.1]) (KpE Bp) Bp (fun ys => EachS s0 (!(s0.toList == [47])) (ys.map (·.1))) (fun pre => ∃ l, EachS s0 (!(s0.toList == [47])) (pre.map (·.1) ++ l)) 1001 w := by
 intro y J Jx W hW hJ _ hY h0
 have h2 := (hW.block Bp (Array.getElem?_eq_some_iff.1 hbp).1).trans hbp
 refine (iterE y Bp s0 J Jx hs0 hs1 hJ hY W h2 h0).mono ?_
 rintro e W' ⟨g1, g2 | ⟨pre, g3, g4⟩⟩
 · exact ⟨g1, .inl g2⟩
 · exact ⟨g1, .inr ⟨pre, g4, g3⟩⟩
structure SplitS (w : World) (e : Int) (pre : List NameV) (W : World) (v : Value) : Prop where
 b0 : W.heap[w.heap.size]? = some (.cells #[v] 152 (0, 0))
 b1 : W.heap[w.heap.size + 1]? = some (.cells #[.int .i64 e] 26 (0, 0))
 own : W.ownsRow (w.heap.size + 3) 9 1 v pre.length (pre.map fun x => .string x.1)
 mem : Below w.heap.size w W
 sz : w.heap.size + 3 ≤ W.heap.size
theorem ownBlock_cells {w : World} {base : Nat} {e : TypeId} {size n : Nat} {v : Value} {xs : List Value} (h : w.ownsRow base e size v n xs) : ∀ g, v.ownBlock = some g → base ≤ g ∧ ∃ cur T r, w.heap[g]? = some (.cells cur T r) := by
 intro g hg
 rcases h.2 with ⟨rfl, _⟩ | ⟨g', cap, cur, rfl, hb, hgg, _⟩
 · cases hg
 · cases hg; exact ⟨hb, _, _, _, hgg⟩
theorem SplitS.keep {w A C : World} {e : Int} {pre : List NameV} {v : Value} {row : Option Nat} (h : SplitS w e pre A v) (hg : A.grownBy C row) (hr : ∀ r, row = some r → w.heap.size + 2 ≤ r ∧ v.ownBlock ≠ some r) : SplitS w e pre C v := by
 have lt : ∀ {j : Nat} {o : Obj}, A.heap[j]? = some o → j < w.heap.size + 2 → C.heap[j]? = some o := fun {j o} ho hj =>
  (hg.block j (Array.getElem?_eq_some_iff.1 ho).1 (fun e => by have := (hr j e.symm).1; omega)).trans ho
 refine ⟨lt h.b0 (by omega), lt h.b1 (by omega), h.own.kept hg ?_, h.mem.trans ⟨hg.os, hg.tape, hg.output, hg.size, fun b hb => hg.block b (Nat.lt_of_lt_of_le hb h.mem.size) fun e => ?_⟩, Nat.le_trans h.sz hg.size⟩
 · cases row with
   | none => cases hv : v.ownBlock with
    | none => exact .inl rfl
    | some g => exact .inr (by simp)
   | some r => exact .inr (hr r rfl).2
 · have := (hr b e.symm).1
   omega
theorem SplitS.below3 {w A C : World} {e : Int} {pre : List NameV} {v : Value} (h : SplitS w e pre A v) (hb : Below A.heap.size A C) : SplitS w e pre C v :=
 h.keep (row := none) ⟨hb.os, hb.tape, hb.output, hb.size, fun k hk _ => hb.block k hk⟩ (fun r e => by cases e)
theorem infoStr : ∃ i, Tryz.prog.info? 9 = some i ∧ i.zero = some (.string ByteArray.empty) ∧ i.size = 1 ∧ i.bytes = 16 := info_parts (by kernel_rfl)
theorem slice_of_own {w : World} {base : Nat} {e : TypeId} {size n : Nat} {v : Value} {xs : List Value} (h : w.ownsRow base e size v n xs) : ∃ A k c, v = .slice A k c := by
 rcases h.2 with ⟨rfl, _⟩ | ⟨g', cap, cur, rfl, _⟩
 · exact ⟨_, _, _, rfl⟩
 · exact ⟨_, _, _, rfl⟩
theorem slice_of_ownN {w : World} {base : Nat} {e : TypeId} {size n : Nat} {v : Value} {xs : List Value} (h : w.ownsRow base e size v n xs) : ∃ A c, v = .slice A n c := by
 rcases h.2 with ⟨rfl, rfl⟩ | ⟨g', cap, cur, rfl, _⟩
 · exact ⟨_, _, rfl⟩
 · exact ⟨_, _, rfl⟩
theorem SplitS.set {w A : World} {e : Int} {pre : List NameV} {v : Value} (h : SplitS w e pre A v) (e' : Int) (pre' : List NameV) (v' : Value) (ho : A.ownsRow (w.heap.size + 3) 9 1 v' pre'.length (pre'.map fun x => .string x.1)) :
  SplitS w e' pre' ((A.setCell ⟨w.heap.size, 0, none⟩ v').setCell ⟨w.heap.size + 1, 0, none⟩ (.int .i64 e')) v' := by
 have e1 : ∀ j, j ≠ w.heap.size → (A.setCell ⟨w.heap.size, 0, none⟩ v').heap[j]? = A.heap[j]? := fun j hj => Below.heap_setCell _ _ _ j hj
 have e2 : ∀ j, j ≠ w.heap.size + 1 → ((A.setCell ⟨w.heap.size, 0, none⟩ v').setCell ⟨w.heap.size + 1, 0, none⟩ (.int .i64 e')).heap[j]? = (A.setCell ⟨w.heap.size, 0, none⟩ v').heap[j]? := fun j hj => Below.heap_setCell _ _ _ j hj
 refine ⟨?_, ?_, ?_, ?_, by simpa [World.setCell] using h.sz⟩
 · rw [e2 _ (by omega)]; exact oheap_set _ _ _ _ _ h.b0
 · exact oheap_set _ _ _ _ _ ((e1 _ (by omega)).trans h.b1)
 · exact (ho.kept (grownBy_setCell' A w.heap.size v') (.inr fun e => by have := (ownBlock_cells ho _ e).1; omega)).kept (grownBy_setCell' _ (w.heap.size + 1) _) (.inr fun e => by have := (ownBlock_cells ho _ e).1; omega)
 · exact (h.mem.setCell (p := ⟨w.heap.size, 0, none⟩) (Nat.le_refl _) _).setCell (p := ⟨w.heap.size + 1, 0, none⟩) (by show w.heap.size ≤ w.heap.size + 1; omega) _
theorem SplitS.keepB {w A C : World} {e : Int} {pre : List NameV} {v : Value} (h : SplitS w e pre A v) (hg : A.grownBy C (some (w.heap.size + 2))) : SplitS w e pre C v :=
 h.keep hg fun r er => by
  cases er
  refine ⟨Nat.le_refl _, fun hv => ?_⟩
  have := (ownBlock_cells h.own _ hv).1
  omega
theorem SplitS.keepO {w A C : World} {e : Int} {pre : List NameV} {v : Value} {row : Option Nat} (h : SplitS w e pre A v) (hg : A.grownBy C row) (hr : ∀ r, row = some r → w.heap.size + 3 ≤ r ∧ ∃ o : Obj, A.heap[r]? = some o ∧ o.isCells = false) : SplitS w e pre C v :=
 h.keep hg fun r er => by
  obtain ⟨h1, o, h2, h3⟩ := hr r er
  refine ⟨by omega, fun hv => ?_⟩
  obtain ⟨_, cur, T, q, hc⟩ := ownBlock_cells h.own _ hv
  rw [h2] at hc
  cases hc
  cases h3
def SplitR (s : ByteArray) (w : World) (e : Ending) (W' : World) : Prop :=
 ∃ (v : Value) (r : Int), e = .returned (.tuple #[v, .int .i64 r]) ∧ Below w.heap.size w W' ∧
  ((r = 2 ∧ v = .slice none 0 0 ∧ ∃ l, EachS s (!(s.toList == [47])) l ∧ ∃ x ∈ l, pnameB x = false) ∨
   (∃ ys : List NameV, EachS s (!(s.toList == [47])) (ys.map (·.1)) ∧ (∀ x ∈ ys, pnameB x.1 = true) ∧
    ((8 < ys.length ∧ r = 5 ∧ v = .slice none 0 0) ∨
     (ys.length ≤ 8 ∧ r = 0 ∧ W'.ownsRow (w.heap.size + 3) 9 1 v ys.length (ys.map fun x => .string x.1)))))
set_option maxRecDepth 100000 in
set_option maxHeartbeats 2000000 in
theorem t_split (s : ByteArray) (w : World) (hs : s.size ≤ 255) (hh : s.data.toList.head? = some 47) :
  CallsIn Fence.wide 10 Tryz.prog 70 #[.string s] w (SplitR s w) := by
 have hs1 : 1 ≤ s.size := by
  have : s.data.toList.length = s.size := by simp
  cases hd : s.data.toList with
  | nil => rw [hd] at hh; cases hh
  | cons a l => rw [hd] at this; simp at this; omega
 refine callsIn_of_wp_marks Tryz.func70 rfl trivial ?_ rfl
 simp only [Tryz.ntmps70, List.size_toArray, List.length_cons, List.length_nil, Nat.reduceAdd, Nat.reduceSub, Array.replicate_succ, Array.replicate_zero, List.push_toArray, List.append_toArray, List.nil_append, List.cons_append]
 have hc1 : ¬ 255 < s.size := by omega
 gi_wp2
 have T := t_strHas s ((w.alloc (.cells #[.slice none 0 0] 152)).alloc (.cells #[.int .i64 0] 26))
 rw [show decide (s.data.toList.head? = some 47) = true from decide_eq_true hh] at T
 refine ⟨trivial, ?_⟩
 gi_at_call 103
 refine (callsIn_wide.2 T).mono ?_
 rintro e w' ⟨rfl, rfl⟩
 clear T
 gi_wp2
 refine ⟨trivial, ?_⟩
 gi_at_call 104
 refine (callsIn_wide.2 (callsIn_wide.1 (t_each s _))).mono ?_
 rintro e w' ⟨rfl, rfl⟩
 gi_wp2
 obtain ⟨W0, hW0, q0, q1, hbp, hsz, hB0⟩ : ∃ W0, ((w.alloc (.cells #[.slice none 0 0] 152)).alloc (.cells #[.int .i64 0] 26)).alloc (.cells #[.string s] 9) = W0 ∧ W0.heap[w.heap.size]? = some (.cells #[.slice none 0 0] 152 (0, 0)) ∧ W0.heap[w.heap.size + 1]? = some (.cells #[.int .i64 0] 26 (0, 0)) ∧ W0.heap[w.heap.size + 1 + 1]? = some (.cells #[.string s] 9 (0, 0)) ∧ W0.heap.size = w.heap.size + 3 ∧ Below w.heap.size w W0 := by
  have a1 := World.alloc_heap_new w (.cells #[.slice none 0 0] 152)
  have a2 := World.alloc_heap_new (w.alloc (.cells #[.slice none 0 0] 152)) (.cells #[.int .i64 0] 26)
  have a3 := World.alloc_heap_new ((w.alloc (.cells #[.slice none 0 0] 152)).alloc (.cells #[.int .i64 0] 26)) (.cells #[.string s] 9)
  simp only [World.size_alloc] at a1 a2 a3
  exact ⟨_, rfl, heap_up _ (heap_up _ a1), heap_up _ a2, a3, by simp only [World.size_alloc], (((Below.refl _ w).alloc (Nat.le_refl _) _).alloc (by simp only [World.size_alloc]; omega) _).alloc (by simp only [World.size_alloc]; omega) _⟩
 rw [hW0]
 clear hW0
 have S0 : SplitS w 0 [] W0 (.slice none 0 0) := ⟨q0, q1, World.ownsRow_nil _ _ _ _, hB0, by omega⟩
 clear q0 q1
 refine wpIn_rangeB (α := NameV) rfl (by omega) (gf := 173) (lb := #[.pointer (some ⟨w.heap.size + 1 + 1, 0, none⟩)]) rfl trivial (enters_of Tryz.func173 (by kernel_rfl) rfl)
  (Bp := w.heap.size + 1 + 1) (by omega) (seqE _ s W0 (by omega) hs1 hbp)
  (fun h1 h2 => h2.trans h1) (fun W j o hj _ => World.putObj_heap_other (by omega)) (fun _ => rfl)
  (fun pre W => (∃ v, SplitS w 0 pre W v) ∧ ∀ x ∈ pre, pnameB x.1 = true) (fun c pre W => c = .ret ∧ SplitS w 2 [] W (.slice none 0 0) ∧ ∃ (pre' : List NameV) (x : NameV), pre = pre' ++ [x] ∧ pnameB x.1 = false)
  (fun s X Y row hs hg hr => ⟨hs.1.imp fun v h => h.keepO hg (fun r e => by have := hr r e; exact ⟨by omega, this.2⟩), hs.2⟩) (fun c s X Y row hs hg hr => ⟨hs.1, hs.2.1.keepO hg (fun r e => by have := hr r e; exact ⟨by omega, this.2⟩), hs.2.2⟩)
  (fun s X Y hs hg => ⟨hs.1.imp fun v h => h.keepB hg, hs.2⟩) (fun c s X Y hs hg => ⟨hs.1, hs.2.1.keepB hg, hs.2.2⟩) ⟨⟨_, S0⟩, by simp⟩
  (fun x a' W => a' = { tmps := #[.string s, undef, .pointer (some ⟨w.heap.size, 0, none⟩), .pointer (some ⟨w.heap.size + 1, 0, none⟩), .string x.1, undef, .bool (decide (255 < (s.size : Int))), .string s, .int .i64 s.size, .bool (decide (255 < (s.size : Int))), .bool false, .string s, .bool true, .bool false, .string s, .func (.func 173) #[] #[.pointer (some ⟨w.heap.size + 1 + 1, 0, none⟩)], .string x.1, undef, undef, undef, undef, undef, undef, undef, undef, undef, undef, undef, undef, undef], defers := [] })
  (fun x a' _ X Y row hs _ _ => hs)
  ?assign ?body ?done ?stop
 case assign =>
  rintro y pre x W K hS hK
  gi_wp2
  exact hK _ _ (KeepsFrom.refl _ _) rfl hS rfl
 case body =>
  rintro y pre x a' W hy ⟨⟨v, hS⟩, hok⟩ rfl hlen
  try dsimp only
  have hx := x.2
  obtain ⟨nm, hnm⟩ : ∃ nm, x.1 = nm := ⟨_, rfl⟩
  rw [hnm] at hx ⊢
  have hml : nm.size ≤ maxLen := by unfold maxLen; omega
  have HX := zz hnm
  have HOK := zz hok
  have HS := zz hS
  clear hok hS hnm
  cases hpn : pnameB nm with
  | false =>
   have hne : nameE nm = 2 := by unfold nameE; rw [hpn]; rfl
   gi_wp2_with (refine ⟨trivial, ?_⟩; gi_at_call 105; refine (show CallsIn (Fence.wide.inRound y) _ _ _ _ _ _ from (callsIn_wide.2 (t_pname nm 2 hne W hml) : CallsIn Fence.wide _ _ _ _ _ _)).mono ?_; rintro e W3 ⟨rfl, hb3⟩
                have S3 := HS.out.below3 hb3
                have k1 : W3.cell? ⟨w.heap.size, 0, none⟩ = some v := by simp [World.cell?, S3.b0]
                have k2 : W3.cell? ⟨w.heap.size + 1, 0, none⟩ = some (.int .i64 0) := by simp [World.cell?, S3.b1]
                have k3 : W3.frozen? ⟨w.heap.size, 0, none⟩ = false := by simp [World.frozen?, S3.b0]
                have k4 : W3.frozen? ⟨w.heap.size + 1, 0, none⟩ = false := by simp [World.frozen?, S3.b1]
                have HS3 := zz S3
                have HB3 := zz hb3
                clear S3 hb3)
   have hS3 := HS3.out
   have e1 : ∀ j, j ≠ w.heap.size → (W3.setCell ⟨w.heap.size, 0, none⟩ (.slice none 0 0)).heap[j]? = W3.heap[j]? := fun j hj => Below.heap_setCell _ _ _ j hj
   have e2 : ∀ j, j ≠ w.heap.size + 1 → ((W3.setCell ⟨w.heap.size, 0, none⟩ (.slice none 0 0)).setCell ⟨w.heap.size + 1, 0, none⟩ (.int .i64 2)).heap[j]? = (W3.setCell ⟨w.heap.size, 0, none⟩ (.slice none 0 0)).heap[j]? := fun j hj => Below.heap_setCell _ _ _ j hj
   refine ⟨((keeps_of_below HB3.out).trans ((KeepsOthers.setCell _ _ _).from _)).trans ((KeepsOthers.setCell _ _ _).from _), rfl, ⟨?_, ?_, World.ownsRow_nil _ _ _ _, ?_, by simpa [World.setCell] using hS3.sz⟩, pre, x, rfl, by rw [HX.out]; exact hpn⟩
   · rw [e2 _ (by omega)]; exact oheap_set _ _ _ _ _ hS3.b0
   · exact oheap_set _ _ _ _ _ ((e1 _ (by omega)).trans hS3.b1)
   · exact (hS3.mem.setCell (p := ⟨w.heap.size, 0, none⟩) (Nat.le_refl _) _).setCell (p := ⟨w.heap.size + 1, 0, none⟩) (by show w.heap.size ≤ w.heap.size + 1; omega) _
  | true =>
   have hne : nameE nm = 0 := by unfold nameE; rw [hpn]; rfl
   obtain ⟨i0, hi, hz0, hz1, hz2⟩ := infoStr
   gi_wp2_with (first
    | (refine ⟨trivial, ?_⟩; gi_at_call 105; refine (show CallsIn (Fence.wide.inRound y) _ _ _ _ _ _ from (callsIn_wide.2 (t_pname nm 0 hne W hml) : CallsIn Fence.wide _ _ _ _ _ _)).mono ?_; rintro e W3 ⟨rfl, hb3⟩
       have S3 := HS.out.below3 hb3
       have k1 : W3.cell? ⟨w.heap.size, 0, none⟩ = some v := by simp [World.cell?, S3.b0]
       have k2 : W3.cell? ⟨w.heap.size + 1, 0, none⟩ = some (.int .i64 0) := by simp [World.cell?, S3.b1]
       have k3 : W3.frozen? ⟨w.heap.size, 0, none⟩ = false := by simp [World.frozen?, S3.b0]
       have k4 : W3.frozen? ⟨w.heap.size + 1, 0, none⟩ = false := by simp [World.frozen?, S3.b1]
       have HS3 := zz S3
       have HB3 := zz hb3
       clear S3 hb3)
    | (gi_at_builtin; refine wpListIn_append_own_at _ rfl _ _ 152 rfl (w.heap.size + 3) 9 i0 (.string ByteArray.empty) 1 16 Tryz.underlying152 hi hz0 hz1 hz2 rfl (by decide) _ _ _ rfl (HS3.out.own.alloc _) ⟨W3.heap.size, 0, none⟩ 1 1 [.string nm] rfl rfl (cell_one_new W3 (.string nm) 9) (by simp [Value.oneCell']) (by unfold maxLen; omega) (by omega) (by have := HS3.out.sz; simp; omega) ?_; intro v' w7 hown7 hgrow7 _ hat7
       obtain ⟨vA, vn, vc, rfl⟩ := slice_of_own hown7
       have g7 := (World.grownBy_alloc W3 (.cells #[.string nm] 9) v.ownBlock).trans hgrow7
       have b7 := (g7.block w.heap.size (Array.getElem?_eq_some_iff.1 HS3.out.b0).1 (fun e => by have := (ownBlock_cells HS3.out.own _ e.symm).1; omega)).trans HS3.out.b0
       have k7 : w7.cell? ⟨w.heap.size, 0, none⟩ = some v := by simp [World.cell?, b7]
       have k8 : w7.frozen? ⟨w.heap.size, 0, none⟩ = false := by simp [World.frozen?, b7]))
   have hS3 := HS3.out
   have hb3 := HB3.out
   have lt7 : ∀ {j : Nat} {o : Obj}, W3.heap[j]? = some o → j < w.heap.size + 3 → j ≠ w.heap.size → (w7.setCell ⟨w.heap.size, 0, none⟩ (.slice vA vn vc)).heap[j]? = some o := fun {j o} ho hj hj2 =>
    (Below.heap_setCell w7 ⟨w.heap.size, 0, none⟩ _ j hj2).trans ((g7.block j (Array.getElem?_eq_some_iff.1 ho).1 (fun e => by have := (ownBlock_cells hS3.own _ e.symm).1; omega)).trans ho)
   have hW := hb3.size
   refine ⟨⟨Nat.le_trans hb3.size (Nat.le_trans g7.size (by simp [World.setCell])), fun k o hB hk ho => ?_⟩, ?_, ⟨.slice vA vn vc, ⟨oheap_set _ _ _ _ _ b7, lt7 hS3.b1 (by omega) (by omega), ?_, ?_, ?_⟩⟩, ?_⟩
   · have hk3 := (hb3.block k (Array.getElem?_eq_some_iff.1 hk).1).trans hk
     refine (Below.heap_setCell w7 ⟨w.heap.size, 0, none⟩ _ k (by show k ≠ w.heap.size; omega)).trans ((g7.block k (Array.getElem?_eq_some_iff.1 hk3).1 (fun e => ?_)).trans hk3)
     obtain ⟨_, cur, T, q, hc⟩ := ownBlock_cells hS3.own _ e.symm
     rw [hk3] at hc
     cases hc
     cases ho
   · have hz := HS.out.sz
     exact (Below.heap_setCell w7 ⟨w.heap.size, 0, none⟩ _ (w.heap.size + 1 + 1) (by show w.heap.size + 1 + 1 ≠ w.heap.size; omega)).trans ((g7.block (w.heap.size + 1 + 1) (by omega) (fun e => by have := (ownBlock_cells hS3.own _ e.symm).1; omega)).trans (hb3.block _ (by omega)))
   · rw [List.length_append, List.map_append, List.map_singleton, HX.out]
     refine hown7.kept (grownBy_setCell' w7 w.heap.size _) (.inr fun e => ?_)
     have := (ownBlock_cells hown7 _ e).1
     omega
   · exact (hS3.mem.trans ⟨g7.os, g7.tape, g7.output, g7.size, fun b hb => g7.block b (Nat.lt_of_lt_of_le hb hS3.mem.size) (fun e => by have := (ownBlock_cells hS3.own _ e.symm).1; omega)⟩ : Below w.heap.size w w7).setCell (p := ⟨w.heap.size, 0, none⟩) (Nat.le_refl _) _
   · have := g7.size
     have := hS3.sz
     simp [World.setCell]
     omega
   · intro z hz
     rcases List.mem_append.1 hz with h | h
     · exact HOK.out z h
     · rw [List.mem_singleton.1 h, HX.out]; exact hpn
 case done =>
  rintro D ys W hD hys ⟨⟨v, hS⟩, hok⟩ hK
  obtain ⟨vA, vc, rfl⟩ := slice_of_ownN hS.own
  obtain ⟨m, hm⟩ : ∃ m, ys.length = m := ⟨_, rfl⟩
  have y1 : W.cell? ⟨w.heap.size, 0, none⟩ = some (.slice vA m vc) := by rw [← hm]; simp [World.cell?, hS.b0]
  have y2 : W.cell? ⟨w.heap.size + 1, 0, none⟩ = some (.int .i64 0) := by simp [World.cell?, hS.b1]
  have y3 : W.frozen? ⟨w.heap.size, 0, none⟩ = false := by simp [World.frozen?, hS.b0]
  have y4 : W.frozen? ⟨w.heap.size + 1, 0, none⟩ = false := by simp [World.frozen?, hS.b1]
  have HS := zz hS
  clear hS
  by_cases hm8 : 8 < m
  · have hm8' : (8 : Int) < m := by omega
    gi_wp2
    have SX := HS.out.set 5 [] (.slice none 0 0) (World.ownsRow_nil _ _ _ _)
    obtain ⟨X, hX⟩ : ∃ X, (W.setCell ⟨w.heap.size, 0, none⟩ (.slice none 0 0)).setCell ⟨w.heap.size + 1, 0, none⟩ (.int .i64 5) = X := ⟨_, rfl⟩
    have hKX : X.heap[D]? = some (.deferred (some [])) := by
     rw [← hX]
     exact ((Below.heap_setCell (W.setCell ⟨w.heap.size, 0, none⟩ (.slice none 0 0)) ⟨w.heap.size + 1, 0, none⟩ _ D (by show D ≠ w.heap.size + 1; omega)).trans (Below.heap_setCell W ⟨w.heap.size, 0, none⟩ _ D (by show D ≠ w.heap.size; omega))).trans hK
    rw [hX] at SX ⊢
    clear hX
    have SY := SX.keepO (grownBy_putObj' X D (.deferred none)) (fun r e => by cases e; exact ⟨by omega, _, hKX, rfl⟩)
    have z1 : (X.putObj D (.deferred none)).cell? ⟨w.heap.size, 0, none⟩ = some (.slice none 0 0) := by simp [World.cell?, SY.b0]
    have z2 : (X.putObj D (.deferred none)).cell? ⟨w.heap.size + 1, 0, none⟩ = some (.int .i64 5) := by simp [World.cell?, SY.b1]
    refine ⟨by simp, .inl ⟨_, _, rfl, run_takeDeferred hKX, ?_⟩⟩
    refine ⟨_, by simp [results, Tryz.f70, go_sem, z1, z2]; rfl, ?_⟩
    exact ⟨_, _, rfl, SY.mem, .inr ⟨ys, hys, hok, .inl ⟨by omega, rfl, rfl⟩⟩⟩
  · have hm8' : ¬ (8 : Int) < m := by omega
    gi_wp2
    have SX := HS.out.set 0 ys (.slice vA m vc) (hm ▸ HS.out.own)
    obtain ⟨X, hX⟩ : ∃ X, (W.setCell ⟨w.heap.size, 0, none⟩ (.slice vA m vc)).setCell ⟨w.heap.size + 1, 0, none⟩ (.int .i64 0) = X := ⟨_, rfl⟩
    have hKX : X.heap[D]? = some (.deferred (some [])) := by
     rw [← hX]
     exact ((Below.heap_setCell (W.setCell ⟨w.heap.size, 0, none⟩ (.slice vA m vc)) ⟨w.heap.size + 1, 0, none⟩ _ D (by show D ≠ w.heap.size + 1; omega)).trans (Below.heap_setCell W ⟨w.heap.size, 0, none⟩ _ D (by show D ≠ w.heap.size; omega))).trans hK
    rw [hX] at SX ⊢
    clear hX
    have SY := SX.keepO (grownBy_putObj' X D (.deferred none)) (fun r e => by cases e; exact ⟨by omega, _, hKX, rfl⟩)
    have z1 : (X.putObj D (.deferred none)).cell? ⟨w.heap.size, 0, none⟩ = some (.slice vA m vc) := by simp [World.cell?, SY.b0]
    have z2 : (X.putObj D (.deferred none)).cell? ⟨w.heap.size + 1, 0, none⟩ = some (.int .i64 0) := by simp [World.cell?, SY.b1]
    refine ⟨by simp, .inl ⟨_, _, rfl, run_takeDeferred hKX, ?_⟩⟩
    refine ⟨_, by simp [results, Tryz.f70, go_sem, z1, z2]; rfl, ?_⟩
    exact ⟨_, _, rfl, SY.mem, .inr ⟨ys, hys, hok, .inr ⟨by omega, rfl, SY.own⟩⟩⟩
 case stop =>
  rintro D c pre W hD ⟨lz, hlz⟩ ⟨rfl, hS, pre', x, rfl, hx⟩ hK
  have SY := hS.keep (grownBy_putObj' W D (.deferred none)) (fun r e => by cases e; exact ⟨by omega, by intro h; cases h⟩)
  have y1 : (W.putObj D (.deferred none)).cell? ⟨w.heap.size, 0, none⟩ = some (.slice none 0 0) := by simp [World.cell?, SY.b0]
  have y2 : (W.putObj D (.deferred none)).cell? ⟨w.heap.size + 1, 0, none⟩ = some (.int .i64 2) := by simp [World.cell?, SY.b1]
  gi_wp2
  refine ⟨by simp, .inl ⟨_, _, rfl, run_takeDeferred hK, ?_⟩⟩
  refine ⟨_, by simp [results, Tryz.f70, go_sem, y1, y2]; rfl, ?_⟩
  exact ⟨_, _, rfl, SY.mem, .inl ⟨rfl, rfl, _, hlz, x.1, by simp, hx⟩⟩
set_option maxRecDepth 100000 in
set_option maxHeartbeats 1000000 in
theorem t_splitLong (s : ByteArray) (w : World) (hs : 255 < s.size) (_hs2 : s.size ≤ maxLen) :
  CallsIn Fence.wide 10 Tryz.prog 70 #[.string s] w fun e W' => e = .returned (.tuple #[.slice none 0 0, .int .i64 5]) ∧ Below w.heap.size w W' := by
 refine callsIn_of_wp Tryz.func70 rfl trivial ?_ rfl
 simp only [Tryz.ntmps70, List.size_toArray, List.length_cons, List.length_nil, Nat.reduceAdd, Nat.reduceSub, Array.replicate_succ, Array.replicate_zero, List.push_toArray, List.append_toArray, List.nil_append, List.cons_append]
 have hc1 : (255 : Int) < s.size := by omega
 gi_wp2
 have z1 := World.alloc_heap_new w (.cells #[.slice none 0 0] 152)
 have z2 := World.alloc_heap_new (w.alloc (.cells #[.slice none 0 0] 152)) (.cells #[.int .i64 5] 26)
 simp only [World.size_alloc] at z1 z2
 have z3 := heap_up (.cells #[.int .i64 5] 26) z1
 obtain ⟨X, hX⟩ : ∃ X, (w.alloc (.cells #[.slice none 0 0] 152)).alloc (.cells #[.int .i64 5] 26) = X := ⟨_, rfl⟩
 have hB : Below w.heap.size w X := by rw [← hX]; exact ((Below.refl _ w).alloc (Nat.le_refl _) _).alloc (by simp only [World.size_alloc]; omega) _
 rw [hX] at z2 z3 ⊢
 have c1 : X.cell? ⟨w.heap.size, 0, none⟩ = some (.slice none 0 0) := by simp [World.cell?, z3]
 have c2 : X.cell? ⟨w.heap.size + 1, 0, none⟩ = some (.int .i64 5) := by simp [World.cell?, z2]
 refine bodyPost_ret (by simp [results, Tryz.f70, go_sem, c1, c2]; rfl) rfl ?_
 exact ⟨rfl, hB⟩
set_option maxRecDepth 100000 in
set_option maxHeartbeats 1000000 in
theorem t_splitForm (s : ByteArray) (w : World) (hs : s.size ≤ 255) (hh : s.data.toList.head? ≠ some 47) :
  CallsIn Fence.wide 10 Tryz.prog 70 #[.string s] w fun e W' => e = .returned (.tuple #[.slice none 0 0, .int .i64 7]) ∧ Below w.heap.size w W' := by
 refine callsIn_of_wp Tryz.func70 rfl trivial ?_ rfl
 simp only [Tryz.ntmps70, List.size_toArray, List.length_cons, List.length_nil, Nat.reduceAdd, Nat.reduceSub, Array.replicate_succ, Array.replicate_zero, List.push_toArray, List.append_toArray, List.nil_append, List.cons_append]
 have hc1 : ¬ 255 < s.size := by omega
 gi_wp2
 have T := t_strHas s ((w.alloc (.cells #[.slice none 0 0] 152)).alloc (.cells #[.int .i64 0] 26))
 rw [show decide (s.data.toList.head? = some 47) = false from decide_eq_false hh] at T
 refine ⟨trivial, ?_⟩
 gi_at_call 103
 refine (callsIn_wide.2 T).mono ?_
 rintro e w' ⟨rfl, rfl⟩
 clear T
 gi_wp2
 have z1 := World.alloc_heap_new w (.cells #[.slice none 0 0] 152)
 have z2 := World.alloc_heap_new (w.alloc (.cells #[.slice none 0 0] 152)) (.cells #[.int .i64 7] 26)
 simp only [World.size_alloc] at z1 z2
 have z3 := heap_up (.cells #[.int .i64 7] 26) z1
 obtain ⟨X, hX⟩ : ∃ X, (w.alloc (.cells #[.slice none 0 0] 152)).alloc (.cells #[.int .i64 7] 26) = X := ⟨_, rfl⟩
 have hB : Below w.heap.size w X := by rw [← hX]; exact ((Below.refl _ w).alloc (Nat.le_refl _) _).alloc (by simp only [World.size_alloc]; omega) _
 rw [hX] at z2 z3 ⊢
 have c1 : X.cell? ⟨w.heap.size, 0, none⟩ = some (.slice none 0 0) := by simp [World.cell?, z3]
 have c2 : X.cell? ⟨w.heap.size + 1, 0, none⟩ = some (.int .i64 7) := by simp [World.cell?, z2]
 refine bodyPost_ret (by simp [results, Tryz.f70, go_sem, c1, c2]; rfl) rfl ?_
 exact ⟨rfl, hB⟩
end
end Go.Proofs.YtpcnolkdnmolgaaGreatDoor
