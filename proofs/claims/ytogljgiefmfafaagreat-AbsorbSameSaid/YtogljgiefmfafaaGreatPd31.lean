/- Idle. -/
import Derived.Test.YtogljgiefmfafaaGreatPd30
namespace Go.Proofs.YtogljgiefmfafaaGreat.A
open Go.RowKit Go.Maps
theorem wideScope {n : Nat} {P : Program} {c : Code} {Q : Exit → Act → World → Prop} {a : Act} {w : World} (h : c.wpIn Fence.wide n P (Exit.noGoto Q) a w) : (Code.scope c).wpIn Fence.wide n P Q a w :=
 wpIn_wide.2 (wp_scope_straight (wpIn_wide.1 h))
theorem wideLabel {n : Nat} {P : Program} {l : Nat} {Q : Exit → Act → World → Prop} {a : Act} {w : World} (h : Q .normal a w) : (Code.label l).wpIn Fence.wide n P Q a w :=
 wpIn_wide.2 (wp_label h)
def lifeStep (D : DataW Unit) (r : R) : DataW Unit := if r.act = 2 then D.put r.key (.agg []) else if r.act = 3 then D.del r.key else D
def idleGo (x : R) : DataW Unit → List (Nat × R) → Option Nat
 | _, [] => none
 | D, (i, r) :: rs =>
  if r.ino = x.ino ∧ r.act = 7 then (if Maps.size D = 0 then some i else none)
  else if r.dir = x.ino ∨ r.dir2 = x.ino ∨ r.old = x.ino then none
  else if r.ino = x.ino then
   if r.act = 2 then (if has D r.key then none else idleGo x (D.put r.key (.agg [])) rs)
   else if r.act = 3 then (if has D r.key then idleGo x (D.del r.key) rs else none)
   else if r.act = 5 ∨ r.act = 6 then idleGo x D rs
   else none
  else idleGo x D rs
def life0 (x : R) : DataW Unit := (DataW.map []).put x.key (.agg [])
def lifeD (x : R) (pre : List (Nat × R)) : DataW Unit := pre.foldl (fun D y => if y.2.ino = x.ino then lifeStep D y.2 else D) (life0 x)
theorem lifeD_snoc (x : R) (pre : List (Nat × R)) (y : Nat × R) : lifeD x (pre ++ [y]) = if y.2.ino = x.ino then lifeStep (lifeD x pre) y.2 else lifeD x pre := by
 unfold lifeD; rw [List.foldl_append]; rfl
def Lives (x : R) (pre : List (Nat × R)) : Prop := ∀ rest, idleGo x (life0 x) (pre ++ rest) = idleGo x (lifeD x pre) rest
def Dies (x : R) (v : Option Nat) (pre : List (Nat × R)) : Prop := ∀ rest, idleGo x (life0 x) (pre ++ rest) = v
theorem Lives.nil (x : R) : Lives x [] := fun _ => rfl
theorem Lives.step {x : R} {pre : List (Nat × R)} (h : Lives x pre) (y : Nat × R) (hy : ∀ rest, idleGo x (lifeD x pre) (y :: rest) = idleGo x (lifeD x (pre ++ [y])) rest) : Lives x (pre ++ [y]) := fun rest => by
 rw [List.append_assoc, h]; exact hy rest
theorem Lives.dies {x : R} {pre : List (Nat × R)} (h : Lives x pre) (y : Nat × R) (v : Option Nat) (hy : ∀ rest, idleGo x (lifeD x pre) (y :: rest) = v) : Dies x v (pre ++ [y]) := fun rest => by
 rw [List.append_assoc, h]; exact hy rest
def idleB (rs : List R) (k : Nat) : Option Nat :=
 match rs[k]? with
 | some x => if x.act = 1 ∧ x.kind = 1 then idleGo x (life0 x) (behindOf rs k) else none
 | none => none
theorem There.mono {w : World} {M n m : Nat} {D : DataW Unit} (h : There w M n D) (hnm : n ≤ m) : There w M m D := by
 obtain ⟨es, clock, hb, F, hs, e⟩ := h; exact ⟨es, clock, hb, F, Nat.le_trans hs hnm, e⟩
structure LifeAt (W : World) (P L M : Nat) (ino : Int) : Prop where
 box : Boxed W P 128 (.pointer (some ⟨L, 0, none⟩))
 cells : W.heap[L]? = some (.cells #[.int .u32 ino, .map (some M)] 134)
theorem LifeAt.cell0 {W : World} {P L M : Nat} {ino : Int} (h : LifeAt W P L M ino) : W.cell? ⟨L, 0, none⟩ = some (.int .u32 ino) := by simp [World.cell?, h.cells]
theorem LifeAt.cell1 {W : World} {P L M : Nat} {ino : Int} (h : LifeAt W P L M ino) : W.cell? ⟨L, 1, none⟩ = some (.map (some M)) := by simp [World.cell?, h.cells]
theorem zero57 (w : World) : (zeroValue 139).run Tryz.prog w = .ok (.agg #[.nilFunc]) w := by kernel_rfl
theorem does2 (L : Nat) (z : DataW Value) : (doesD L).atKey (.int .u8 2) z = .held (bound 135 L) ∧ has (doesD L) (.int .u8 2) = true := ⟨by rfl, by rfl⟩
theorem does3 (L : Nat) (z : DataW Value) : (doesD L).atKey (.int .u8 3) z = .held (bound 136 L) ∧ has (doesD L) (.int .u8 3) = true := ⟨by rfl, by rfl⟩
theorem does5 (L : Nat) (z : DataW Value) : (doesD L).atKey (.int .u8 5) z = .held (bound 137 L) ∧ has (doesD L) (.int .u8 5) = true := ⟨by rfl, by rfl⟩
theorem does6 (L : Nat) (z : DataW Value) : (doesD L).atKey (.int .u8 6) z = .held (bound 137 L) ∧ has (doesD L) (.int .u8 6) = true := ⟨by rfl, by rfl⟩
theorem does_none (L : Nat) (a : Int) (h2 : a ≠ 2) (h3 : a ≠ 3) (h5 : a ≠ 5) (h6 : a ≠ 6) : has (doesD L) (.int .u8 a) = false := by
 unfold doesD
 rw [has_put_other, has_put_other, has_put_other, has_put_other] <;> first | rfl | simp_all
theorem look_hit {W : World} {T L : Nat} (h : W.ownsMap Tryz.prog 5 anyElem T 4 (doesD L)) (a : Int) (f : Nat) (ha : 0 ≤ a ∧ a ≤ 255) (h1 : ∀ z, (doesD L).atKey (.int .u8 a) z = .held (bound f L) ∧ has (doesD L) (.int .u8 a) = true) :
  (Instr.lookup 135 (.map (some T)) (.int .u8 a) true).run Tryz.prog W = .ok (.tuple #[.agg #[.func (.func f) #[.pointer (some ⟨L, 0, none⟩)] #[]], .bool true]) W := by
 obtain ⟨v, ps, hrun, hv⟩ := World.ownsMap.look_ok h law5 Tryz.underlying135 (zero57 W) (zd := .held (.agg #[.nilFunc])) rfl (key5 a ha)
 rw [(h1 _).1] at hv
 rw [(h1 (.held .nilFunc)).2] at hrun
 simp only [anyElem, Option.some.injEq, Prod.mk.injEq, DataW.held.injEq] at hv
 rw [hrun, hv.1]; rfl
theorem look_miss {W : World} {T L : Nat} (h : W.ownsMap Tryz.prog 5 anyElem T 4 (doesD L)) (a : Int) (ha : 0 ≤ a ∧ a ≤ 255) (h1 : has (doesD L) (.int .u8 a) = false) :
  (Instr.lookup 135 (.map (some T)) (.int .u8 a) true).run Tryz.prog W = .ok (.tuple #[.agg #[.nilFunc], .bool false]) W := by
 obtain ⟨v, ps, hrun, hv⟩ := World.ownsMap.look_ok h law5 Tryz.underlying135 (zero57 W) (zd := .held (.agg #[.nilFunc])) rfl (key5 a ha)
 rw [h1] at hrun
 rw [Maps.atKey_of_not_has h1] at hv
 simp only [anyElem, Option.some.injEq, Prod.mk.injEq, DataW.held.injEq] at hv
 rw [hrun, hv.1]
theorem grown_mix {A B C : World} {M : Nat} (h : A.grownBy B none) (k : B.grownBy C (some M)) : A.grownBy C (some M) :=
 ⟨k.os.trans h.os, k.tape.trans h.tape, k.output.trans h.output, Nat.le_trans h.size k.size, fun i hi hne => (k.block i (Nat.lt_of_lt_of_le hi h.size) hne).trans (h.block i hi (by simp))⟩
theorem grown_weak {A B : World} {M : Nat} (h : A.grownBy B none) : A.grownBy B (some M) := ⟨h.os, h.tape, h.output, h.size, fun i hi _ => h.block i hi (by simp)⟩
theorem grown_below {A B : World} (h : Below A.heap.size A B) : A.grownBy B none := ⟨h.os, h.tape, h.output, h.size, fun k hk _ => h.block k hk⟩
theorem LifeAt.alloc {W : World} {P L M : Nat} {ino : Int} (h : LifeAt W P L M ino) (o : Obj) : LifeAt (W.alloc o) P L M ino :=
 ⟨h.box.alloc o, (Below.heap_alloc W o L (Array.getElem?_eq_some_iff.1 h.cells).1).trans h.cells⟩
theorem life_new1 (w : World) (M : Nat) (ino : Int) : LifeAt ((w.alloc (.cells #[.int .u32 ino, .map (some M)] 134)).alloc (.cells #[.pointer (some ⟨w.heap.size, 0, none⟩)] 128)) (w.heap.size + 1) w.heap.size M ino :=
 ⟨by have := Boxed.new (w.alloc (.cells #[.int .u32 ino, .map (some M)] 134)) 128 (.pointer (some ⟨w.heap.size, 0, none⟩)); rwa [World.size_alloc] at this, (Below.heap_alloc _ _ _ (by simp)).trans (World.alloc_heap_new w _)⟩
theorem life_new2 (w : World) (M : Nat) (ino : Int) : LifeAt ((w.alloc (.cells #[.pointer (some ⟨w.heap.size + 1, 0, none⟩)] 128)).alloc (.cells #[.int .u32 ino, .map (some M)] 134)) w.heap.size (w.heap.size + 1) M ino :=
 ⟨(Boxed.new w 128 (.pointer (some ⟨w.heap.size + 1, 0, none⟩))).alloc _, by have := World.alloc_heap_new (w.alloc (.cells #[.pointer (some ⟨w.heap.size + 1, 0, none⟩)] 128)) (.cells #[.int .u32 ino, .map (some M)] 134); rwa [World.size_alloc] at this⟩
theorem life_new3 {w : World} {P : Nat} {v : Value} (hP : Boxed w P 128 v) (M : Nat) (ino : Int) : LifeAt ((w.setCell ⟨P, 0, none⟩ (.pointer (some ⟨w.heap.size, 0, none⟩))).alloc (.cells #[.int .u32 ino, .map (some M)] 134)) P w.heap.size M ino :=
 ⟨(hP.set _).alloc _, by have := World.alloc_heap_new (w.setCell ⟨P, 0, none⟩ (.pointer (some ⟨w.heap.size, 0, none⟩))) (.cells #[.int .u32 ino, .map (some M)] 134); simpa using this⟩
theorem ownFrom_life {β : Type} (B P L M : Nat) (ino : Int) : OwnFrom B (fun (_ : β) W => LifeAt W P L M ino) := fun s X Y row hs hg hr => by
 refine ⟨Own.from (boxed_own (β := β) P 128 (fun _ => .pointer (some ⟨L, 0, none⟩))) B s X Y row hs.box hg hr, (hg.block L (Array.getElem?_eq_some_iff.1 hs.cells).1 ?_).trans hs.cells⟩
 intro e
 obtain ⟨_, o, ho, hc⟩ := hr L e.symm
 rw [hs.cells] at ho; cases ho; cases hc
theorem ownFrom_map {β H : Type} {B M : Nat} (hM : M < B) (k : TypeId) (R : Value → Option (DataW H × List MemPlace)) (nf : β → Nat) (Df : β → DataW H) : OwnFrom B (fun s W => W.ownsMap Tryz.prog k R M (nf s) (Df s)) := fun s X Y row hs hg hr =>
 hs.kept hg (fun e => by obtain ⟨hB, _⟩ := hr M e.symm; omega)
attribute [local go_sem] Oper.semAt_some
def after3 : Code → Option Code
 | .seq (.region 3 _ _) c => some c
 | .seq a b => match after3 a with
  | some c => some c
  | none => after3 b
 | .scope c => after3 c
 | .block _ c => after3 c
 | .cond _ a b => match after3 a with
  | some c => some c
  | none => after3 b
 | _ => none
noncomputable def rest13 : Code := (Tryz.f33.body.bind after3).getD .skip
set_option maxRecDepth 100000 in
set_option maxHeartbeats 4000000 in
theorem idle_rest (n c B k b o : Nat) (rs : List R) (x : R) (w W : World) (hB : B ≤ w.heap.size) (hn : n < maxLen) (hk : k < n) (_hbB : b < B) (hsz : W.heap.size = w.heap.size + 2)
  (bI : Boxed W (w.heap.size + 1) 4 (.bool false)) (bT : Boxed W w.heap.size 3 (.int .i64 0)) (hB0 : Below w.heap.size w W) (h0 : Recs W B (some ⟨b, o, none⟩) n rs)
  (P L M : Nat) (W1 : World) (_hP : W.heap.size ≤ P) (_hL : W.heap.size ≤ L) (hM : W.heap.size ≤ M) (hLife : LifeAt W1 P L M x.ino) (hThere : There W1 M 1 (life0 x)) (hBW : Below W.heap.size W W1) (u12 u13 u14 u15 u16 u17 u18 u19 u20 u21 u22 u23 u24 u25 u26 u27 u28 u29 u30 u31 u32 u33 u34 u35 u36 u37 u38 u39 u40 u41 u42 u43 u44 u45 u46 u47 u48 u49 u50 u51 u52 u53 u54 u55 u56 : Value) :
  Code.wpIn Fence.wide 7 Tryz.prog rest13 (Exit.noGoto (bodyPostM Fence.wide 7 Tryz.prog Tryz.f33 fun e W' => e = .returned (.tuple #[.int .i64 (((idleGo x (life0 x) (behindOf rs k)).getD 0 : Nat) : Int), .bool (idleGo x (life0 x) (behindOf rs k)).isSome]) ∧ Below w.heap.size w W')) { tmps := #[Value.slice (some ⟨b, o, none⟩) n c, .int .i64 k, undef, undef, .pointer (some ⟨w.heap.size, 0, none⟩), .pointer (some ⟨w.heap.size + 1, 0, none⟩), .pointer (some ⟨P, 0, none⟩), undef, undef, undef, undef, undef, u12, u13, u14, u15, u16, u17, u18, u19, u20, u21, u22, u23, u24, u25, u26, u27, u28, u29, u30, u31, u32, u33, u34, u35, u36, u37, u38, u39, u40, u41, u42, u43, u44, u45, u46, u47, u48, u49, u50, u51, u52, u53, u54, u55, u56, undef, undef, undef, undef, undef, undef, undef, undef, undef, undef, undef, undef, undef, undef, undef, undef, undef, undef, undef, undef, undef, undef, undef, undef, undef, undef, undef, undef, undef, undef, undef, undef, undef, undef, undef, undef, undef, undef, undef, undef, undef, undef, undef, undef, undef, undef, undef, undef, undef, undef, undef, undef, undef, undef, undef, undef, undef, undef, undef, undef, undef, undef, undef, undef, undef, undef, undef, undef, undef, undef, undef, undef, undef], defers := [] } W1 := by
 have hc0 := hLife.box.cell
 conv => arg 4; whnf
 gi_wp2_with (first | (refine ⟨trivial, ?_⟩; gi_at_call 74; refine (callsIn_wide.2 (does_any L _)).mono ?_; rintro e w' ⟨rfl, hT, hbT⟩) | (refine ⟨trivial, ?_⟩; gi_at_call 75; refine (callsIn_wide.2 (behind_any _ _ _ _ _)).mono ?_; rintro e w' ⟨rfl, rfl⟩) | refine wideLabel ?_)
 have HT := Lib.hid hT
 have bX := ((Boxed.new w' 135 (.map (some W1.heap.size))).alloc (.cells #[.slice (some ⟨b, o, none⟩) n c] 22)).alloc (.cells #[.int .i64 k] 3)
 have bT' := (Boxed.new (w'.alloc (.cells #[.map (some W1.heap.size)] 135)) 22 (.slice (some ⟨b, o, none⟩) n c)).alloc (.cells #[.int .i64 k] 3)
 have bC := Boxed.new ((w'.alloc (.cells #[.map (some W1.heap.size)] 135)).alloc (.cells #[.slice (some ⟨b, o, none⟩) n c] 22)) 3 (.int .i64 k)
 have hL1 : LifeAt w' P L M x.ino := ⟨(hbT.block P hLife.box.lt).trans hLife.box, (hbT.block L (Array.getElem?_eq_some_iff.1 hLife.cells).1).trans hLife.cells⟩
 have hgT : W1.grownBy w' none := ⟨hbT.os, hbT.tape, hbT.output, hbT.size, fun k hk _ => hbT.block k hk⟩
 have hM1 : There w' M 1 (life0 x) := hThere.kept hgT (by simp)
 have hMlt := hThere.lt
 have hB1 : Below w.heap.size w w' := (hB0.trans (hBW.mono (by omega))).trans (hbT.mono (by have := hBW.size; omega))
 have hB2 := ((hB1.alloc hB1.size (.cells #[.map (some W1.heap.size)] 135)).alloc (by have := hB1.size; simp; omega) (.cells #[.slice (some ⟨b, o, none⟩) n c] 22)).alloc (by have := hB1.size; simp; omega) (.cells #[.int .i64 k] 3)
 have hW1 := hBW.size
 have hW2 : W1.heap.size < w'.heap.size := hT.lt
 have bTo : Boxed w' w.heap.size 3 (.int .i64 0) := (hbT.block _ (by omega)).trans ((hBW.block _ (by omega)).trans bT)
 have bIs : Boxed w' (w.heap.size + 1) 4 (.bool false) := (hbT.block _ (by omega)).trans ((hBW.block _ (by omega)).trans bI)
 have hL2 := ((hL1.alloc (.cells #[.map (some W1.heap.size)] 135)).alloc (.cells #[.slice (some ⟨b, o, none⟩) n c] 22)).alloc (.cells #[.int .i64 k] 3)
 have hM2 := ((hM1.alloc (.cells #[.map (some W1.heap.size)] 135)).alloc (.cells #[.slice (some ⟨b, o, none⟩) n c] 22)).alloc (.cells #[.int .i64 k] 3)
 have hT2 := ((hT.alloc (.cells #[.map (some W1.heap.size)] 135)).alloc (.cells #[.slice (some ⟨b, o, none⟩) n c] 22)).alloc (.cells #[.int .i64 k] 3)
 have bTo2 := ((bTo.alloc (.cells #[.map (some W1.heap.size)] 135)).alloc (.cells #[.slice (some ⟨b, o, none⟩) n c] 22)).alloc (.cells #[.int .i64 k] 3)
 have bIs2 := ((bIs.alloc (.cells #[.map (some W1.heap.size)] 135)).alloc (.cells #[.slice (some ⟨b, o, none⟩) n c] 22)).alloc (.cells #[.int .i64 k] 3)
 have hsz2 : (((w'.alloc (.cells #[.map (some W1.heap.size)] 135)).alloc (.cells #[.slice (some ⟨b, o, none⟩) n c] 22)).alloc (.cells #[.int .i64 k] 3)).heap.size = w'.heap.size + 3 := by simp
 simp only [World.size_alloc] at bT' bC
 obtain ⟨W0, hW0⟩ : ∃ W0, ((w'.alloc (.cells #[.map (some W1.heap.size)] 135)).alloc (.cells #[.slice (some ⟨b, o, none⟩) n c] 22)).alloc (.cells #[.int .i64 k] 3) = W0 := ⟨_, rfl⟩
 obtain ⟨X, hX⟩ : ∃ X, w'.heap.size = X := ⟨_, rfl⟩
 rw [hX] at bX bT' bC hsz2 hW2
 rw [hX]
 rw [hW0] at bX bT' bC hL2 hM2 hT2 bTo2 bIs2 hsz2 hB2 ⊢
 have h2 := h0.below ((hBW.trans (hbT.mono hW1)).trans (show Below W.heap.size w' W0 by rw [← hW0]; exact ((((Below.refl _ w').alloc (Nat.le_refl _) _).alloc (by simp) _).alloc (by simp; omega) _).mono (by omega))) (by omega) (Nat.le_refl _)
 clear hW0 hX hT HT hL1 hM1 bTo bIs hB1 hgT hbT hBW hThere hLife bT bI hc0
 refine wpIn_rangeFunc_ownH rfl (by omega) (gf := 138) (lb := #[.pointer (some ⟨X + 1 + 1, 0, none⟩), .pointer (some ⟨X + 1, 0, none⟩)]) rfl trivial (enters_of Tryz.func138 (by kernel_rfl) rfl)
  (behind_stops_ok (X + 1) (X + 1 + 1) n c B w.heap.size k (some ⟨b, o, none⟩) rs W0 (Nat.le_of_lt hn) hk hB (by omega) bT' bC h2) KeepAt.trans (KeepAt.put (by omega) (by omega)) (Below.refl _ _) (fun _ => rfl)
  (fun pre W => ((Boxed W w.heap.size 3 (.int .i64 0) ∧ Boxed W (w.heap.size + 1) 4 (.bool false)) ∧ LifeAt W P L M x.ino ∧ Boxed W X 135 (.map (some W1.heap.size)) ∧ Boxed W (X + 1 + 1) 3 (.int .i64 k)) ∧ (W.ownsMap Tryz.prog 5 anyElem W1.heap.size 4 (doesD L) ∧ There W M (pre.length + 1) (lifeD x (pre.map (·.1)))) ∧ Lives x (pre.map (·.1)) ∧ Below w.heap.size w W)
  (fun d pre W => ((d = .ret ∧ ∃ i, Dies x (some i) (pre.map (·.1)) ∧ Boxed W w.heap.size 3 (.int .i64 (i : Nat)) ∧ Boxed W (w.heap.size + 1) 4 (.bool true)) ∨ (d = .exit 0 ∧ Dies x none (pre.map (·.1)) ∧ Boxed W w.heap.size 3 (.int .i64 0) ∧ Boxed W (w.heap.size + 1) 4 (.bool false))) ∧ Below w.heap.size w W)
  (OwnFrom.and (OwnFrom.and (OwnFrom.and (Own.from (boxed_own _ _ _) _) (Own.from (boxed_own _ _ _) _)) (OwnFrom.and (ownFrom_life _ _ _ _ _) (OwnFrom.and (Own.from (boxed_own _ _ _) _) (Own.from (boxed_own _ _ _) _)))) (OwnFrom.and (OwnFrom.and (ownFrom_map (by omega) _ _ _ _) (ownFrom_map (by omega) _ _ _ _)) (OwnFrom.and (ownFrom_pure _ _) (ownFrom_below (Nat.le_refl _) (by omega)))))
  ?own
  ⟨⟨⟨bTo2, bIs2⟩, hL2, bX, bC⟩, ⟨hT2, hM2⟩, Lives.nil x, hB2⟩
  (fun y a' W => ∃ Bx, X + 2 < Bx ∧ RecBlk W Bx y.1.2 ∧ a' = { tmps := #[Value.slice (some ⟨b, o, none⟩) n c, .int .i64 k, undef, undef, .pointer (some ⟨w.heap.size, 0, none⟩), .pointer (some ⟨w.heap.size + 1, 0, none⟩), .pointer (some ⟨P, 0, none⟩), .pointer (some ⟨X, 0, none⟩), .int .i64 y.1.1, .pointer (some ⟨Bx, 0, none⟩), undef, undef, u12, u13, u14, u15, u16, u17, u18, u19, u20, u21, u22, u23, u24, u25, u26, u27, u28, u29, u30, u31, u32, u33, u34, u35, u36, u37, u38, u39, u40, u41, u42, u43, u44, u45, u46, u47, u48, u49, u50, u51, u52, u53, u54, u55, u56, .pointer (some ⟨L, 0, none⟩), .map (some W1.heap.size), .slice (some ⟨b, o, none⟩) n c, .int .i64 k, .func (.func 138) #[] #[.pointer (some ⟨X + 1 + 1, 0, none⟩), .pointer (some ⟨X + 1, 0, none⟩)], .int .i64 y.1.1, y.1.2.val, undef, undef, undef, undef, undef, undef, undef, undef, undef, undef, undef, undef, undef, undef, undef, undef, undef, undef, undef, undef, undef, undef, undef, undef, undef, undef, undef, undef, undef, undef, undef, undef, undef, undef, undef, undef, undef, undef, undef, undef, undef, undef, undef, undef, undef, undef, undef, undef, undef, undef, undef, undef, undef, undef, undef, undef, undef, undef, undef, undef, undef, undef, undef, undef, undef, undef], defers := [] })
  (fun y a' _ X Y row hs hg hr => by obtain ⟨Bx, h1, h2, h3⟩ := hs; exact ⟨Bx, h1, h2.kept hg (h2.not_row (fun r e => (hr r e).2)), h3⟩)
  ?assign ?body ?done ?stop
 case own =>
  intro d
  refine OwnFrom.and ?_ (ownFrom_below (Nat.le_refl _) (by omega))
  rintro s Y Z row (⟨e, i, hd, h1, h2⟩ | ⟨e, hd, h1, h2⟩) hg hr
  · exact .inl ⟨e, i, hd, Own.from (boxed_own (β := Unit) _ _ (fun _ => _)) _ () Y Z row h1 hg hr, Own.from (boxed_own (β := Unit) _ _ (fun _ => _)) _ () Y Z row h2 hg hr⟩
  · exact .inr ⟨e, hd, Own.from (boxed_own (β := Unit) _ _ (fun _ => _)) _ () Y Z row h1 hg hr, Own.from (boxed_own (β := Unit) _ _ (fun _ => _)) _ () Y Z row h2 hg hr⟩
 case assign =>
  rintro l pre y V K ⟨⟨⟨qT, qI⟩, qL, qX, qC⟩, ⟨qD, qM⟩, hG, hB3⟩ hK
  have hsV := hB3.size
  have hq := qC.lt
  unfold R.val
  gi_wp2
  exact hK _ _ ((KeepsOthers.alloc _ _).from _) ⟨fun i hi => Below.heap_alloc _ _ _ (by omega), Below.heap_alloc _ _ _ (by omega)⟩ ⟨⟨⟨qT.alloc _, qI.alloc _⟩, qL.alloc _, qX.alloc _, qC.alloc _⟩, ⟨qD.alloc _, qM.alloc _⟩, hG, hB3.alloc hsV _⟩ ⟨V.heap.size, by omega, heap_alloc_new V _, rfl⟩
 case body =>
  rintro l pre y a' V hl _ ⟨⟨⟨qT, qI⟩, qL, qX, qC⟩, ⟨qD, qM⟩, hG, hB3⟩ ⟨Bx, hBx, hXr, rfl⟩ hlt
  have hsV := hB3.size
  have cP := qL.box.cell
  have cL0 := qL.cell0
  have cL1 := qL.cell1
  have cX := qX.cell
  have cT := qT.cell
  have fT := qT.frozen
  have cI := qI.cell
  have fI := qI.frozen
  have hat := hXr.at_
  have y1 := hat.c1
  have y2 := hat.c2
  have y4 := hat.c4
  have y6 := hat.c6
  have y8 := hat.c8
  have hlen : ∀ (q : Nat) (ty : TypeId), (Builtin.len_ #[132] ty #[.map (some M)]).run Tryz.prog (V.drewN q) = .ok (.int .i64 (Maps.size (lifeD x (pre.map (·.1))))) (V.drewN q) := fun q ty => World.ownsMap.len (w := V.drewN q) qM Tryz.underlying132 ty
  have hk2 := Lib.hid hlen
  have RECAT := Lib.hid hat
  clear hlen hat
  have Hok := Lib.hid y.2
  have MK := Lib.hid qM
  have DK := Lib.hid qD
  have HG := Lib.hid hG
  have BK := Lib.hid hB3
  have QT := Lib.hid qT
  have QI := Lib.hid qI
  have QL := Lib.hid qL
  have QX := Lib.hid qX
  have QC := Lib.hid qC
  have hMB : M < W0.heap.size := by omega
  have hML : Bx ≠ M := fun e => by subst e; exact map_ne qM y1 rfl
  clear qM qD hG hB3 qT qI qL qX qC hXr
  have GO := Lib.hid (show ∀ D rest, idleGo x D (y.1 :: rest) = if y.1.2.ino = x.ino ∧ y.1.2.act = 7 then (if Maps.size D = 0 then some y.1.1 else none)
    else if y.1.2.dir = x.ino ∨ y.1.2.dir2 = x.ino ∨ y.1.2.old = x.ino then none
    else if y.1.2.ino = x.ino then
     if y.1.2.act = 2 then (if has D y.1.2.key then none else idleGo x (D.put y.1.2.key (.agg [])) rest)
     else if y.1.2.act = 3 then (if has D y.1.2.key then idleGo x (D.del y.1.2.key) rest else none)
     else if y.1.2.act = 5 ∨ y.1.2.act = 6 then idleGo x D rest
     else none
    else idleGo x D rest from fun D rest => rfl)
  by_cases hA : y.1.2.ino = x.ino ∧ y.1.2.act = 7
  case pos =>
   have e1 : (y.1.2.ino == x.ino) = true := by simpa using hA.1
   have e2 : (y.1.2.act == 7) = true := by simpa using hA.2
   by_cases hs : Maps.size (lifeD x (pre.map (·.1))) = 0
   case pos =>
    have hs' : (((Maps.size (lifeD x (pre.map (·.1))) : Nat) : Int) == 0) = true := by rw [hs]; rfl
    have hD := Lib.hid (HG.out.dies y.1 (some y.1.1) (fun rest => by rw [GO.out, if_pos hA, if_pos hs]))
    clear hA hs
    gi_wp2
    (refine round_quiet (by kernel_rfl) (by kernel_rfl) (by kernel_rfl) ?_; (repeat (go_big_quiet_step (fail))); refine wpQuiet_nil ?_; intro _ hw'; obtain ⟨nq, hw''⟩ := hw'; subst hw'')
    have hlen := hk2.out nq
    gi_wp2
    refine ⟨KeepsFrom.trans (Y := V.drewN nq) ⟨Nat.le_refl _, fun _ _ _ h _ => h⟩ (((KeepsOthers.setCell _ _ _).from _).trans ((KeepsOthers.setCell _ _ _).from _)), .inl ⟨rfl, y.1.1, by rw [List.map_append]; exact hD.out, Boxed.other (Boxed.set (W := V.drewN nq) _ QT.out) (by omega) _, Boxed.set _ (Boxed.other (W := V.drewN nq) QI.out (by omega) _)⟩, ((bdn BK.out nq).setCell (p := ⟨w.heap.size, 0, none⟩) (by simp) _).setCell (p := ⟨w.heap.size + 1, 0, none⟩) (by simp) _⟩
   case neg =>
    have hs' : (((Maps.size (lifeD x (pre.map (·.1))) : Nat) : Int) == 0) = false := by simpa using hs
    have hD := Lib.hid (HG.out.dies y.1 none (fun rest => by rw [GO.out, if_pos hA, if_neg hs]))
    clear hA hs
    gi_wp2
    (refine round_quiet (by kernel_rfl) (by kernel_rfl) (by kernel_rfl) ?_; (repeat (go_big_quiet_step (fail))); refine wpQuiet_nil ?_; intro _ hw'; obtain ⟨nq, hw''⟩ := hw'; subst hw'')
    have hlen := hk2.out nq
    gi_wp2
    exact ⟨⟨Nat.le_refl _, fun _ _ _ h _ => h⟩, .inr ⟨rfl, by rw [List.map_append]; exact hD.out, QT.out, QI.out⟩, ⟨BK.out.os, BK.out.tape, BK.out.output, BK.out.size, BK.out.block⟩⟩
  case neg =>
   have hA' : (y.1.2.ino == x.ino) = false ∨ ((y.1.2.ino == x.ino) = true ∧ (y.1.2.act == 7) = false) := by
    by_cases e : y.1.2.ino = x.ino
    · exact .inr ⟨by simpa using e, by simpa using fun h => hA ⟨e, h⟩⟩
    · exact .inl (by simpa using e)
   by_cases hBc : y.1.2.dir = x.ino ∨ y.1.2.dir2 = x.ino ∨ y.1.2.old = x.ino
   case pos =>
    have hD := Lib.hid (HG.out.dies y.1 none (fun rest => by rw [GO.out, if_neg hA, if_pos hBc]))
    by_cases d1 : y.1.2.dir = x.ino
    · have d1' : (y.1.2.dir == x.ino) = true := by simpa using d1
      clear hA hBc d1
      obtain e1 | ⟨e1, e2⟩ := hA'
      · repeat (gi_wp2; (refine round_quiet (by kernel_rfl) (by kernel_rfl) (by kernel_rfl) ?_; (repeat (go_big_quiet_step (fail))); refine wpQuiet_nil ?_; intro _ hw'; obtain ⟨nq, hw''⟩ := hw'; subst hw''))
        gi_wp2
        exact ⟨⟨Nat.le_refl _, fun _ _ _ h _ => h⟩, .inr ⟨rfl, by rw [List.map_append]; exact hD.out, QT.out, QI.out⟩, ⟨BK.out.os, BK.out.tape, BK.out.output, BK.out.size, BK.out.block⟩⟩
      · repeat (gi_wp2; (refine round_quiet (by kernel_rfl) (by kernel_rfl) (by kernel_rfl) ?_; (repeat (go_big_quiet_step (fail))); refine wpQuiet_nil ?_; intro _ hw'; obtain ⟨nq, hw''⟩ := hw'; subst hw''))
        gi_wp2
        exact ⟨⟨Nat.le_refl _, fun _ _ _ h _ => h⟩, .inr ⟨rfl, by rw [List.map_append]; exact hD.out, QT.out, QI.out⟩, ⟨BK.out.os, BK.out.tape, BK.out.output, BK.out.size, BK.out.block⟩⟩
    · have d1' : (y.1.2.dir == x.ino) = false := by simpa using d1
      by_cases d2 : y.1.2.dir2 = x.ino
      · have d2' : (y.1.2.dir2 == x.ino) = true := by simpa using d2
        clear hA hBc d1 d2
        obtain e1 | ⟨e1, e2⟩ := hA'
        · repeat (gi_wp2; (refine round_quiet (by kernel_rfl) (by kernel_rfl) (by kernel_rfl) ?_; (repeat (go_big_quiet_step (fail))); refine wpQuiet_nil ?_; intro _ hw'; obtain ⟨nq, hw''⟩ := hw'; subst hw''))
          gi_wp2
          exact ⟨⟨Nat.le_refl _, fun _ _ _ h _ => h⟩, .inr ⟨rfl, by rw [List.map_append]; exact hD.out, QT.out, QI.out⟩, ⟨BK.out.os, BK.out.tape, BK.out.output, BK.out.size, BK.out.block⟩⟩
        · repeat (gi_wp2; (refine round_quiet (by kernel_rfl) (by kernel_rfl) (by kernel_rfl) ?_; (repeat (go_big_quiet_step (fail))); refine wpQuiet_nil ?_; intro _ hw'; obtain ⟨nq, hw''⟩ := hw'; subst hw''))
          gi_wp2
          exact ⟨⟨Nat.le_refl _, fun _ _ _ h _ => h⟩, .inr ⟨rfl, by rw [List.map_append]; exact hD.out, QT.out, QI.out⟩, ⟨BK.out.os, BK.out.tape, BK.out.output, BK.out.size, BK.out.block⟩⟩
      · have d2' : (y.1.2.dir2 == x.ino) = false := by simpa using d2
        have d3' : (y.1.2.old == x.ino) = true := by simpa [d1, d2] using hBc
        clear hA hBc d1 d2
        obtain e1 | ⟨e1, e2⟩ := hA'
        · repeat (gi_wp2; (refine round_quiet (by kernel_rfl) (by kernel_rfl) (by kernel_rfl) ?_; (repeat (go_big_quiet_step (fail))); refine wpQuiet_nil ?_; intro _ hw'; obtain ⟨nq, hw''⟩ := hw'; subst hw''))
          gi_wp2
          exact ⟨⟨Nat.le_refl _, fun _ _ _ h _ => h⟩, .inr ⟨rfl, by rw [List.map_append]; exact hD.out, QT.out, QI.out⟩, ⟨BK.out.os, BK.out.tape, BK.out.output, BK.out.size, BK.out.block⟩⟩
        · repeat (gi_wp2; (refine round_quiet (by kernel_rfl) (by kernel_rfl) (by kernel_rfl) ?_; (repeat (go_big_quiet_step (fail))); refine wpQuiet_nil ?_; intro _ hw'; obtain ⟨nq, hw''⟩ := hw'; subst hw''))
          gi_wp2
          exact ⟨⟨Nat.le_refl _, fun _ _ _ h _ => h⟩, .inr ⟨rfl, by rw [List.map_append]; exact hD.out, QT.out, QI.out⟩, ⟨BK.out.os, BK.out.tape, BK.out.output, BK.out.size, BK.out.block⟩⟩
   case neg =>
    have d1' : (y.1.2.dir == x.ino) = false := by simpa using fun h => hBc (.inl h)
    have d2' : (y.1.2.dir2 == x.ino) = false := by simpa using fun h => hBc (.inr (.inl h))
    have d3' : (y.1.2.old == x.ino) = false := by simpa using fun h => hBc (.inr (.inr h))
    by_cases hi : y.1.2.ino = x.ino
    case neg =>
     have e1 : (y.1.2.ino == x.ino) = false := by simpa using hi
     have hGD := Lib.hid (show lifeD x (pre.map (·.1)) = lifeD x (pre.map (·.1) ++ [y.1]) by rw [lifeD_snoc, if_neg hi])
     have hGL := Lib.hid (HG.out.step y.1 (fun rest => by rw [GO.out, if_neg hA, if_neg hBc, if_neg hi, ← hGD.out]))
     clear hA hA' hBc hi
     repeat (gi_wp2; (refine round_quiet (by kernel_rfl) (by kernel_rfl) (by kernel_rfl) ?_; (repeat (go_big_quiet_step (fail))); refine wpQuiet_nil ?_; intro _ hw'; obtain ⟨nq, hw''⟩ := hw'; subst hw''))
     gi_wp2
     exact ⟨⟨Nat.le_refl _, fun _ _ _ h _ => h⟩, ⟨fun _ _ => rfl, rfl⟩, ⟨⟨QT.out, QI.out⟩, ⟨QL.out.box, QL.out.cells⟩, QX.out, QC.out⟩, ⟨DK.out, by rw [List.map_append]; exact hGD.out ▸ MK.out.mono (by simp)⟩, by rw [List.map_append]; exact hGL.out, ⟨BK.out.os, BK.out.tape, BK.out.output, BK.out.size, BK.out.block⟩⟩
    case pos =>
     have e1 : (y.1.2.ino == x.ino) = true := by simpa using hi
     have e2 : (y.1.2.act == 7) = false := by simpa using fun h => hA ⟨hi, h⟩
     have hG3 := Lib.hid (show ∀ D rest, idleGo x D (y.1 :: rest) = if y.1.2.act = 2 then (if has D y.1.2.key then none else idleGo x (D.put y.1.2.key (.agg [])) rest)
      else if y.1.2.act = 3 then (if has D y.1.2.key then idleGo x (D.del y.1.2.key) rest else none)
      else if y.1.2.act = 5 ∨ y.1.2.act = 6 then idleGo x D rest
      else none from fun D rest => by rw [GO.out, if_neg hA, if_neg hBc, if_pos hi])
     have hS := Lib.hid (show lifeD x (pre.map (·.1) ++ [y.1]) = lifeStep (lifeD x (pre.map (·.1))) y.1.2 by rw [lifeD_snoc, if_pos hi])
     clear hA hA' hBc hi
     have hMX : M < X := by omega
     have hneP : P ≠ M := fun e => map_ne MK.out cP (by rw [← e])
     have hneL : L ≠ M := fun e => map_ne MK.out cL0 (by rw [← e])
     have FIN := Lib.hid (show ∀ V', V.grownBy V' (some M) → KeepsFrom W0.heap.size V V' ∧ KeepAt w.heap.size (X + 1) V V' ∧ ((Boxed V' w.heap.size 3 (.int .i64 0) ∧ Boxed V' (w.heap.size + 1) 4 (.bool false)) ∧ LifeAt V' P L M x.ino ∧ Boxed V' X 135 (.map (some W1.heap.size)) ∧ Boxed V' (X + 1 + 1) 3 (.int .i64 k)) ∧ V'.ownsMap Tryz.prog 5 anyElem W1.heap.size 4 (doesD L) ∧ Below w.heap.size w V' from fun V' g => by
      have hlc := QC.out.lt
      exact ⟨KeepsFrom.of_grownBy g (by rintro j ⟨rfl⟩; omega), ⟨fun i hi => g.block i (by omega) (by rintro ⟨rfl⟩; omega), g.block _ (by omega) (by rintro ⟨rfl⟩; omega)⟩, ⟨⟨QT.out.kept g (by rintro ⟨rfl⟩; omega), QI.out.kept g (by rintro ⟨rfl⟩; omega)⟩, ⟨QL.out.box.kept g (by rintro ⟨rfl⟩; exact hneP rfl), (g.block L (Array.getElem?_eq_some_iff.1 QL.out.cells).1 (by rintro ⟨rfl⟩; exact hneL rfl)).trans QL.out.cells⟩, QX.out.kept g (by rintro ⟨rfl⟩; omega), QC.out.kept g (by rintro ⟨rfl⟩; omega)⟩, DK.out.kept g (by rintro ⟨rfl⟩; omega), BK.out.grown g BK.out.size (by rintro j ⟨rfl⟩; omega)⟩)
     gi_wp2
     (refine round_quiet (by kernel_rfl) (by kernel_rfl) (by kernel_rfl) ?_; (repeat (go_big_quiet_step (fail))); refine wpQuiet_nil ?_; intro _ hw'; obtain ⟨q1, hw''⟩ := hw'; subst hw'')
     gi_wp2
     (refine round_quiet (by kernel_rfl) (by kernel_rfl) (by kernel_rfl) ?_; (repeat (go_big_quiet_step (fail))); refine wpQuiet_nil ?_; intro _ hw'; obtain ⟨q2, hw''⟩ := hw'; subst hw'')
     gi_wp2
     (refine round_quiet (by kernel_rfl) (by kernel_rfl) (by kernel_rfl) ?_; (repeat (go_big_quiet_step (fail))); refine wpQuiet_nil ?_; intro _ hw'; obtain ⟨q3, hw''⟩ := hw'; subst hw'')
     gi_wp2
     (refine round_quiet (by kernel_rfl) (by kernel_rfl) (by kernel_rfl) ?_; (repeat (go_big_quiet_step (fail))); refine wpQuiet_nil ?_; intro _ hw'; obtain ⟨q4, hw''⟩ := hw'; subst hw'')
     gi_wp2
     (refine round_quiet (by kernel_rfl) (by kernel_rfl) (by kernel_rfl) ?_; (repeat (go_big_quiet_step (fail))); refine wpQuiet_nil ?_; intro _ hw'; obtain ⟨q5, hw''⟩ := hw'; subst hw'')
     have g2 : V.grownBy (((((V.drewN q1).drewN q2).drewN q3).drewN q4).drewN q5) none := ⟨rfl, rfl, rfl, Nat.le_refl _, fun _ _ _ => rfl⟩
     have hh : (((((V.drewN q1).drewN q2).drewN q3).drewN q4).drewN q5).heap = V.heap := rfl
     generalize ((((V.drewN q1).drewN q2).drewN q3).drewN q4).drewN q5 = V2 at g2 hh ⊢
     have cz : ∀ p, V2.cell? p = V.cell? p := fun p => World.cell?_of_block (by rw [hh])
     have cX2 := (cz _).trans cX
     have hat2 : RecAt V2 Bx 0 y.1.2 := RECAT.out.of_same (fun i => cz _)
     obtain ⟨r0, r1, r2, r3, r4, r5, r6, r7, r8, r9, r10, r11⟩ := hat2
     have hBx2 : Bx < V2.heap.size := World.block_lt_of_cell? V2 _ r0
     have hL2 : V2.cell? ⟨L, 1, none⟩ = some (.map (some M)) := (cz _).trans cL1
     have hLb : L < V2.heap.size := World.block_lt_of_cell? V2 _ hL2
     have MK2 := Lib.hid (MK.out.kept g2 (by simp))
     have DK2 := Lib.hid (DK.out.kept g2 (by simp))
     have G2 := Lib.hid g2
     clear g2 hh cz cX cP cL0 cL1 y1 y2 y4 y6 y8 cT fT cI fI
     by_cases a2 : y.1.2.act = 2
     case pos =>
      have hlook := look_hit DK2.out y.1.2.act 135 Hok.out.act (fun z => by rw [a2]; exact does2 L z)
      by_cases hh : has (lifeD x (pre.map (·.1))) y.1.2.key = true
      case pos =>
       have hD := Lib.hid (HG.out.dies y.1 none (fun rest => by rw [hG3.out, if_pos a2, if_pos hh]))
       clear a2
       gi_wp2_with (refine ⟨trivial, ?_⟩; gi_at_call 135; refine (callsIn_wide.2 (link_any L M (pre.length + 1) y.1.2 (lifeD x (pre.map (·.1))) _ _ rfl Hok.out (by omega) (by simp [go_sem, hL2, hLb]) (MK2.out.alloc _))).mono ?_; rintro e w' ⟨rfl, hM', hg'⟩)
       obtain ⟨f1, f2, f3, f4, f5⟩ := FIN.out _ (grown_mix (G2.out.trans (World.grownBy_alloc V2 _ none)) hg')
       exact ⟨f1, .inr ⟨rfl, by rw [List.map_append]; exact hD.out, f3.1.1, f3.1.2⟩, f5⟩
      case neg =>
       have hS2 := Lib.hid (show lifeD x (pre.map (·.1) ++ [y.1]) = (lifeD x (pre.map (·.1))).put y.1.2.key (.agg []) by rw [hS.out]; unfold lifeStep; rw [if_pos a2])
       have hGL := Lib.hid (HG.out.step y.1 (fun rest => by rw [hG3.out, if_pos a2, if_neg hh, hS2.out]))
       have hh' : has (lifeD x (pre.map (·.1))) y.1.2.key = false := by simpa using hh
       clear a2 hh
       gi_wp2_with (refine ⟨trivial, ?_⟩; gi_at_call 135; refine (callsIn_wide.2 (link_any L M (pre.length + 1) y.1.2 (lifeD x (pre.map (·.1))) _ _ rfl Hok.out (by omega) (by simp [go_sem, hL2, hLb]) (MK2.out.alloc _))).mono ?_; rintro e w' ⟨rfl, hM', hg'⟩)
       obtain ⟨f1, f2, f3, f4, f5⟩ := FIN.out _ (grown_mix (G2.out.trans (World.grownBy_alloc V2 _ none)) hg')
       exact ⟨f1, f2, f3, ⟨f4, by rw [List.map_append]; have := There.mono (m := (pre ++ [y]).length + 1) hM' (by simp); rw [← hS2.out] at this; exact this⟩, by rw [List.map_append]; exact hGL.out, f5⟩
     case neg =>
      by_cases a3 : y.1.2.act = 3
      case pos =>
       have hlook := look_hit DK2.out y.1.2.act 136 Hok.out.act (fun z => by rw [a3]; exact does3 L z)
       by_cases hh : has (lifeD x (pre.map (·.1))) y.1.2.key = true
       case pos =>
        have hS2 := Lib.hid (show lifeD x (pre.map (·.1) ++ [y.1]) = (lifeD x (pre.map (·.1))).del y.1.2.key by rw [hS.out]; unfold lifeStep; rw [if_neg a2, if_pos a3])
        have hGL := Lib.hid (HG.out.step y.1 (fun rest => by rw [hG3.out, if_neg a2, if_pos a3, if_pos hh, hS2.out]))
        clear a2 a3
        gi_wp2_with (refine ⟨trivial, ?_⟩; gi_at_call 136; refine (callsIn_wide.2 (unlink_any L M (pre.length + 1) y.1.2 (lifeD x (pre.map (·.1))) _ _ rfl Hok.out (by simp [go_sem, hL2, hLb]) (MK2.out.alloc _))).mono ?_; rintro e w' ⟨rfl, hM', hg'⟩)
        obtain ⟨f1, f2, f3, f4, f5⟩ := FIN.out _ (grown_mix (G2.out.trans (World.grownBy_alloc V2 _ none)) hg')
        exact ⟨f1, f2, f3, ⟨f4, by rw [List.map_append]; have := There.mono (m := (pre ++ [y]).length + 1) hM' (by simp); rw [← hS2.out] at this; exact this⟩, by rw [List.map_append]; exact hGL.out, f5⟩
       case neg =>
        have hD := Lib.hid (HG.out.dies y.1 none (fun rest => by rw [hG3.out, if_neg a2, if_pos a3, if_neg hh]))
        have hh' : has (lifeD x (pre.map (·.1))) y.1.2.key = false := by simpa using hh
        clear a2 a3 hh
        gi_wp2_with (refine ⟨trivial, ?_⟩; gi_at_call 136; refine (callsIn_wide.2 (unlink_any L M (pre.length + 1) y.1.2 (lifeD x (pre.map (·.1))) _ _ rfl Hok.out (by simp [go_sem, hL2, hLb]) (MK2.out.alloc _))).mono ?_; rintro e w' ⟨rfl, hM', hg'⟩)
        obtain ⟨f1, f2, f3, f4, f5⟩ := FIN.out _ (grown_mix (G2.out.trans (World.grownBy_alloc V2 _ none)) hg')
        exact ⟨f1, .inr ⟨rfl, by rw [List.map_append]; exact hD.out, f3.1.1, f3.1.2⟩, f5⟩
      case neg =>
       have hS2 := Lib.hid (show lifeD x (pre.map (·.1) ++ [y.1]) = (lifeD x (pre.map (·.1))) by rw [hS.out]; unfold lifeStep; rw [if_neg a2, if_neg a3])
       by_cases a56 : y.1.2.act = 5 ∨ y.1.2.act = 6
       case pos =>
        have hlook := look_hit DK2.out y.1.2.act 137 Hok.out.act (fun z => a56.elim (fun h => by rw [h]; exact does5 L z) (fun h => by rw [h]; exact does6 L z))
        have hGL := Lib.hid (HG.out.step y.1 (fun rest => by rw [hG3.out, if_neg a2, if_neg a3, if_pos a56, hS2.out]))
        clear a2 a3 a56
        gi_wp2_with (refine ⟨trivial, ?_⟩; gi_at_call 137; refine (callsIn_wide.2 (keep_any _ _ _ y.1.2 rfl)).mono ?_; rintro e w' ⟨rfl, hb'⟩; have hM' := (MK2.out.alloc (.cells #[.func (.func 137) #[.pointer (some ⟨L, 0, none⟩)] #[]] 139)).kept (grown_below hb') (by simp); have hg' := grown_weak (M := M) (grown_below hb'))
        obtain ⟨f1, f2, f3, f4, f5⟩ := FIN.out _ (grown_mix (G2.out.trans (World.grownBy_alloc V2 _ none)) hg')
        exact ⟨f1, f2, f3, ⟨f4, by rw [List.map_append]; have := There.mono (m := (pre ++ [y]).length + 1) hM' (by simp); rw [← hS2.out] at this; exact this⟩, by rw [List.map_append]; exact hGL.out, f5⟩
       case neg =>
        have hlook := look_miss DK2.out y.1.2.act Hok.out.act (does_none L _ a2 a3 (fun h => a56 (.inl h)) (fun h => a56 (.inr h)))
        have hD := Lib.hid (HG.out.dies y.1 none (fun rest => by rw [hG3.out, if_neg a2, if_neg a3, if_neg a56]))
        clear a2 a3 a56
        gi_wp2
        refine ⟨(fun f hf => by cases hf), ?_⟩
        gi_wp2
        obtain ⟨f1, f2, f3, f4, f5⟩ := FIN.out _ (grown_weak (G2.out.trans (World.grownBy_alloc V2 (.cells #[.nilFunc] 139) none)))
        exact ⟨f1, .inr ⟨rfl, by rw [List.map_append]; exact hD.out, f3.1.1, f3.1.2⟩, f5⟩
 case done =>
  rintro D ys V hD hys ⟨⟨⟨qT, qI⟩, qL, qX, qC⟩, ⟨qD, qM⟩, hG, hB3⟩ hK
  have cT := qT.cell
  have fT := qT.frozen
  have cI := qI.cell
  have fI := qI.frozen
  have hV : idleGo x (life0 x) (behindOf rs k) = none := by
   have := hG []
   rw [List.append_nil, hys] at this
   exact this
  have Hv := Lib.hid hV
  clear hV
  gi_wp2
  have hK' : ((V.setCell ⟨w.heap.size, 0, none⟩ (.int .i64 0)).setCell ⟨w.heap.size + 1, 0, none⟩ (.bool false)).heap[D]? = some (.deferred (some [])) := (Below.heap_setCell _ _ _ D (by simp; omega)).trans ((Below.heap_setCell _ _ _ D (by simp; omega)).trans hK)
  have qT2 := Boxed.other (qT.set (.int .i64 0)) (B' := w.heap.size + 1) (by omega) (.bool false)
  have qI2 := Boxed.set (.bool false) (Boxed.other qI (B' := w.heap.size) (by omega) (.int .i64 0))
  have hc4 := (qT2.kept (grownBy_putObj' _ D (.deferred none)) (by simp; omega)).cell
  have hc5 := (qI2.kept (grownBy_putObj' _ D (.deferred none)) (by simp; omega)).cell
  have hB4 := (hB3.setCell (p := ⟨w.heap.size, 0, none⟩) (by simp) (.int .i64 0)).setCell (p := ⟨w.heap.size + 1, 0, none⟩) (by simp) (.bool false)
  refine ⟨by simp, .inl ⟨_, _, rfl, run_takeDeferred hK', ?_⟩⟩
  exact ⟨_, by simp [results, Tryz.f33, go_sem, hc4, hc5]; rfl, by rw [Hv.out]; rfl, hB4.trans (belowK_b (w := w) (Nat.le_refl _) _ D _ _ (by omega) hK' rfl rfl)⟩
 case stop =>
  rintro D d pre V hD hp ⟨⟨rfl, i, hE, qT, qI⟩ | ⟨rfl, hE, qT, qI⟩, hB3⟩ hK
  · have cT := qT.cell
    have cI := qI.cell
    have hV : idleGo x (life0 x) (behindOf rs k) = some i := by
     obtain ⟨t, ht⟩ := hp
     have := hE t
     rwa [ht] at this
    have Hv := Lib.hid hV
    clear hV
    gi_wp2
    have hc4 := (qT.kept (grownBy_putObj' _ D (.deferred none)) (by simp; omega)).cell
    have hc5 := (qI.kept (grownBy_putObj' _ D (.deferred none)) (by simp; omega)).cell
    refine ⟨by simp, .inl ⟨_, _, rfl, run_takeDeferred hK, ?_⟩⟩
    exact ⟨_, by simp [results, Tryz.f33, go_sem, hc4, hc5]; rfl, by rw [Hv.out]; rfl, hB3.trans (belowK_b (w := w) (Nat.le_refl _) _ D _ _ (by omega) hK rfl rfl)⟩
  · have cT := qT.cell
    have fT := qT.frozen
    have cI := qI.cell
    have fI := qI.frozen
    have hV : idleGo x (life0 x) (behindOf rs k) = none := by
     obtain ⟨t, ht⟩ := hp
     have := hE t
     rwa [ht] at this
    have Hv := Lib.hid hV
    clear hV
    gi_wp2
    have hK' : ((V.setCell ⟨w.heap.size, 0, none⟩ (.int .i64 0)).setCell ⟨w.heap.size + 1, 0, none⟩ (.bool false)).heap[D]? = some (.deferred (some [])) := (Below.heap_setCell _ _ _ D (by simp; omega)).trans ((Below.heap_setCell _ _ _ D (by simp; omega)).trans hK)
    have qT2 := Boxed.other (qT.set (.int .i64 0)) (B' := w.heap.size + 1) (by omega) (.bool false)
    have qI2 := Boxed.set (.bool false) (Boxed.other qI (B' := w.heap.size) (by omega) (.int .i64 0))
    have hc4 := (qT2.kept (grownBy_putObj' _ D (.deferred none)) (by simp; omega)).cell
    have hc5 := (qI2.kept (grownBy_putObj' _ D (.deferred none)) (by simp; omega)).cell
    have hB4 := (hB3.setCell (p := ⟨w.heap.size, 0, none⟩) (by simp) (.int .i64 0)).setCell (p := ⟨w.heap.size + 1, 0, none⟩) (by simp) (.bool false)
    refine ⟨by simp, .inl ⟨_, _, rfl, run_takeDeferred hK', ?_⟩⟩
    exact ⟨_, by simp [results, Tryz.f33, go_sem, hc4, hc5]; rfl, by rw [Hv.out]; rfl, hB4.trans (belowK_b (w := w) (Nat.le_refl _) _ D _ _ (by omega) hK' rfl rfl)⟩
set_option maxRecDepth 100000 in
set_option maxHeartbeats 4000000 in
theorem idle_in (A : Option Addr) (n c B k : Nat) (rs : List R) (x : R) (w : World) (h : Recs w B A n rs) (hB : B ≤ w.heap.size) (hn : n < maxLen) (hk : k < n) (hx : rs[k]? = some x) (h1 : (x.act != 1) = false) (hk1 : (x.kind != 1) = false) :
  CallsIn Fence.wide 7 Tryz.prog 33 #[.slice A n c, .int .i64 k] w fun e W' => e = .returned (.tuple #[.int .i64 (((idleGo x (life0 x) (behindOf rs k)).getD 0 : Nat) : Int), .bool (idleGo x (life0 x) (behindOf rs k)).isSome]) ∧ Below w.heap.size w W' := by
 have hn' := hn
 unfold maxLen at hn'
 obtain ⟨b, o, x', rfl, hbB, hx', hat, hxok⟩ := h.get hk
 obtain rfl : x = x' := by rw [hx] at hx'; simpa using hx'
 have hb1 : b < w.heap.size := by omega
 have c1 := hat.c1
 have c4 := hat.c4
 have c5 := hat.c5
 have c2 := hat.c2
 have c3 := hat.c3
 have hb2 : b < w.heap.size + 1 := by omega
 have hb3 : b < w.heap.size + 1 + 1 := by omega
 have hkn : ¬ (n : Int) ≤ k := by omega
 have hk0 : ¬ (k : Int) < 0 := by omega
 refine callsIn_of_wp_marks Tryz.func33 rfl trivial ?_ rfl
 simp only [Tryz.ntmps33, List.size_toArray, List.length_cons, List.length_nil, Nat.reduceAdd, Nat.reduceSub, Array.replicate_succ, Array.replicate_zero, List.push_toArray, List.append_toArray, List.nil_append, List.cons_append]
 have hd1 : decide ((k : Int) < 0) = false := by simp
 have hd2 : decide (n ≤ k) = false := by simp; omega
 gi_wp2
 refine wideScope ?_
 gi_wp2_with (first | refine wideLabel ?_)
 refine wpIn_wide.2 ?_
 have hB0 := ((Below.refl w.heap.size w).alloc (Nat.le_refl _) (.cells #[.int .i64 0] 3)).alloc (by simp) (.cells #[.bool false] 4)
 have bT := (Boxed.new w 3 (.int .i64 0)).alloc (.cells #[.bool false] 4)
 have bI := Boxed.new (w.alloc (.cells #[.int .i64 0] 3)) 4 (.bool false)
 have hsz : ((w.alloc (.cells #[.int .i64 0] 3)).alloc (.cells #[.bool false] 4)).heap.size = w.heap.size + 2 := by simp
 simp only [World.size_alloc] at bI
 obtain ⟨W, hW⟩ : ∃ W, (w.alloc (.cells #[.int .i64 0] 3)).alloc (.cells #[.bool false] 4) = W := ⟨_, rfl⟩
 rw [hW] at hB0 bT bI hsz ⊢
 clear hW c1 c2 c3 c4 c5 hat
 have h0 := h.below hB0 hB (Nat.le_refl _)
 obtain ⟨b', o', x', e1, _, e2, hx2, _⟩ := h0.get hk
 cases e1
 obtain rfl : x = x' := by rw [hx] at e2; simpa using e2
 have c4 := hx2.c4
 have c2 := hx2.c2
 have c3 := hx2.c3
 clear e2 hx2
 rename_i K hK _ _
 have HK := Lib.hid hK
 clear hK
 have hrest : ∀ (P L M : Nat) (W' : World) (hP : W.heap.size ≤ P) (hL : W.heap.size ≤ L) (hM : W.heap.size ≤ M) (hLife : LifeAt W' P L M x.ino) (hThere : There W' M 1 (life0 x)) (hBW : Below W.heap.size W W') (u12 u13 u14 u15 u16 u17 u18 u19 u20 u21 u22 u23 u24 u25 u26 u27 u28 u29 u30 u31 u32 u33 u34 u35 u36 u37 u38 u39 u40 u41 u42 u43 u44 u45 u46 u47 u48 u49 u50 u51 u52 u53 u54 u55 u56 : Value), K { tmps := #[Value.slice (some ⟨b, o, none⟩) n c, .int .i64 k, undef, undef, .pointer (some ⟨w.heap.size, 0, none⟩), .pointer (some ⟨w.heap.size + 1, 0, none⟩), .pointer (some ⟨P, 0, none⟩), undef, undef, undef, undef, undef, u12, u13, u14, u15, u16, u17, u18, u19, u20, u21, u22, u23, u24, u25, u26, u27, u28, u29, u30, u31, u32, u33, u34, u35, u36, u37, u38, u39, u40, u41, u42, u43, u44, u45, u46, u47, u48, u49, u50, u51, u52, u53, u54, u55, u56, undef, undef, undef, undef, undef, undef, undef, undef, undef, undef, undef, undef, undef, undef, undef, undef, undef, undef, undef, undef, undef, undef, undef, undef, undef, undef, undef, undef, undef, undef, undef, undef, undef, undef, undef, undef, undef, undef, undef, undef, undef, undef, undef, undef, undef, undef, undef, undef, undef, undef, undef, undef, undef, undef, undef, undef, undef, undef, undef, undef, undef, undef, undef, undef, undef, undef, undef, undef, undef, undef, undef, undef, undef], defers := [] } W' := by
  rintro P L M W1 hP hL hM hLife hThere hBW u12 u13 u14 u15 u16 u17 u18 u19 u20 u21 u22 u23 u24 u25 u26 u27 u28 u29 u30 u31 u32 u33 u34 u35 u36 u37 u38 u39 u40 u41 u42 u43 u44 u45 u46 u47 u48 u49 u50 u51 u52 u53 u54 u55 u56
  exact HK.out _ _ (idle_rest n c B k b o rs x w W hB hn hk hbB hsz bI bT hB0 h0 P L M W1 hP hL hM hLife hThere hBW u12 u13 u14 u15 u16 u17 u18 u19 u20 u21 u22 u23 u24 u25 u26 u27 u28 u29 u30 u31 u32 u33 u34 u35 u36 u37 u38 u39 u40 u41 u42 u43 u44 u45 u46 u47 u48 u49 u50 u51 u52 u53 u54 u55 u56)
 have hmm := @run_makeMap Tryz.prog
 have oA : There (W.alloc (.map #[] 0)).drew W.heap.size 0 (.map []) := World.ownsMap_made W Tryz.prog 130 unitElem
 have oB : There ((W.alloc (.cells #[.pointer none] 128)).alloc (.map #[] 0)).drew (W.alloc (.cells #[.pointer none] 128)).heap.size 0 (.map []) := World.ownsMap_made (W.alloc (.cells #[.pointer none] 128)) Tryz.prog 130 unitElem
 have oC : There ((W.alloc (.map #[] 0)).alloc (.cells #[.pointer none] 128)).drew W.heap.size 0 (.map []) := (World.ownsMap_made W Tryz.prog 130 unitElem).alloc _
 rw [World.size_alloc] at oB
 rw [hsz] at oA oB oC
 obtain ⟨wA, rA, mA, gA⟩ := World.ownsMap.update (t := 132) oA law48 Tryz.underlying132 (by unfold maxLen; omega) (x.keyOf_ hxok) (val := .agg #[]) unitElem_mk
 obtain ⟨wB, rB, mB, gB⟩ := World.ownsMap.update (t := 132) oB law48 Tryz.underlying132 (by unfold maxLen; omega) (x.keyOf_ hxok) (val := .agg #[]) unitElem_mk
 obtain ⟨wC, rC, mC, gC⟩ := World.ownsMap.update (t := 132) oC law48 Tryz.underlying132 (by unfold maxLen; omega) (x.keyOf_ hxok) (val := .agg #[]) unitElem_mk
 have hP1 : ((W.alloc (.cells #[.pointer none] 128)).alloc (.map #[] 0)).drew.heap[w.heap.size + 2]? = some (.cells #[.pointer none] 128) := by
  rw [← hsz]; exact (Below.heap_alloc _ _ _ (by simp)).trans (World.alloc_heap_new W _)
 have hP2 : ((W.alloc (.map #[] 0)).alloc (.cells #[.pointer none] 128)).drew.heap[w.heap.size + 3]? = some (.cells #[.pointer none] 128) := by
  rw [show w.heap.size + 3 = (W.alloc (.map #[] 0)).heap.size by simp; omega]; exact World.alloc_heap_new _ _
 have qB : Boxed wB (w.heap.size + 2) 128 (.pointer none) := (gB.block _ (Array.getElem?_eq_some_iff.1 hP1).1 (by simp)).trans hP1
 have qC : Boxed wC (w.heap.size + 3) 128 (.pointer none) := (gC.block _ (Array.getElem?_eq_some_iff.1 hP2).1 (by simp)).trans hP2
 have cB := qB.cell
 have cC := qC.cell
 have fB := qB.frozen
 have fC := qC.frozen
 have lB := qB.lt
 have lC := qC.lt
 have MA := Lib.hid mA
 have MB := Lib.hid mB
 have MC := Lib.hid mC
 have GA := Lib.hid gA
 have GB := Lib.hid gB
 have GC := Lib.hid gC
 clear mA mB mC gA gB gC oA oB oC

 have lowA : Below W.heap.size W wA := (show Below W.heap.size W (W.alloc (.map #[] 0)).drew from bdn ((Below.refl _ W).alloc (Nat.le_refl _) _) 1).grown GA.out (by simp) (by rintro j ⟨rfl⟩; omega)
 have lowB : Below W.heap.size W wB := (show Below W.heap.size W ((W.alloc (.cells #[.pointer none] 128)).alloc (.map #[] 0)).drew from bdn (((Below.refl _ W).alloc (Nat.le_refl _) _).alloc (by simp) _) 1).grown GB.out (by simp; omega) (by rintro j ⟨rfl⟩; omega)
 have lowC : Below W.heap.size W wC := (show Below W.heap.size W ((W.alloc (.map #[] 0)).alloc (.cells #[.pointer none] 128)).drew from bdn (((Below.refl _ W).alloc (Nat.le_refl _) _).alloc (by simp) _) 1).grown GC.out (by simp; omega) (by rintro j ⟨rfl⟩; omega)
 have sA := lowA.size
 have sB := lowB.size
 have sC := lowC.size
 have low1 : Below W.heap.size W (W.alloc (.map #[] 0)).drew := bdn ((Below.refl _ W).alloc (Nat.le_refl _) _) 1
 have low2 : Below W.heap.size W (W.alloc (.cells #[.pointer none] 128)).drew := bdn ((Below.refl _ W).alloc (Nat.le_refl _) _) 1
 have low3 : Below W.heap.size W ((W.alloc (.map #[] 0)).alloc (.cells #[.pointer none] 128)).drew := bdn (((Below.refl _ W).alloc (Nat.le_refl _) _).alloc (by simp) _) 1
 have low4 : Below W.heap.size W ((W.alloc (.cells #[.pointer none] 128)).alloc (.map #[] 0)).drew := bdn (((Below.refl _ W).alloc (Nat.le_refl _) _).alloc (by simp) _) 1
 have hbW : b < W.heap.size := by omega
 have HS := Lib.hid (show ∀ W', Below W.heap.size W W' → W'.cell? ⟨b, o + k * 12 + 4, none⟩ = some (.int .u32 x.ino) ∧ W'.cell? ⟨b, o + k * 12 + 2, none⟩ = some (.int .u32 x.dir) ∧ W'.cell? ⟨b, o + k * 12 + 3, none⟩ = some (.string x.name) from fun W' hb => by
  have hz : ∀ j, W'.cell? ⟨b, j, none⟩ = W.cell? ⟨b, j, none⟩ := fun j => World.cell?_of_block (hb.block b hbW)
  exact ⟨(hz _).trans c4, (hz _).trans c2, (hz _).trans c3⟩)
 have LA := Lib.hid lowA
 have LB := Lib.hid lowB
 have LC := Lib.hid lowC
 have L1 := Lib.hid low1
 have L2 := Lib.hid low2
 have L3 := Lib.hid low3
 have L4 := Lib.hid low4
 clear HK lowA lowB lowC low1 low2 low3 low4
 go_region_held3 (fun w' => w'.cell? ⟨b, o + k * 12 + 4, none⟩ = some (.int .u32 x.ino) ∧ w'.cell? ⟨b, o + k * 12 + 2, none⟩ = some (.int .u32 x.dir) ∧ w'.cell? ⟨b, o + k * 12 + 3, none⟩ = some (.string x.name)) (first | exact ⟨c4, c2, c3⟩ | exact HS.out _ LA.out | exact HS.out _ LB.out | exact HS.out _ LC.out | exact HS.out _ L1.out | exact HS.out _ L2.out | exact HS.out _ L3.out | exact HS.out _ L4.out | exact HS.out _ (LA.out.alloc sA _) | exact HS.out _ (LB.out.alloc sB _) | exact HS.out _ (LC.out.alloc sC _) | exact HS.out _ ((LA.out.alloc sA _).alloc (by simp; omega) _) | exact HS.out _ ((LB.out.setCell (p := ⟨w.heap.size + 2, 0, none⟩) (by simp; omega) _).alloc (by simp; omega) _) | exact HS.out _ ((LC.out.setCell (p := ⟨w.heap.size + 2 + 1, 0, none⟩) (by simp; omega) _).alloc (by simp; omega) _)) (fail)
 · refine hrest (wA.heap.size + 1) wA.heap.size (w.heap.size + 2) _ (by omega) (by omega) (by omega) (life_new1 _ _ _) ((MA.out.alloc _).alloc _) ?_ _ _ _ _ _ _ _ _ _ _ _ _ _ _ _ _ _ _ _ _ _ _ _ _ _ _ _ _ _ _ _ _ _ _ _ _ _ _ _ _ _ _ _ _ _
   exact (LA.out.alloc sA _).alloc (by simp; omega) _
 · refine hrest wA.heap.size (wA.heap.size + 1) (w.heap.size + 2) _ (by omega) (by omega) (by omega) (life_new2 _ _ _) ((MA.out.alloc _).alloc _) ?_ _ _ _ _ _ _ _ _ _ _ _ _ _ _ _ _ _ _ _ _ _ _ _ _ _ _ _ _ _ _ _ _ _ _ _ _ _ _ _ _ _ _ _ _ _
   exact (LA.out.alloc sA _).alloc (by simp; omega) _
 · refine hrest (w.heap.size + 2 + 1) wC.heap.size (w.heap.size + 2) _ (by omega) (by omega) (by omega) (life_new3 qC _ _) ((MC.out.kept (grownBy_setCell' _ _ _) (by simp)).alloc _) ?_ _ _ _ _ _ _ _ _ _ _ _ _ _ _ _ _ _ _ _ _ _ _ _ _ _ _ _ _ _ _ _ _ _ _ _ _ _ _ _ _ _ _ _ _ _
   exact (LC.out.setCell (p := ⟨w.heap.size + 2 + 1, 0, none⟩) (by simp; omega) _).alloc (by simp; omega) _
 · refine hrest (w.heap.size + 2) wB.heap.size (w.heap.size + 2 + 1) _ (by omega) (by omega) (by omega) (life_new3 qB _ _) ((MB.out.kept (grownBy_setCell' _ _ _) (by simp)).alloc _) ?_ _ _ _ _ _ _ _ _ _ _ _ _ _ _ _ _ _ _ _ _ _ _ _ _ _ _ _ _ _ _ _ _ _ _ _ _ _ _ _ _ _ _ _ _ _
   exact (LB.out.setCell (p := ⟨w.heap.size + 2, 0, none⟩) (by simp; omega) _).alloc (by simp; omega) _
set_option maxRecDepth 100000 in
set_option maxHeartbeats 4000000 in
theorem idle_any (A : Option Addr) (n c B k : Nat) (rs : List R) (w : World) (h : Recs w B A n rs) (hB : B ≤ w.heap.size) (hn : n < maxLen) (hk : k < n) :
  Calls Tryz.prog 33 #[.slice A n c, .int .i64 k] w fun e W' => e = .returned (.tuple #[.int .i64 (((idleB rs k).getD 0 : Nat) : Int), .bool (idleB rs k).isSome]) ∧ Below w.heap.size w W' := by
 obtain ⟨b, o, x, rfl, hbB, hx, hat, hxok⟩ := h.get hk
 by_cases h1 : x.act = 1 ∧ x.kind = 1
 · have := callsIn_wide.1 (idle_in (some ⟨b, o, none⟩) n c B k rs x w h hB hn hk hx (by simpa using h1.1) (by simpa using h1.2))
   refine this.mono ?_
   rintro e W' ⟨rfl, hb⟩
   have hv : idleB rs k = idleGo x (life0 x) (behindOf rs k) := by unfold idleB; rw [hx]; simp only [h1, and_self, if_true]
   rw [hv]
   exact ⟨rfl, hb⟩
 · have hv : idleB rs k = none := by unfold idleB; rw [hx]; simp only [h1, if_false]
   rw [hv]
   have hn' := hn
   unfold maxLen at hn'
   have hb1 : b < w.heap.size := by omega
   have c1 := hat.c1
   have c5 := hat.c5
   have hb2 : b < w.heap.size + 1 := by omega
   have hb3 : b < w.heap.size + 1 + 1 := by omega
   have hkn : ¬ (n : Int) ≤ k := by omega
   have hk0 : ¬ (k : Int) < 0 := by omega
   have hd1 : decide ((k : Int) < 0) = false := by simp
   have hd2 : decide (n ≤ k) = false := by simp; omega
   by_cases ha : x.act = 1
   · have ha' : (x.act != 1) = false := by simpa using ha
     have hk1 : (x.kind != 1) = true := by simpa [ha] using h1
     clear h1 hv hx ha
     go_enter Tryz.func33, Tryz.ntmps33
     go_wp2
     refine wp_scope_straight ?_
     go_wp2
     rw [Exit.noGoto_ret]
     refine bodyPost_ret (v := .tuple #[.int .i64 0, .bool false]) (by simp [results, Tryz.f33, go_sem]) rfl ?_
     exact ⟨rfl, ((Below.refl _ w).alloc (Nat.le_refl _) _).alloc (by simp) _⟩
   · have ha' : (x.act != 1) = true := by simpa using ha
     clear h1 hv hx ha
     go_enter Tryz.func33, Tryz.ntmps33
     go_wp2
     refine wp_scope_straight ?_
     go_wp2
     rw [Exit.noGoto_ret]
     refine bodyPost_ret (v := .tuple #[.int .i64 0, .bool false]) (by simp [results, Tryz.f33, go_sem]) rfl ?_
     exact ⟨rfl, ((Below.refl _ w).alloc (Nat.le_refl _) _).alloc (by simp) _⟩
end Go.Proofs.YtogljgiefmfafaaGreat.A
