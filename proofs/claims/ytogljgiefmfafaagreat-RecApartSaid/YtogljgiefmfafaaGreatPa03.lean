/- Look. -/
import Derived.Test.YtogljgiefmfafaaGreatPa02
import Derived.Maps.RangeWalk
namespace Go.Proofs.YtogljgiefmfafaaGreat
open Go.RowKit Go.Maps
abbrev Ph := Value → World → Prop
def phi (l : List Ph) (i : Nat) (v : Value) (W : World) : Prop := (l.getD i (fun _ _ => True)) v W
def isV (x : Value) : Ph := fun v _ => v = x
def isSl (xs : List Value) : Ph := fun v W => ∃ A c, v = .slice A xs.length c ∧ SliceAt W A xs
def isQ (c : Prop) (r : Int) : Ph := fun v W => ∃ g lb, v = .func (.func g) #[] lb ∧ (c → Question W (.func (.func g) #[] lb) r)
def isAsk (n : Nat) (es : List Int) : Ph := fun v W => ∃ A c vs, v = .slice A n c ∧ vs.length = n ∧ SliceAt W A vs ∧ Asked W vs es
def StaysP (p : Ph) : Prop := ∀ v W W', p v W → Below W.heap.size W W' → p v W'
theorem stays_V (x : Value) : StaysP (isV x) := fun _ _ _ h _ => h
theorem stays_Sl (xs : List Value) : StaysP (isSl xs) := fun _ _ _ ⟨A, c, h1, h2⟩ hb => ⟨A, c, h1, h2.below hb⟩
theorem stays_Q (c : Prop) (r : Int) : StaysP (isQ c r) := fun _ _ _ ⟨g, lb, h1, h2⟩ hb => ⟨g, lb, h1, fun hc => (h2 hc).later hb⟩
theorem isQ.of {W : World} {v : Value} {r : Int} (h : Question W v r) : isQ True r v W := by
  obtain ⟨g, lb, rfl, h1⟩ := h
  exact ⟨g, lb, rfl, fun _ => ⟨g, lb, rfl, h1⟩⟩
theorem Asked.later {w w' : World} {vs : List Value} {es : List Int} (h : Asked w vs es) (hb : Below w.heap.size w w') : Asked w' vs es :=
  ⟨h.1, fun j e he h0 => by obtain ⟨v, h1, h2⟩ := h.2 j e he h0; exact ⟨v, h1, h2.later hb⟩⟩
theorem stays_Ask (n : Nat) (es : List Int) : StaysP (isAsk n es) := fun _ _ _ ⟨A, c, vs, h1, h2, h3, h4⟩ hb => ⟨A, c, vs, h1, h2, h3.below hb, h4.later hb⟩
theorem stays_phi {l : List Ph} (h : ∀ p ∈ l, StaysP p) (i : Nat) (v : Value) (W W' : World) (hp : phi l i v W) (hb : Below W.heap.size W W') : phi l i v W' := by
  unfold phi at *
  rw [List.getD_eq_getElem?_getD] at *
  cases hi : l[i]? with
  | none => trivial
  | some p => rw [hi] at hp; exact h p (List.mem_of_getElem? hi) v W W' hp hb
/-- Look's questions. -/
def isAskL (t : PT) (dir : Int) (s : ByteArray) (f : Value) : Ph := fun v W => ∃ A c v1 v2 v3, v = .slice A 4 c ∧ SliceAt W A [v1, v2, v3, f] ∧ Question W v1 (namesE [s]) ∧ Question W v2 (thereE t [dir]) ∧ ((∀ i ∈ [dir], (t.n i).isSome = true) → Question W v3 (dirsE t [dir]))
theorem stays_AskL (t : PT) (dir : Int) (s : ByteArray) (f : Value) : StaysP (isAskL t dir s f) := fun _ _ _ ⟨A, c, v1, v2, v3, h1, h2, h3, h4, h5⟩ hb => ⟨A, c, v1, v2, v3, h1, h2.below hb, h3.later hb, h4.later hb, fun h => (h5 h).later hb⟩
theorem eval_slot (a : Act) (k : Nat) : a.eval (.tmp k) = a.tmps[k]?.getD undef := by
  show a.tmps.getD k undef = _
  rw [Array.getD_eq_getD_getElem?]
theorem op_mk {ops : Array Oper} {a0 : Act} {w0 : World} {Φ : Nat → Value → World → Prop} {Q : Exit → Act → World → Prop} {i : Nat} {o : Oper} (hg : o.guard = none)
    (h : ∀ a W, Below w0.heap.size w0 W → (∀ k, (ops.toList.all fun o => o.dst != some k) = true → a.tmps[k]?.getD undef = slot a0 k) →
      (∀ j d, (o.after.toList.any fun e => e.on == j && Region.binds .any e) = true → (ops[j]?.bind (·.dst)) = some d → Φ j (a.tmps[d]?.getD undef) W) →
      ∀ K : Act → World → Prop, (∀ v W', Below W.heap.size W W' → Φ i v W' → K (a.put o.dst v) W') → o.wp Tryz.prog a W K Q) : OpDoes ops a0 w0 Φ Q i o := by
  refine ⟨hg, fun a W h1 h2 h3 K hK => h a W h1 (fun k hk => (eval_slot a k).symm.trans (h2 k hk)) (fun j d hj hd => ?_) K hK⟩
  rw [List.any_eq_true] at hj
  obtain ⟨e, he, hb⟩ := hj
  simp only [Bool.and_eq_true, beq_iff_eq] at hb
  obtain ⟨rfl, hb⟩ := hb
  cases ho : ops[e.on]? with
  | none => simp [ho] at hd
  | some oe => rw [← eval_slot]; exact h3 e (by simpa using he) hb oe d ho (by simpa [ho] using hd)
theorem Asked.of (w : World) (vs : List Value) (es : List Int) (h1 : vs.length = es.length) (h2 : ∀ (j : Nat) (e : Int) (v : Value), es[j]? = some e → vs[j]? = some v → (∀ (i : Nat) (e' : Int), i < j → es[i]? = some e' → e' = 0) → Question w v e) : Asked w vs es :=
  ⟨h1, fun j e he h0 => by
    have hj := (List.getElem?_eq_some_iff.1 he).1
    exact ⟨vs[j], List.getElem?_eq_getElem (by omega), h2 j e _ he (List.getElem?_eq_getElem (by omega)) h0⟩⟩
theorem box_at {w W : World} {B : Nat} {v : Value} (hB : Below w.heap.size w W) (hc : w.cell? ⟨B, 0, none⟩ = some v) : W.cell? ⟨B, 0, none⟩ = some v := cell_below hB (World.block_lt_of_cell? w _ hc) hc
theorem box_new (w : World) (v : Value) (T : TypeId) : (w.alloc (.cells #[v] T)).cell? ⟨w.heap.size, 0, none⟩ = some v := by simp [World.cell?_alloc_new]
theorem box_old {w : World} {B : Nat} {v : Value} (o : Obj) (hc : w.cell? ⟨B, 0, none⟩ = some v) : (w.alloc o).cell? ⟨B, 0, none⟩ = some v := by
  rw [World.cell?_alloc_lt _ _ _ (World.block_lt_of_cell? w _ hc)]; exact hc
section
variable {F : Nat → Prop} {P N : Nat} {y : Lay} {t : PT}
/-- The entry's inode, and what is answered. -/
def lookP (t : PT) (dir : Int) (s : ByteArray) : Int × Int :=
  if firstE [namesE [s], thereE t [dir], dirsE t [dir]] ≠ 0 then (0, firstE [namesE [s], thereE t [dir], dirsE t [dir]])
  else match t.n dir with
    | some x => ((x.l s.data.toList).getD 0, if (x.l s.data.toList).getD 0 = 0 then 3 else 0)
    | none => (0, 0)
/-- Behind the questions: what stands in the box, what was answered. -/
def LookPost (t : PT) (dir : Int) (s : ByteArray) (W : World) (B : Nat) (e : Ending) (W' : World) : Prop :=
  ∃ x v : Int, e = .returned (.int .i64 x) ∧ lookP t dir s = (v, x) ∧ W.grownBy W' (some B) ∧ ∃ v0, W'.heap[B]? = some (.cells #[v0] 37 (0, 0)) ∧ v0 = .int .u32 v
theorem there_one {t : PT} {i : Int} (h : thereE t [i] = 0) : (t.n i).isSome = true := by
  unfold thereE at h
  cases hx : t.n i with
  | none => simp [hx] at h
  | some x => rfl
theorem pgrown_below {a b : World} (h : Below a.heap.size a b) (r : Option Nat) : a.grownBy b r := ⟨h.os, h.tape, h.output, h.size, fun i hi _ => h.block i hi⟩
set_option maxHeartbeats 1000000 in
theorem look_check (t : PT) (dir : Int) (s : ByteArray) (P : Nat) (A : Option Addr) (v1 v2 v3 v4 : Value) (c : Nat) (W : World) (B : Nat) (hc : W.heap[B]? = some (.cells #[.int .u32 0] 37 (0, 0))) (hA : SliceAt W A [v1, v2, v3, v4])
    (q1 : Question W v1 (namesE [s])) (q2 : Question W v2 (thereE t [dir])) (q3 : (∀ i ∈ [dir], (t.n i).isSome = true) → Question W v3 (dirsE t [dir]))
    (q4 : ∀ x, t.n dir = some x → Does W v4 (Puts B ((x.l s.data.toList).getD 0) (if (x.l s.data.toList).getD 0 = 0 then 3 else 0))) :
    Calls Tryz.prog 47 #[.pointer (some ⟨P, 0, none⟩), .slice A 4 c] W (LookPost t dir s W B) := by
  by_cases h : firstE [namesE [s], thereE t [dir], dirsE t [dir]] = 0
  · obtain ⟨z1, z2, z3⟩ : namesE [s] = 0 ∧ thereE t [dir] = 0 ∧ dirsE t [dir] = 0 := by
      unfold firstE at h; split at h
      · rename_i a; unfold firstE at h; split at h
        · rename_i b; unfold firstE at h; split at h
          · rename_i c; exact ⟨a, b, c⟩
          · exact ⟨a, b, h⟩
        · rename_i b; exact absurd h b
      · rename_i a; exact absurd h a
    rw [z1] at q1
    rw [z2] at q2
    rw [z3] at q3
    have hi := there_one z2
    obtain ⟨x, hx⟩ := Option.isSome_iff_exists.1 hi
    have hl : lookP t dir s = ((x.l s.data.toList).getD 0, if (x.l s.data.toList).getD 0 = 0 then 3 else 0) := by
      unfold lookP; rw [if_neg (by rw [h]; simp), hx]
    have q3' := q3 (by simpa using hi)
    refine (t_check ⟨P, 0, none⟩ A [v1, v2, v3, v4] c 3 _ W (by simp [maxLen]) hA (fun j v hj hv => ?_) v4 rfl (q4 x hx) (fun _ _ _ _ => .inr rfl)).mono ?_
    · match j, hj with
      | 0, _ => simp at hv; subst hv; exact q1
      | 1, _ => simp at hv; subst hv; exact q2
      | 2, _ => simp at hv; subst hv; exact q3'
    · rintro e W' ⟨z, W1, rfl, hb, hz, hg, v0, hc2, hc3⟩
      exact ⟨z, _, rfl, by rw [hl, hz], pgrown_trans (pgrown_below hb _) hg, v0, hc2, hc3⟩
  · refine (t_checkL ⟨P, 0, none⟩ A [v1, v2, v3, v4] 4 c [namesE [s], thereE t [dir], dirsE t [dir], 0] _ rfl W rfl (by simp [maxLen]) hA (Asked.of W _ _ rfl fun j e v he hv h0 => ?_) (by simp)).mono ?_
    · match j with
      | 0 => simp at he hv; subst he; subst hv; exact q1
      | 1 => simp at he hv; subst he; subst hv; exact q2
      | 2 =>
        simp at he hv; subst he; subst hv
        refine q3 ?_
        have := h0 1 (thereE t [dir]) (by omega) rfl
        simpa using there_one this
      | 3 =>
        exfalso
        refine h ?_
        have z1 := h0 0 (namesE [s]) (by omega) rfl
        have z2 := h0 1 (thereE t [dir]) (by omega) rfl
        have z3 := h0 2 (dirsE t [dir]) (by omega) rfl
        simp [firstE, z1, z2, z3]
      | j + 4 => simp at he
    · rintro e W' ⟨rfl, hb⟩
      have hl : lookP t dir s = (0, firstE [namesE [s], thereE t [dir], dirsE t [dir]]) := by unfold lookP; rw [if_pos h]
      have he : firstE [namesE [s], thereE t [dir], dirsE t [dir], 0] = firstE [namesE [s], thereE t [dir], dirsE t [dir]] := by simp [firstE]
      exact ⟨_, 0, rfl, by rw [hl, he], pgrown_below hb _, _, (hb.block _ (Array.getElem?_eq_some_iff.1 hc).1).trans hc, rfl⟩
theorem below_grown {a b c : World} {B : Nat} (h : Below a.heap.size a b) (hg : b.grownBy c (some B)) (hB : a.heap.size ≤ B) : Below a.heap.size a c :=
  ⟨hg.os.trans h.os, hg.tape.trans h.tape, hg.output.trans h.output, Nat.le_trans h.size hg.size, fun i hi => (hg.block i (Nat.lt_of_lt_of_le hi h.size) (fun e => by injection e with e; omega)).trans (h.block i hi)⟩
set_option maxRecDepth 100000 in
set_option maxHeartbeats 4000000 in
theorem t_look (dir : Int) (s : ByteArray) (r1 r2 : Int) (hr : lookP t dir s = (r1, r2)) (w : World) (h : TreeM w F P N y t) (hd : U32 dir) (hs : s.size ≤ maxLen) :
    Calls Tryz.prog 133 #[.pointer (some ⟨P, 0, none⟩), .int .u32 dir, .string s] w fun e w' => e = .returned (.tuple #[.int .u32 r1, .int .i64 r2]) ∧ Below w.heap.size w w' := by
  go_enter Tryz.func133, Tryz.ntmps133
  go_wp2
  obtain ⟨w0, hw0⟩ : ∃ w0, (((w.alloc (.cells #[.pointer (some ⟨P, 0, none⟩)] 26)).alloc (.cells #[.int .u32 dir] 37)).alloc (.cells #[.string s] 9)).alloc (.cells #[.int .u32 0] 37) = w0 := ⟨_, rfl⟩
  rw [hw0]
  have b3 : w0.cell? ⟨w.heap.size, 0, none⟩ = some (.pointer (some ⟨P, 0, none⟩)) := by rw [← hw0]; exact box_old _ (box_old _ (box_old _ (box_new _ _ _)))
  have b4 : w0.cell? ⟨w.heap.size + 1, 0, none⟩ = some (.int .u32 dir) := by
    rw [← hw0, show w.heap.size + 1 = (w.alloc (.cells #[.pointer (some ⟨P, 0, none⟩)] 26)).heap.size by simp]; exact box_old _ (box_old _ (box_new _ _ _))
  have b5 : w0.cell? ⟨w.heap.size + 1 + 1, 0, none⟩ = some (.string s) := by
    rw [← hw0, show w.heap.size + 1 + 1 = ((w.alloc (.cells #[.pointer (some ⟨P, 0, none⟩)] 26)).alloc (.cells #[.int .u32 dir] 37)).heap.size by simp]; exact box_old _ (box_new _ _ _)
  have h6 : w0.heap[w.heap.size + 1 + 1 + 1]? = some (.cells #[.int .u32 0] 37 (0, 0)) := by
    rw [← hw0, show w.heap.size + 1 + 1 + 1 = (((w.alloc (.cells #[.pointer (some ⟨P, 0, none⟩)] 26)).alloc (.cells #[.int .u32 dir] 37)).alloc (.cells #[.string s] 9)).heap.size by simp]; exact heap_alloc_new _ _
  have hsz : w0.heap.size = w.heap.size + 4 := by rw [← hw0]; simp
  have hBw : Below w.heap.size w w0 := by rw [← hw0]; exact ((((Below.refl _ _).alloc (Nat.le_refl _) _).alloc (by simp) _).alloc (by simp; omega) _).alloc (by simp; omega) _
  have hT : TreeM w0 F P N y t := h.below hBw
  clear hw0
  refine wp_region_front 14 (phi [isV (.pointer (some ⟨P, 0, none⟩)), isV (.string s), isSl [.string s], isQ True (namesE [s]), isV (.pointer (some ⟨P, 0, none⟩)), isV (.int .u32 dir), isSl [.int .u32 dir], isQ True (thereE t [dir]),
    isV (.pointer (some ⟨P, 0, none⟩)), isV (.int .u32 dir), isSl [.int .u32 dir], isQ (∀ i ∈ [dir], (t.n i).isSome = true) (dirsE t [dir]), isV (.func (.func 180) #[] #[.pointer (some ⟨w.heap.size, 0, none⟩), .pointer (some ⟨w.heap.size + 1, 0, none⟩), .pointer (some ⟨w.heap.size + 1 + 1, 0, none⟩), .pointer (some ⟨w.heap.size + 1 + 1 + 1, 0, none⟩)]),
    isAskL t dir s (.func (.func 180) #[] #[.pointer (some ⟨w.heap.size, 0, none⟩), .pointer (some ⟨w.heap.size + 1, 0, none⟩), .pointer (some ⟨w.heap.size + 1 + 1, 0, none⟩), .pointer (some ⟨w.heap.size + 1 + 1 + 1, 0, none⟩)])]) (by kernel_rfl) (by kernel_rfl) (by kernel_rfl) ?_ ?_ ?_
  · refine stays_phi ?_
    simp only [List.forall_mem_cons]
    exact ⟨stays_V _, stays_V _, stays_Sl _, stays_Q _ _, stays_V _, stays_V _, stays_Sl _, stays_Q _ _, stays_V _, stays_V _, stays_Sl _, stays_Q _ _, stays_V _, stays_AskL _ _ _ _, fun _ h => absurd h (by simp)⟩
  · refine ⟨?_, ?_, ?_, ?_, ?_, ?_, ?_, ?_, ?_, ?_, ?_, ?_, ?_, ?_, trivial⟩
    · refine op_mk rfl fun a W hB hp hq K hK => ?_
      have e3 : a.tmps[3]?.getD undef = .pointer (some ⟨w.heap.size, 0, none⟩) := hp 3 (by kernel_rfl)
      have c3 := box_at hB b3
      clear hp hq
      go_simp
      exact hK _ _ (Below.refl _ _) rfl
    · refine op_mk rfl fun a W hB hp hq K hK => ?_
      have e5 : a.tmps[5]?.getD undef = .pointer (some ⟨w.heap.size + 1 + 1, 0, none⟩) := hp 5 (by kernel_rfl)
      have c5 := box_at hB b5
      clear hp hq
      go_simp
      exact hK _ _ (Below.refl _ _) rfl
    · refine op_mk rfl fun a W hB hp hq K hK => ?_
      have e9 : a.tmps[9]?.getD undef = .string s := hq 1 9 (by kernel_rfl) (by kernel_rfl)
      clear hp hq
      go_simp
      exact hK _ _ ((Below.refl _ _).alloc (Nat.le_refl _) _) ⟨_, _, rfl, SliceAt.built _ _ _⟩
    · refine op_mk rfl fun a W hB hp hq K hK => ?_
      obtain ⟨A, c, e10, hA⟩ : isSl [.string s] (a.tmps[10]?.getD undef) W := hq 2 10 (by kernel_rfl) (by kernel_rfl)
      have HA := Lib.hid hA
      have HB := Lib.hid hB
      clear hp hq hA hB
      go_simp
      refine (t_names [s] A 1 c _ rfl W rfl (by simpa using hs) (by simp [maxLen]) HA.out).mono ?_
      rintro e w' ⟨v, rfl, hv, hb⟩
      exact hK _ _ hb (isQ.of hv)
    · refine op_mk rfl fun a W hB hp hq K hK => ?_
      have e3 : a.tmps[3]?.getD undef = .pointer (some ⟨w.heap.size, 0, none⟩) := hp 3 (by kernel_rfl)
      have c3 := box_at hB b3
      clear hp hq
      go_simp
      exact hK _ _ (Below.refl _ _) rfl
    · refine op_mk rfl fun a W hB hp hq K hK => ?_
      have e4 : a.tmps[4]?.getD undef = .pointer (some ⟨w.heap.size + 1, 0, none⟩) := hp 4 (by kernel_rfl)
      have c4 := box_at hB b4
      clear hp hq
      go_simp
      exact hK _ _ (Below.refl _ _) rfl
    · refine op_mk rfl fun a W hB hp hq K hK => ?_
      have e13 : a.tmps[13]?.getD undef = .int .u32 dir := hq 5 13 (by kernel_rfl) (by kernel_rfl)
      clear hp hq
      go_simp
      exact hK _ _ ((Below.refl _ _).alloc (Nat.le_refl _) _) ⟨_, _, rfl, SliceAt.built _ _ _⟩
    · refine op_mk rfl fun a W hB hp hq K hK => ?_
      have e12 : a.tmps[12]?.getD undef = .pointer (some ⟨P, 0, none⟩) := hq 4 12 (by kernel_rfl) (by kernel_rfl)
      obtain ⟨A, c, e14, hA⟩ : isSl [.int .u32 dir] (a.tmps[14]?.getD undef) W := hq 6 14 (by kernel_rfl) (by kernel_rfl)
      have HA := Lib.hid hA
      have HB := Lib.hid hB
      clear hp hq hA hB
      go_simp
      refine (t_there [dir] A 1 c _ rfl W (hT.below HB.out) rfl (by simpa using hd) (by simp [maxLen]) HA.out).mono ?_
      rintro e w' ⟨v, rfl, hv, hb⟩
      exact hK _ _ hb (isQ.of hv)
    · refine op_mk rfl fun a W hB hp hq K hK => ?_
      have e3 : a.tmps[3]?.getD undef = .pointer (some ⟨w.heap.size, 0, none⟩) := hp 3 (by kernel_rfl)
      have c3 := box_at hB b3
      clear hp hq
      go_simp
      exact hK _ _ (Below.refl _ _) rfl
    · refine op_mk rfl fun a W hB hp hq K hK => ?_
      have e4 : a.tmps[4]?.getD undef = .pointer (some ⟨w.heap.size + 1, 0, none⟩) := hp 4 (by kernel_rfl)
      have c4 := box_at hB b4
      clear hp hq
      go_simp
      exact hK _ _ (Below.refl _ _) rfl
    · refine op_mk rfl fun a W hB hp hq K hK => ?_
      have e17 : a.tmps[17]?.getD undef = .int .u32 dir := hq 9 17 (by kernel_rfl) (by kernel_rfl)
      clear hp hq
      go_simp
      exact hK _ _ ((Below.refl _ _).alloc (Nat.le_refl _) _) ⟨_, _, rfl, SliceAt.built _ _ _⟩
    · refine op_mk rfl fun a W hB hp hq K hK => ?_
      have e16 : a.tmps[16]?.getD undef = .pointer (some ⟨P, 0, none⟩) := hq 8 16 (by kernel_rfl) (by kernel_rfl)
      obtain ⟨A, c, e18, hA⟩ : isSl [.int .u32 dir] (a.tmps[18]?.getD undef) W := hq 10 18 (by kernel_rfl) (by kernel_rfl)
      have HA := Lib.hid hA
      have HB := Lib.hid hB
      clear hp hq hA hB
      go_simp
      refine (t_dirsI [dir] A 1 c _ rfl W (hT.below HB.out) rfl (by simp [maxLen]) HA.out).mono ?_
      rintro e w' ⟨g, lb, rfl, hv, hb⟩
      exact hK _ _ hb ⟨g, lb, rfl, hv⟩
    · refine op_mk rfl fun a W hB hp hq K hK => ?_
      have e3 : a.tmps[3]?.getD undef = .pointer (some ⟨w.heap.size, 0, none⟩) := hp 3 (by kernel_rfl)
      have e4 : a.tmps[4]?.getD undef = .pointer (some ⟨w.heap.size + 1, 0, none⟩) := hp 4 (by kernel_rfl)
      have e5 : a.tmps[5]?.getD undef = .pointer (some ⟨w.heap.size + 1 + 1, 0, none⟩) := hp 5 (by kernel_rfl)
      have e6 : a.tmps[6]?.getD undef = .pointer (some ⟨w.heap.size + 1 + 1 + 1, 0, none⟩) := hp 6 (by kernel_rfl)
      clear hp hq
      go_simp
      exact hK _ _ (Below.refl _ _) rfl
    · refine op_mk rfl fun a W hB hp hq K hK => ?_
      obtain ⟨g1, l1, q1, h1⟩ : isQ True (namesE [s]) (a.tmps[11]?.getD undef) W := hq 3 11 (by kernel_rfl) (by kernel_rfl)
      obtain ⟨g2, l2, q2, h2⟩ : isQ True (thereE t [dir]) (a.tmps[15]?.getD undef) W := hq 7 15 (by kernel_rfl) (by kernel_rfl)
      obtain ⟨g3, l3, q3, h3⟩ : isQ (∀ i ∈ [dir], (t.n i).isSome = true) (dirsE t [dir]) (a.tmps[19]?.getD undef) W := hq 11 19 (by kernel_rfl) (by kernel_rfl)
      have q4 : a.tmps[20]?.getD undef = .func (.func 180) #[] #[.pointer (some ⟨w.heap.size, 0, none⟩), .pointer (some ⟨w.heap.size + 1, 0, none⟩), .pointer (some ⟨w.heap.size + 1 + 1, 0, none⟩), .pointer (some ⟨w.heap.size + 1 + 1 + 1, 0, none⟩)] := hq 12 20 (by kernel_rfl) (by kernel_rfl)
      have H1 := Lib.hid h1
      have H2 := Lib.hid h2
      have H3 := Lib.hid h3
      clear hp hq h1 h2 h3
      go_simp
      have hb := (Below.refl W.heap.size W).alloc (Nat.le_refl _) (.cells #[.func (.func g1) #[] l1, .func (.func g2) #[] l2, .func (.func g3) #[] l3, .func (.func 180) #[] #[.pointer (some ⟨w.heap.size, 0, none⟩), .pointer (some ⟨w.heap.size + 1, 0, none⟩), .pointer (some ⟨w.heap.size + 1 + 1, 0, none⟩), .pointer (some ⟨w.heap.size + 1 + 1 + 1, 0, none⟩)]] 82)
      exact hK _ _ hb ⟨_, _, _, _, _, rfl, SliceAt.built _ _ _, (H1.out trivial).later hb, (H2.out trivial).later hb, fun h => (H3.out h).later hb⟩
  · intro vs W hB hv
    have f0 : vs 0 = .pointer (some ⟨P, 0, none⟩) := hv 0 (by decide) (by kernel_rfl)
    obtain ⟨A, c, v1, v2, v3, f13, hA, q1, q2, q3⟩ : isAskL t dir s _ (vs 13) W := hv 13 (by decide) (by kernel_rfl)
    clear hv
    have hlook : ∀ x, t.n dir = some x → Does W (.func (.func 180) #[] #[.pointer (some ⟨w.heap.size, 0, none⟩), .pointer (some ⟨w.heap.size + 1, 0, none⟩), .pointer (some ⟨w.heap.size + 1 + 1, 0, none⟩), .pointer (some ⟨w.heap.size + 1 + 1 + 1, 0, none⟩)]) (Puts (w.heap.size + 1 + 1 + 1) ((x.l s.data.toList).getD 0) (if (x.l s.data.toList).getD 0 = 0 then 3 else 0)) := fun x hx =>
      ⟨_, _, rfl, enters_look, fun W1 hW1 => t_look1 dir x s _ _ _ _ _ _ _ rfl rfl W1 (hT.below (ptrans hB hW1)) hx hs (box_at (ptrans hB hW1) b3) (box_at (ptrans hB hW1) b4) (box_at (ptrans hB hW1) b5) (((ptrans hB hW1).block _ (by omega)).trans h6)⟩
    have hcell : W.heap[w.heap.size + 1 + 1 + 1]? = some (.cells #[.int .u32 0] 37 (0, 0)) := (hB.block _ (by omega)).trans h6
    have hlt : w.heap.size + 1 + 1 + 1 < W.heap.size := Nat.lt_of_lt_of_le (by omega) hB.size
    have hBW : Below w.heap.size w W := ptrans hBw hB
    have HC : Hid (Calls Tryz.prog 47 #[.pointer (some ⟨P, 0, none⟩), .slice A 4 c] W (LookPost t dir s W (w.heap.size + 1 + 1 + 1))) := look_check t dir s P A v1 v2 v3 _ c W _ hcell hA q1 q2 q3 hlook
    have HCL := Lib.hid hcell
    clear hlook hA q1 q2 q3 hB b3 b4 b5 h6 hT hcell
    refine (show wpAny Tryz.prog .any _ _ 2 _ _ W from ?_)
    refine wpAny_one (i := 14) (by kernel_rfl) (by rfl) rfl (fun K hK => ?_)
    simp only [List.take_succ_cons, List.take_zero, putAll, Act.put, List.setIfInBounds_toArray, List.set_cons_succ, List.set_cons_zero, Nat.zero_add, Nat.reduceAdd, f0, f13] at hK ⊢
    go_simp
    refine HC.out.mono ?_
    rintro e W2 ⟨x, v, rfl, hR⟩
    have HR := Lib.hid hR
    clear hR
    refine hK _ _ (wpAny_one (i := 15) (by kernel_rfl) (by rfl) rfl fun K2 hK2 => ?_)
    go_simp
    refine hK2 _ _ (wpAny_end (by kernel_rfl) ?_)
    clear hK hK2
    obtain ⟨hl, hg, v0, hbx, rfl⟩ := HR.out
    have k6 : W2.cell? ⟨w.heap.size + 1 + 1 + 1, 0, none⟩ = some (.int .u32 v) := by simp [World.cell?, hbx]
    have k7 : W2.frozen? ⟨w.heap.size + 1 + 1 + 1, 0, none⟩ = false := by simp [World.frozen?, hbx]
    have HB2 : Hid (Below w.heap.size w W2) := below_grown hBW hg (by omega)
    have HF : Hid (r1 = v ∧ r2 = x) := by rw [hl] at hr; injection hr with a b; exact ⟨a.symm, b.symm⟩
    have kk : (W2.setCell ⟨w.heap.size + 1 + 1 + 1, 0, none⟩ (.int .u32 v)).cell? ⟨w.heap.size + 1 + 1 + 1, 0, none⟩ = some (.int .u32 v) := by
      have := pheap_set W2 _ 0 (.int .u32 v) _ _ hbx
      simp [World.cell?, this]
    clear hl hg hbx HR HCL HC
    go_wp2
    exact bodyPost_ret (v := .tuple #[.int .u32 v, .int .i64 x]) (by simp [results, Tryz.results133, go_sem, kk]) rfl ⟨by rw [HF.out.1, HF.out.2], HB2.out.setCell (by show w.heap.size ≤ w.heap.size + 1 + 1 + 1; omega) _⟩
end
end Go.Proofs.YtogljgiefmfafaaGreat

namespace Go.Proofs.YtogljgiefmfafaaGreat
open Go.RowKit Go.Maps
open Go.MapKept
open Go.ChangeMaps
open Go.WideElems (Fit rd rg pl rd_key rd_val rg_of rd_mk other_key)
/-- A range over map b under way: iterator r; which entries are still to come. -/
def RangeAt (w : World) (P : Program) (k : TypeId) (b r n : Nat) (m : Lit → Option Value) (left : Lit → Bool) (cnt : Nat) : Prop :=
  ∃ D : DataW Value, w.ranges P k anyElem b r n D left cnt ∧ ∀ kl, WideAt.IsKeyLit kl → ofD D kl = m kl
section
variable {P : Program} {k t e : TypeId} {w w' : World} {b r n cnt : Nat} {m : Lit → Option Value} {left : Lit → Bool}
theorem RangeAt.owns (h : RangeAt w P k b r n m left cnt) : MapAt w P k b n m := by obtain ⟨D, h1, h2⟩ := h; exact ⟨D, h1.owns, h2⟩
theorem RangeAt.ltr (h : RangeAt w P k b r n m left cnt) : r < w.heap.size := by obtain ⟨D, h1, _⟩ := h; exact h1.lt
theorem RangeAt.ne (h : RangeAt w P k b r n m left cnt) : r ≠ b := by obtain ⟨D, h1, _⟩ := h; exact h1.ne
theorem RangeAt.left_eq (h : RangeAt w P k b r n m left cnt) : w.rangeLeft b r = cnt := by obtain ⟨D, h1, _⟩ := h; exact h1.left_eq
theorem RangeAt.congr (h : RangeAt w P k b r n m left cnt) {m' : Lit → Option Value} (hm : ∀ kl, WideAt.IsKeyLit kl → m kl = m' kl) : RangeAt w P k b r n m' left cnt := by
  obtain ⟨D, h1, h2⟩ := h; exact ⟨D, h1, fun kl hk => (h2 kl hk).trans (hm kl hk)⟩
theorem RangeAt.same (h : RangeAt w P k b r n m left cnt) (h1 : w'.heap[b]? = w.heap[b]?) (h2 : w'.heap[r]? = w.heap[r]?) : RangeAt w' P k b r n m left cnt := by
  obtain ⟨D, ⟨es, clock, since, seen, c0, hb, F, hs, hD, hr, rest⟩, hm⟩ := h
  exact ⟨D, ⟨es, clock, since, seen, c0, h1.trans hb, F, hs, hD, h2.trans hr, rest⟩, hm⟩
theorem RangeAt.below (h : RangeAt w P k b r n m left cnt) (hb : Below w.heap.size w w') : RangeAt w' P k b r n m left cnt := h.same (hb.block _ h.owns.lt) (hb.block _ h.ltr)
theorem ofD_has {D : DataW Value} (h : w.ownsMap P k anyElem b n D) (K : Keyed P k) {kl : Lit} (hk : WideAt.IsKeyLit kl) : Maps.has D kl = (ofD D kl).isSome := by
  obtain ⟨es, clock, hb, F, _, rfl⟩ := h
  have hat := WideShapes.atKey_sorted (es.toList.map (rg P k anyElem)) (Maps.fit_rising K F) kl hk
  by_cases hx : ∃ x ∈ es.toList, (rg P k anyElem x).1 = kl
  · obtain ⟨x, hx, hxk⟩ := hx
    obtain ⟨y, hy⟩ := F.reads x hx
    obtain ⟨z, hz, hzd⟩ := rd_val hy
    cases hz
    have h1 : ofD (DataW.map ((es.toList.map (rg P k anyElem)).foldr DataW.insert [])) kl = some x.val := by
      unfold ofD
      rw [hat.2 (rg P k anyElem x) (List.mem_map.2 ⟨x, hx, rfl⟩) hxk, rg_of hy, hzd]
    rw [h1]
    show (List.foldr DataW.insert [] _).any _ = true
    exact List.any_eq_true.2 ⟨_, mem_sorted.2 (List.mem_map.2 ⟨x, hx, rfl⟩), by rw [hxk]; exact WideAt.sameKey_self hk⟩
  · have h1 : ofD (DataW.map ((es.toList.map (rg P k anyElem)).foldr DataW.insert [])) kl = none := by
      unfold ofD
      rw [hat.1 (fun p hp e1 => by
        obtain ⟨x, hx', rfl⟩ := List.mem_map.1 hp
        exact hx ⟨x, hx', e1⟩)]
    rw [h1]
    show (List.foldr DataW.insert [] _).any _ = false
    rw [List.any_eq_false]
    intro p hp
    obtain ⟨x, hx', rfl⟩ := List.mem_map.1 (mem_sorted.1 hp)
    intro hh
    exact hx ⟨x, hx', WideAt.sameKey_eq hh⟩
/-- range m. -/
theorem MapAt.range (h : MapAt w P k b n m) (K : Keyed P k) (ht : P.underlying t = some (.map k e)) :
    ∃ w' left cnt, (Instr.range t (.map (some b))).run P w = .ok (.pointer (some ⟨w.heap.size, 0, none⟩)) w' ∧ RangeAt w' P k b w.heap.size n m left cnt ∧ (∀ kl, WideAt.IsKeyLit kl → left kl = (m kl).isSome) ∧ Below w.heap.size w w' ∧ w'.heap.size = w.heap.size + 1 := by
  obtain ⟨D, hD, hm⟩ := h
  obtain ⟨w', h1, h2, h3, h4⟩ := hD.range K ht
  exact ⟨w', _, _, h1, ⟨D, h2, hm⟩, fun kl hk => by rw [ofD_has hD K hk, hm kl hk], ⟨h3.os, h3.tape, h3.output, h3.size, fun i hi => h3.block i hi (by simp)⟩, h4⟩
/-- The step. -/
theorem RangeAt.next (h : RangeAt w P k b r n m left cnt) (K : Keyed P k) (ty : TypeId) :
    (cnt = 0 ∧ (∀ kl, left kl = false) ∧ (Instr.next (.pointer (some ⟨r, 0, none⟩)) false ty).run P w = .ok (.tuple #[.bool false]) w) ∨
    ∃ key v kl w' cnt', keyOf P k key = some kl ∧ left kl = true ∧ m kl = some v ∧ (Instr.next (.pointer (some ⟨r, 0, none⟩)) false ty).run P w = .ok (.tuple #[.bool true, key, v]) w' ∧
      RangeAt w' P k b r n m (fun x => left x && !x.sameKey kl) cnt' ∧ cnt' < cnt ∧ w.grownBy w' (some r) ∧ w'.heap.size = w.heap.size ∧ (Instr.entry (.pointer (some ⟨r, 0, none⟩))).run P w' = .ok (.tuple #[key, v]) w' := by
  obtain ⟨D, hD, hm⟩ := h
  rcases hD.next K ty with h1 | ⟨key, v, kl, yv, w', cnt', h1, h2, h3, h4, h5, h6, h7, h8, h9, h10⟩
  · exact .inl h1
  · cases h3
    refine .inr ⟨key, v, kl, w', cnt', h1, h2, ?_, h5, ⟨D, h6, hm⟩, h7, h8, h9, h10⟩
    rw [← hm kl (K.key h1)]
    unfold ofD
    rw [h4]
/-- delete(m, k), on the way. -/
theorem RangeAt.drop (h : RangeAt w P k b r n m left cnt) (K : Keyed P k) (ht : P.underlying t = some (.map k e)) {key : Value} {kl : Lit} (hkey : keyOf P k key = some kl) (ty : TypeId) :
    ∃ w' cnt', (Builtin.delete_ #[t, k] ty #[.map (some b), key]).run P w = .ok (.tuple #[]) w' ∧ RangeAt w' P k b r n (delM m kl) (fun x => left x && !x.sameKey kl) cnt' ∧ cnt' ≤ cnt ∧ w.mapTurned w' b := by
  obtain ⟨D, hD, hm⟩ := h
  obtain ⟨w', cnt', h1, h2, h3, h4⟩ := hD.drop K ht hkey ty
  refine ⟨w', cnt', h1, ⟨_, h2, fun x hx => ?_⟩, h3, h4⟩
  unfold delM
  by_cases hs : x.sameKey kl = true
  · rw [if_pos hs]
    have : x = kl := WideAt.sameKey_eq hs
    subst this
    unfold ofD
    rw [Maps.atKey_del_same]
  · rw [if_neg hs, ← hm x hx]
    have hne : x ≠ kl := fun e => hs (by rw [e]; exact WideAt.sameKey_self (e ▸ hx))
    unfold ofD
    rw [Maps.atKey_del_other hne]
/-- m[k] = v at a key that is there, on the way. -/
theorem RangeAt.store (h : RangeAt w P k b r n m left cnt) (K : Keyed P k) (ht : P.underlying t = some (.map k e)) (hn : n < maxLen) {key val : Value} {kl : Lit} (hkey : keyOf P k key = some kl) (hp : (m kl).isSome = true) :
    ∃ w', (Instr.mapUpdate t (.map (some b)) key val).run P w = .ok () w' ∧ RangeAt w' P k b r n (updM m kl val) left cnt ∧ w.mapTurned w' b := by
  have hmap := h.owns
  have hne := h.ne
  have hkk := K.key hkey
  obtain ⟨D, ⟨es, clock, since, seen, c0, hb, F, hs, rfl, hr, hold, hcnt, hl1, hl2, hsc, hsk⟩, hm⟩ := h
  have hroom : es.size < maxLen := Nat.lt_of_le_of_lt hs hn
  obtain ⟨es1, clock1, hrun1, F1, hput1, _⟩ := Maps.fit_store (R' := anyElem) K ht hb F hroom (fun _ _ _ _ hz => hz) hkey (val := val) (yv := (.held val, [])) rfl
  rcases K.find w hkey es.toList F.keys with ⟨h1, h2⟩ | ⟨j, e0, h1, h2, h3⟩
  · exfalso
    rw [← hm kl hkk, ← ofD_has ⟨es, clock, hb, F, Nat.le_refl _, rfl⟩ K hkk] at hp
    obtain ⟨p, hp1, hp2⟩ := List.any_eq_true.1 (show (List.foldr DataW.insert [] _).any (fun p => p.1.sameKey kl) = true from hp)
    obtain ⟨x, hx, rfl⟩ := List.mem_map.1 (mem_sorted.1 hp1)
    obtain ⟨y, hy⟩ := F.reads x hx
    have hxk := WideAt.sameKey_eq hp2
    rw [rg_of hy] at hxk
    exact h2 x hx (K.inj (hxk ▸ rd_key hy) hkey)
  · have hjl : j < es.toList.length := (List.getElem?_eq_some_iff.1 h2).1
    have hj : es[j]? = some e0 := by simpa using h2
    have hrun2 : (Instr.mapUpdate t (.map (some b)) key val).run P w = .ok () (setBlock w b (.map (es.modify j (fun e' => { e' with key := key, val := val })) clock)) := by
      simp [Instr.mapUpdate, run_underlying ht, MapKept.run_getObj_map hb, K.check w false hkey, h1, hj, h3, K.stays w hkey, MapKept.run_setObj_map _ hb, Result.andThen, setBlock]
    have heq : es1 = es.modify j (fun e' => { e' with key := key, val := val }) ∧ clock1 = clock := by
      rw [hrun1] at hrun2
      injection hrun2 with _ hw
      have e1 : (setBlock w b (.map es1 clock1)).heap[b]? = some (.map es1 clock1) := heap_setBlock_same hb _
      rw [hw, heap_setBlock_same hb _] at e1
      injection e1 with e1
      injection e1 with e1 e2
      exact ⟨e1.symm, e2.symm⟩
    obtain ⟨rfl, rfl⟩ := heq
    have hlist : (es.modify j (fun e' => { e' with key := key, val := val })).toList = es.toList.set j { e0 with key := key, val := val } := by
      rw [Array.toList_modify, modify_eq_set _ _ _ _ h2]
    have he0 : e0 ∈ es.toList := List.mem_of_getElem? h2
    have who : ∀ x ∈ es.toList.set j { e0 with key := key, val := val }, x = { e0 with key := key, val := val } ∨ x ∈ es.toList := by
      intro x hx
      rcases List.mem_or_eq_of_mem_set hx with h | h
      · exact .inr h
      · exact .inl h
    have rgsame : (rg P k anyElem { e0 with key := key, val := val }).1 = (rg P k anyElem e0).1 := by
      obtain ⟨y, hy⟩ := F.reads e0 he0
      have e2 := rd_mk (P := P) (k := k) (R := anyElem) (born := e0.born) hkey (show anyElem val = some (.held val, []) from rfl)
      rw [rg_of hy]
      have e3 : rg P k anyElem { e0 with key := key, val := val } = (kl, .held val) := rg_of e2
      rw [e3]
      have := rd_key hy
      rw [h3, hkey] at this
      injection this
    refine ⟨_, hrun1, ⟨_, ⟨_, clock1, since, seen, c0, heap_setBlock_same hb _, F1, by simpa using hs, rfl, (heap_setBlock_other hb _ hne).trans hr, fun x hx => ?_, ?_, fun x hx => ?_, fun kl' hkl' => ?_, hsc, hsk⟩, fun x hx => ?_⟩, ⟨es, clock1, _, clock1, hb, rfl⟩⟩
    · rw [hlist] at hx
      rcases who x hx with rfl | hx
      · exact hold e0 he0
      · exact hold x hx
    · rw [← hcnt]
      have e1 : ∀ a : Array MapEntry, (leftOf a seen).size = (a.toList.map (·.born)).countP (fun z => !seen.contains z) := fun a => by
        have e0' : (leftOf a seen).size = (a.toList.filter fun e => !seen.contains e.born).length := by
          unfold leftOf
          rw [← Array.toList_filter, Array.length_toList]
        rw [e0', ← List.countP_eq_length_filter, List.countP_map]
        rfl
      rw [e1, e1, hlist, List.map_set]
      congr 1
      apply List.ext_getElem?
      intro i
      rw [List.getElem?_set]
      split
      · rename_i hij
        subst hij
        rw [if_pos (by simpa using hjl), List.getElem?_map, h2]
        rfl
      · rfl
    · rw [hlist] at hx
      rcases who x hx with rfl | hx
      · rw [rgsame]; exact hl1 e0 he0
      · exact hl1 x hx
    · obtain ⟨x, hx, hxk⟩ := hl2 kl' hkl'
      obtain ⟨i, hi⟩ := List.getElem?_of_mem hx
      by_cases hij : i = j
      · subst hij
        rw [h2] at hi
        cases hi
        exact ⟨{ e0 with key := key, val := val }, by rw [hlist]; exact List.mem_of_getElem? (i := i) (by rw [List.getElem?_set_self hjl]), by rw [rgsame]; exact hxk⟩
      · exact ⟨x, by rw [hlist]; exact List.mem_of_getElem? (i := i) (by rw [List.getElem?_set_ne (fun e => hij e.symm)]; exact hi), hxk⟩
    · rw [hput1, ← DataW.put_eq]
      unfold updM
      by_cases hsx : x.sameKey kl = true
      · rw [if_pos hsx]
        have : x = kl := WideAt.sameKey_eq hsx
        subst this
        unfold ofD
        rw [Maps.atKey_put_same ⟨_, rfl⟩ hx]
      · rw [if_neg hsx, ← hm x hx]
        have hne' : x ≠ kl := fun e => hsx (by rw [e]; exact WideAt.sameKey_self (e ▸ hx))
        unfold ofD
        rw [Maps.atKey_put_other hne']
end
end Go.Proofs.YtogljgiefmfafaaGreat
