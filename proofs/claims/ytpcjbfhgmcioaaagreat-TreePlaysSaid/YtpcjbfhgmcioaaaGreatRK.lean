/- Look. -/
import Derived.Test.YtpcjbfhgmcioaaaGreatRJ
namespace Go.Proofs.YtpcjbfhgmcioaaaGreat
open Go.RowKit Go.Maps

abbrev Ph := Value → World → Prop
def phi (l : List Ph) (i : Nat) (v : Value) (W : World) : Prop := (l.getD i (fun _ _ => True)) v W
def isV (x : Value) : Ph := fun v _ => v = x
def isSl (xs : List Value) : Ph := fun v W => ∃ A c, v = .slice A xs.length c ∧ SliceAt W A xs
def isQ (c : Prop) (r : Int) : Ph := fun v W => ∃ g lb, v = .func (.func g) #[] lb ∧ (c → Question W (.func (.func g) #[] lb) r)
def isAsk (n : Nat) (es : List Int) : Ph := fun v W => ∃ A c vs, v = .slice A n c ∧ vs.length = n ∧ SliceAt W A vs ∧ Asked W vs es
def StaysP (p : Ph) : Prop := ∀ v W W', p v W → Below W.heap.size W W' → p v W'
theorem stays_V (x : Value) : StaysP (isV x) := fun _ _ _ h _ => h
theorem stays_Sl (xs : List Value) : StaysP (isSl xs) := fun _ _ _ ⟨A, c, h1, h2⟩ hb => ⟨A, c, h1, h2.below hb⟩
theorem stays_Q (c : Prop) (r : Int) : StaysP (isQ c r) := fun _ _ _ ⟨g, lb, h1, h2⟩ hb => ⟨g, lb, h1, fun hc => (h2 hc).later hb⟩
theorem isQ.of {W : World} {v : Value} {r : Int} (h : Question W v r) : isQ True r v W := by
  obtain ⟨g, lb, rfl, h1⟩ := h
  exact ⟨g, lb, rfl, fun _ => ⟨g, lb, rfl, h1⟩⟩
theorem Asked.later {w w' : World} {vs : List Value} {es : List Int} (h : Asked w vs es) (hb : Below w.heap.size w w') : Asked w' vs es :=
  ⟨h.1, fun j e he h0 => by obtain ⟨v, h1, h2⟩ := h.2 j e he h0; exact ⟨v, h1, h2.later hb⟩⟩
theorem stays_Ask (n : Nat) (es : List Int) : StaysP (isAsk n es) := fun _ _ _ ⟨A, c, vs, h1, h2, h3, h4⟩ hb => ⟨A, c, vs, h1, h2, h3.below hb, h4.later hb⟩
theorem stays_phi {l : List Ph} (h : ∀ p ∈ l, StaysP p) (i : Nat) (v : Value) (W W' : World) (hp : phi l i v W) (hb : Below W.heap.size W W') : phi l i v W' := by
  unfold phi at *
  rw [List.getD_eq_getElem?_getD] at *
  cases hi : l[i]? with
  | none => trivial
  | some p => rw [hi] at hp; exact h p (List.mem_of_getElem? hi) v W W' hp hb

/-- Look's questions. -/
def isAskL (t : PT) (dir : Int) (s : ByteArray) (f : Value) : Ph := fun v W => ∃ A c v1 v2 v3, v = .slice A 4 c ∧ SliceAt W A [v1, v2, v3, f] ∧ Question W v1 (namesE [s]) ∧ Question W v2 (thereE t [dir]) ∧ ((∀ i ∈ [dir], (t.n i).isSome = true) → Question W v3 (dirsE t [dir]))
theorem stays_AskL (t : PT) (dir : Int) (s : ByteArray) (f : Value) : StaysP (isAskL t dir s f) := fun _ _ _ ⟨A, c, v1, v2, v3, h1, h2, h3, h4, h5⟩ hb => ⟨A, c, v1, v2, v3, h1, h2.below hb, h3.later hb, h4.later hb, fun h => (h5 h).later hb⟩
theorem eval_slot (a : Act) (k : Nat) : a.eval (.tmp k) = a.tmps[k]?.getD undef := by
  show a.tmps.getD k undef = _
  rw [Array.getD_eq_getD_getElem?]
theorem op_mk {ops : Array Oper} {a0 : Act} {w0 : World} {Φ : Nat → Value → World → Prop} {Q : Exit → Act → World → Prop} {i : Nat} {o : Oper} (hg : o.guard = none)
    (h : ∀ a W, Below w0.heap.size w0 W → (∀ k, (ops.toList.all fun o => o.dst != some k) = true → a.tmps[k]?.getD undef = slot a0 k) →
      (∀ j d, (o.after.toList.any fun e => e.on == j && Region.binds .any e) = true → (ops[j]?.bind (·.dst)) = some d → Φ j (a.tmps[d]?.getD undef) W) →
      ∀ K : Act → World → Prop, (∀ v W', Below W.heap.size W W' → Φ i v W' → K (a.put o.dst v) W') → o.wp Tryz.prog a W K Q) : OpDoes ops a0 w0 Φ Q i o := by
  refine ⟨hg, fun a W h1 h2 h3 K hK => h a W h1 (fun k hk => (eval_slot a k).symm.trans (h2 k hk)) (fun j d hj hd => ?_) K hK⟩
  rw [List.any_eq_true] at hj
  obtain ⟨e, he, hb⟩ := hj
  simp only [Bool.and_eq_true, beq_iff_eq] at hb
  obtain ⟨rfl, hb⟩ := hb
  cases ho : ops[e.on]? with
  | none => simp [ho] at hd
  | some oe => rw [← eval_slot]; exact h3 e (by simpa using he) hb oe d ho (by simpa [ho] using hd)
theorem Asked.of (w : World) (vs : List Value) (es : List Int) (h1 : vs.length = es.length) (h2 : ∀ (j : Nat) (e : Int) (v : Value), es[j]? = some e → vs[j]? = some v → (∀ (i : Nat) (e' : Int), i < j → es[i]? = some e' → e' = 0) → Question w v e) : Asked w vs es :=
  ⟨h1, fun j e he h0 => by
    have hj := (List.getElem?_eq_some_iff.1 he).1
    exact ⟨vs[j], List.getElem?_eq_getElem (by omega), h2 j e _ he (List.getElem?_eq_getElem (by omega)) h0⟩⟩
theorem box_at {w W : World} {B : Nat} {v : Value} (hB : Below w.heap.size w W) (hc : w.cell? ⟨B, 0, none⟩ = some v) : W.cell? ⟨B, 0, none⟩ = some v := cell_below hB (World.block_lt_of_cell? w _ hc) hc
/-- What stands behind the boxes that a function makes of its parameters. -/
theorem Below.boxed {w W : World} {v : Value} {T : TypeId} (h : Below w.heap.size w W) : Below w.heap.size w (W.alloc (.cells #[v] T)) := h.alloc h.size _
theorem box_new (w : World) (v : Value) (T : TypeId) : (w.alloc (.cells #[v] T)).cell? ⟨w.heap.size, 0, none⟩ = some v := by simp [World.cell?_alloc_new]
theorem box_old {w : World} {B : Nat} {v : Value} (o : Obj) (hc : w.cell? ⟨B, 0, none⟩ = some v) : (w.alloc o).cell? ⟨B, 0, none⟩ = some v := by
  rw [World.cell?_alloc_lt _ _ _ (World.block_lt_of_cell? w _ hc)]; exact hc

section
variable {F : Nat → Prop} {P N : Nat} {y : Lay} {t : PT}
/-- The entry's inode, and what is answered. -/
def lookP (t : PT) (dir : Int) (s : ByteArray) : Int × Int :=
  if firstE [namesE [s], thereE t [dir], dirsE t [dir]] ≠ 0 then (0, firstE [namesE [s], thereE t [dir], dirsE t [dir]])
  else match t.n dir with
    | some x => ((x.l s.data.toList).getD 0, if (x.l s.data.toList).getD 0 = 0 then 3 else 0)
    | none => (0, 0)
/-- Behind the questions: what stands in the box, what was answered. -/
def LookPost (t : PT) (dir : Int) (s : ByteArray) (W : World) (B : Nat) (e : Ending) (W' : World) : Prop :=
  ∃ x v : Int, e = .returned (.int .i64 x) ∧ lookP t dir s = (v, x) ∧ W.grownBy W' (some B) ∧ ∃ v0, W'.heap[B]? = some (.cells #[v0] 23 (0, 0)) ∧ v0 = .int .u32 v
theorem there_one {t : PT} {i : Int} (h : thereE t [i] = 0) : (t.n i).isSome = true := by
  unfold thereE at h
  cases hx : t.n i with
  | none => simp [hx] at h
  | some x => rfl
theorem pgrown_below {a b : World} (h : Below a.heap.size a b) (r : Option Nat) : a.grownBy b r := ⟨h.os, h.tape, h.output, h.size, fun i hi _ => h.block i hi⟩
set_option maxHeartbeats 1000000 in
theorem look_check (t : PT) (dir : Int) (s : ByteArray) (P : Nat) (A : Option Addr) (v1 v2 v3 v4 : Value) (c : Nat) (W : World) (B : Nat) (hc : W.heap[B]? = some (.cells #[.int .u32 0] 23 (0, 0))) (hA : SliceAt W A [v1, v2, v3, v4])
    (q1 : Question W v1 (namesE [s])) (q2 : Question W v2 (thereE t [dir])) (q3 : (∀ i ∈ [dir], (t.n i).isSome = true) → Question W v3 (dirsE t [dir]))
    (q4 : ∀ x, t.n dir = some x → Does W v4 (Puts B ((x.l s.data.toList).getD 0) (if (x.l s.data.toList).getD 0 = 0 then 3 else 0))) :
    Calls Tryz.prog 37 #[.pointer (some ⟨P, 0, none⟩), .slice A 4 c] W (LookPost t dir s W B) := by
  by_cases h : firstE [namesE [s], thereE t [dir], dirsE t [dir]] = 0
  · obtain ⟨z1, z2, z3⟩ : namesE [s] = 0 ∧ thereE t [dir] = 0 ∧ dirsE t [dir] = 0 := by
      unfold firstE at h; split at h
      · rename_i a; unfold firstE at h; split at h
        · rename_i b; unfold firstE at h; split at h
          · rename_i c; exact ⟨a, b, c⟩
          · exact ⟨a, b, h⟩
        · rename_i b; exact absurd h b
      · rename_i a; exact absurd h a
    rw [z1] at q1
    rw [z2] at q2
    rw [z3] at q3
    have hi := there_one z2
    obtain ⟨x, hx⟩ := Option.isSome_iff_exists.1 hi
    have hl : lookP t dir s = ((x.l s.data.toList).getD 0, if (x.l s.data.toList).getD 0 = 0 then 3 else 0) := by
      unfold lookP; rw [if_neg (by rw [h]; simp), hx]
    have q3' := q3 (by simpa using hi)
    refine (t_check ⟨P, 0, none⟩ A [v1, v2, v3, v4] c 3 _ W (by simp [maxLen]) hA (fun j v hj hv => ?_) v4 rfl (q4 x hx) (fun _ _ _ _ => .inr rfl)).mono ?_
    · match j, hj with
      | 0, _ => simp at hv; subst hv; exact q1
      | 1, _ => simp at hv; subst hv; exact q2
      | 2, _ => simp at hv; subst hv; exact q3'
    · rintro e W' ⟨z, W1, rfl, hb, hz, hg, v0, hc2, hc3⟩
      exact ⟨z, _, rfl, by rw [hl, hz], pgrown_trans (pgrown_below hb _) hg, v0, hc2, hc3⟩
  · refine (t_checkL ⟨P, 0, none⟩ A [v1, v2, v3, v4] 4 c [namesE [s], thereE t [dir], dirsE t [dir], 0] _ rfl W rfl (by simp [maxLen]) hA (Asked.of W _ _ rfl fun j e v he hv h0 => ?_) (by simp)).mono ?_
    · match j with
      | 0 => simp at he hv; subst he; subst hv; exact q1
      | 1 => simp at he hv; subst he; subst hv; exact q2
      | 2 =>
        simp at he hv; subst he; subst hv
        refine q3 ?_
        have := h0 1 (thereE t [dir]) (by omega) rfl
        simpa using there_one this
      | 3 =>
        exfalso
        refine h ?_
        have z1 := h0 0 (namesE [s]) (by omega) rfl
        have z2 := h0 1 (thereE t [dir]) (by omega) rfl
        have z3 := h0 2 (dirsE t [dir]) (by omega) rfl
        simp [firstE, z1, z2, z3]
      | j + 4 => simp at he
    · rintro e W' ⟨rfl, hb⟩
      have hl : lookP t dir s = (0, firstE [namesE [s], thereE t [dir], dirsE t [dir]]) := by unfold lookP; rw [if_pos h]
      have he : firstE [namesE [s], thereE t [dir], dirsE t [dir], 0] = firstE [namesE [s], thereE t [dir], dirsE t [dir]] := by simp [firstE]
      exact ⟨_, 0, rfl, by rw [hl, he], pgrown_below hb _, _, (hb.block _ (Array.getElem?_eq_some_iff.1 hc).1).trans hc, rfl⟩

theorem below_grown {a b c : World} {B : Nat} (h : Below a.heap.size a b) (hg : b.grownBy c (some B)) (hB : a.heap.size ≤ B) : Below a.heap.size a c :=
  ⟨hg.os.trans h.os, hg.tape.trans h.tape, hg.output.trans h.output, Nat.le_trans h.size hg.size, fun i hi => (hg.block i (Nat.lt_of_lt_of_le hi h.size) (fun e => by injection e with e; omega)).trans (h.block i hi)⟩
set_option maxRecDepth 100000 in
set_option maxHeartbeats 4000000 in
theorem t_look (dir : Int) (s : ByteArray) (r1 r2 : Int) (hr : lookP t dir s = (r1, r2)) (w : World) (h : TreeM w F P N y t) (hd : U32 dir) (hs : s.size ≤ maxLen) :
    Calls Tryz.prog 23 #[.pointer (some ⟨P, 0, none⟩), .int .u32 dir, .string s] w fun e w' => e = .returned (.tuple #[.int .u32 r1, .int .i64 r2]) ∧ Below w.heap.size w w' := by
  go_enter Tryz.func23, Tryz.ntmps23
  go_wp2
  obtain ⟨w0, hw0⟩ : ∃ w0, (((w.alloc (.cells #[.pointer (some ⟨P, 0, none⟩)] 26)).alloc (.cells #[.int .u32 dir] 23)).alloc (.cells #[.string s] 9)).alloc (.cells #[.int .u32 0] 23) = w0 := ⟨_, rfl⟩
  rw [hw0]
  have b3 : w0.cell? ⟨w.heap.size, 0, none⟩ = some (.pointer (some ⟨P, 0, none⟩)) := by rw [← hw0]; exact box_old _ (box_old _ (box_old _ (box_new _ _ _)))
  have b4 : w0.cell? ⟨w.heap.size + 1, 0, none⟩ = some (.int .u32 dir) := by
    rw [← hw0, show w.heap.size + 1 = (w.alloc (.cells #[.pointer (some ⟨P, 0, none⟩)] 26)).heap.size by simp]; exact box_old _ (box_old _ (box_new _ _ _))
  have b5 : w0.cell? ⟨w.heap.size + 1 + 1, 0, none⟩ = some (.string s) := by
    rw [← hw0, show w.heap.size + 1 + 1 = ((w.alloc (.cells #[.pointer (some ⟨P, 0, none⟩)] 26)).alloc (.cells #[.int .u32 dir] 23)).heap.size by simp]; exact box_old _ (box_new _ _ _)
  have h6 : w0.heap[w.heap.size + 1 + 1 + 1]? = some (.cells #[.int .u32 0] 23 (0, 0)) := by
    rw [← hw0, show w.heap.size + 1 + 1 + 1 = (((w.alloc (.cells #[.pointer (some ⟨P, 0, none⟩)] 26)).alloc (.cells #[.int .u32 dir] 23)).alloc (.cells #[.string s] 9)).heap.size by simp]; exact heap_alloc_new _ _
  have hsz : w0.heap.size = w.heap.size + 4 := by rw [← hw0]; simp
  have hBw : Below w.heap.size w w0 := by rw [← hw0]; exact ((((Below.refl _ _).alloc (Nat.le_refl _) _).alloc (by simp) _).alloc (by simp; omega) _).alloc (by simp; omega) _
  have hT : TreeM w0 F P N y t := h.below hBw
  clear hw0
  refine wp_region_front 14 (phi [isV (.pointer (some ⟨P, 0, none⟩)), isV (.string s), isSl [.string s], isQ True (namesE [s]), isV (.pointer (some ⟨P, 0, none⟩)), isV (.int .u32 dir), isSl [.int .u32 dir], isQ True (thereE t [dir]),
    isV (.pointer (some ⟨P, 0, none⟩)), isV (.int .u32 dir), isSl [.int .u32 dir], isQ (∀ i ∈ [dir], (t.n i).isSome = true) (dirsE t [dir]), isV (.func (.func 71) #[] #[.pointer (some ⟨w.heap.size, 0, none⟩), .pointer (some ⟨w.heap.size + 1, 0, none⟩), .pointer (some ⟨w.heap.size + 1 + 1, 0, none⟩), .pointer (some ⟨w.heap.size + 1 + 1 + 1, 0, none⟩)]),
    isAskL t dir s (.func (.func 71) #[] #[.pointer (some ⟨w.heap.size, 0, none⟩), .pointer (some ⟨w.heap.size + 1, 0, none⟩), .pointer (some ⟨w.heap.size + 1 + 1, 0, none⟩), .pointer (some ⟨w.heap.size + 1 + 1 + 1, 0, none⟩)])]) (by kernel_rfl) (by kernel_rfl) (by kernel_rfl) ?_ ?_ ?_
  · refine stays_phi ?_
    simp only [List.forall_mem_cons]
    exact ⟨stays_V _, stays_V _, stays_Sl _, stays_Q _ _, stays_V _, stays_V _, stays_Sl _, stays_Q _ _, stays_V _, stays_V _, stays_Sl _, stays_Q _ _, stays_V _, stays_AskL _ _ _ _, fun _ h => absurd h (by simp)⟩
  · refine ⟨?_, ?_, ?_, ?_, ?_, ?_, ?_, ?_, ?_, ?_, ?_, ?_, ?_, ?_, trivial⟩
    · refine op_mk rfl fun a W hB hp hq K hK => ?_
      have e3 : a.tmps[3]?.getD undef = .pointer (some ⟨w.heap.size, 0, none⟩) := hp 3 (by kernel_rfl)
      have c3 := box_at hB b3
      clear hp hq
      go_simp
      exact hK _ _ (Below.refl _ _) rfl
    · refine op_mk rfl fun a W hB hp hq K hK => ?_
      have e5 : a.tmps[5]?.getD undef = .pointer (some ⟨w.heap.size + 1 + 1, 0, none⟩) := hp 5 (by kernel_rfl)
      have c5 := box_at hB b5
      clear hp hq
      go_simp
      exact hK _ _ (Below.refl _ _) rfl
    · refine op_mk rfl fun a W hB hp hq K hK => ?_
      have e9 : a.tmps[9]?.getD undef = .string s := hq 1 9 (by kernel_rfl) (by kernel_rfl)
      clear hp hq
      go_simp
      exact hK _ _ ((Below.refl _ _).alloc (Nat.le_refl _) _) ⟨_, _, rfl, SliceAt.built _ _ _⟩
    · refine op_mk rfl fun a W hB hp hq K hK => ?_
      obtain ⟨A, c, e10, hA⟩ : isSl [.string s] (a.tmps[10]?.getD undef) W := hq 2 10 (by kernel_rfl) (by kernel_rfl)
      have HA := Lib.hid hA
      have HB := Lib.hid hB
      clear hp hq hA hB
      go_simp
      refine (t_names [s] A 1 c _ rfl W rfl (by simpa using hs) (by simp [maxLen]) HA.out).mono ?_
      rintro e w' ⟨v, rfl, hv, hb⟩
      exact hK _ _ hb (isQ.of hv)
    · refine op_mk rfl fun a W hB hp hq K hK => ?_
      have e3 : a.tmps[3]?.getD undef = .pointer (some ⟨w.heap.size, 0, none⟩) := hp 3 (by kernel_rfl)
      have c3 := box_at hB b3
      clear hp hq
      go_simp
      exact hK _ _ (Below.refl _ _) rfl
    · refine op_mk rfl fun a W hB hp hq K hK => ?_
      have e4 : a.tmps[4]?.getD undef = .pointer (some ⟨w.heap.size + 1, 0, none⟩) := hp 4 (by kernel_rfl)
      have c4 := box_at hB b4
      clear hp hq
      go_simp
      exact hK _ _ (Below.refl _ _) rfl
    · refine op_mk rfl fun a W hB hp hq K hK => ?_
      have e13 : a.tmps[13]?.getD undef = .int .u32 dir := hq 5 13 (by kernel_rfl) (by kernel_rfl)
      clear hp hq
      go_simp
      exact hK _ _ ((Below.refl _ _).alloc (Nat.le_refl _) _) ⟨_, _, rfl, SliceAt.built _ _ _⟩
    · refine op_mk rfl fun a W hB hp hq K hK => ?_
      have e12 : a.tmps[12]?.getD undef = .pointer (some ⟨P, 0, none⟩) := hq 4 12 (by kernel_rfl) (by kernel_rfl)
      obtain ⟨A, c, e14, hA⟩ : isSl [.int .u32 dir] (a.tmps[14]?.getD undef) W := hq 6 14 (by kernel_rfl) (by kernel_rfl)
      have HA := Lib.hid hA
      have HB := Lib.hid hB
      clear hp hq hA hB
      go_simp
      refine (t_there [dir] A 1 c _ rfl W (hT.below HB.out) rfl (by simpa using hd) (by simp [maxLen]) HA.out).mono ?_
      rintro e w' ⟨v, rfl, hv, hb⟩
      exact hK _ _ hb (isQ.of hv)
    · refine op_mk rfl fun a W hB hp hq K hK => ?_
      have e3 : a.tmps[3]?.getD undef = .pointer (some ⟨w.heap.size, 0, none⟩) := hp 3 (by kernel_rfl)
      have c3 := box_at hB b3
      clear hp hq
      go_simp
      exact hK _ _ (Below.refl _ _) rfl
    · refine op_mk rfl fun a W hB hp hq K hK => ?_
      have e4 : a.tmps[4]?.getD undef = .pointer (some ⟨w.heap.size + 1, 0, none⟩) := hp 4 (by kernel_rfl)
      have c4 := box_at hB b4
      clear hp hq
      go_simp
      exact hK _ _ (Below.refl _ _) rfl
    · refine op_mk rfl fun a W hB hp hq K hK => ?_
      have e17 : a.tmps[17]?.getD undef = .int .u32 dir := hq 9 17 (by kernel_rfl) (by kernel_rfl)
      clear hp hq
      go_simp
      exact hK _ _ ((Below.refl _ _).alloc (Nat.le_refl _) _) ⟨_, _, rfl, SliceAt.built _ _ _⟩
    · refine op_mk rfl fun a W hB hp hq K hK => ?_
      have e16 : a.tmps[16]?.getD undef = .pointer (some ⟨P, 0, none⟩) := hq 8 16 (by kernel_rfl) (by kernel_rfl)
      obtain ⟨A, c, e18, hA⟩ : isSl [.int .u32 dir] (a.tmps[18]?.getD undef) W := hq 10 18 (by kernel_rfl) (by kernel_rfl)
      have HA := Lib.hid hA
      have HB := Lib.hid hB
      clear hp hq hA hB
      go_simp
      refine (t_dirsI [dir] A 1 c _ rfl W (hT.below HB.out) rfl (by simp [maxLen]) HA.out).mono ?_
      rintro e w' ⟨g, lb, rfl, hv, hb⟩
      exact hK _ _ hb ⟨g, lb, rfl, hv⟩
    · refine op_mk rfl fun a W hB hp hq K hK => ?_
      have e3 : a.tmps[3]?.getD undef = .pointer (some ⟨w.heap.size, 0, none⟩) := hp 3 (by kernel_rfl)
      have e4 : a.tmps[4]?.getD undef = .pointer (some ⟨w.heap.size + 1, 0, none⟩) := hp 4 (by kernel_rfl)
      have e5 : a.tmps[5]?.getD undef = .pointer (some ⟨w.heap.size + 1 + 1, 0, none⟩) := hp 5 (by kernel_rfl)
      have e6 : a.tmps[6]?.getD undef = .pointer (some ⟨w.heap.size + 1 + 1 + 1, 0, none⟩) := hp 6 (by kernel_rfl)
      clear hp hq
      go_simp
      exact hK _ _ (Below.refl _ _) rfl
    · refine op_mk rfl fun a W hB hp hq K hK => ?_
      obtain ⟨g1, l1, q1, h1⟩ : isQ True (namesE [s]) (a.tmps[11]?.getD undef) W := hq 3 11 (by kernel_rfl) (by kernel_rfl)
      obtain ⟨g2, l2, q2, h2⟩ : isQ True (thereE t [dir]) (a.tmps[15]?.getD undef) W := hq 7 15 (by kernel_rfl) (by kernel_rfl)
      obtain ⟨g3, l3, q3, h3⟩ : isQ (∀ i ∈ [dir], (t.n i).isSome = true) (dirsE t [dir]) (a.tmps[19]?.getD undef) W := hq 11 19 (by kernel_rfl) (by kernel_rfl)
      have q4 : a.tmps[20]?.getD undef = .func (.func 71) #[] #[.pointer (some ⟨w.heap.size, 0, none⟩), .pointer (some ⟨w.heap.size + 1, 0, none⟩), .pointer (some ⟨w.heap.size + 1 + 1, 0, none⟩), .pointer (some ⟨w.heap.size + 1 + 1 + 1, 0, none⟩)] := hq 12 20 (by kernel_rfl) (by kernel_rfl)
      have H1 := Lib.hid h1
      have H2 := Lib.hid h2
      have H3 := Lib.hid h3
      clear hp hq h1 h2 h3
      go_simp
      have hb := (Below.refl W.heap.size W).alloc (Nat.le_refl _) (.cells #[.func (.func g1) #[] l1, .func (.func g2) #[] l2, .func (.func g3) #[] l3, .func (.func 71) #[] #[.pointer (some ⟨w.heap.size, 0, none⟩), .pointer (some ⟨w.heap.size + 1, 0, none⟩), .pointer (some ⟨w.heap.size + 1 + 1, 0, none⟩), .pointer (some ⟨w.heap.size + 1 + 1 + 1, 0, none⟩)]] 86)
      exact hK _ _ hb ⟨_, _, _, _, _, rfl, SliceAt.built _ _ _, (H1.out trivial).later hb, (H2.out trivial).later hb, fun h => (H3.out h).later hb⟩
  · intro vs W hB hv
    have f0 : vs 0 = .pointer (some ⟨P, 0, none⟩) := hv 0 (by decide) (by kernel_rfl)
    obtain ⟨A, c, v1, v2, v3, f13, hA, q1, q2, q3⟩ : isAskL t dir s _ (vs 13) W := hv 13 (by decide) (by kernel_rfl)
    clear hv
    have hlook : ∀ x, t.n dir = some x → Does W (.func (.func 71) #[] #[.pointer (some ⟨w.heap.size, 0, none⟩), .pointer (some ⟨w.heap.size + 1, 0, none⟩), .pointer (some ⟨w.heap.size + 1 + 1, 0, none⟩), .pointer (some ⟨w.heap.size + 1 + 1 + 1, 0, none⟩)]) (Puts (w.heap.size + 1 + 1 + 1) ((x.l s.data.toList).getD 0) (if (x.l s.data.toList).getD 0 = 0 then 3 else 0)) := fun x hx =>
      ⟨_, _, rfl, enters_look, fun W1 hW1 => t_look1 dir x s _ _ _ _ _ _ _ rfl rfl W1 (hT.below (ptrans hB hW1)) hx hs (box_at (ptrans hB hW1) b3) (box_at (ptrans hB hW1) b4) (box_at (ptrans hB hW1) b5) (((ptrans hB hW1).block _ (by omega)).trans h6)⟩
    have hcell : W.heap[w.heap.size + 1 + 1 + 1]? = some (.cells #[.int .u32 0] 23 (0, 0)) := (hB.block _ (by omega)).trans h6
    have hlt : w.heap.size + 1 + 1 + 1 < W.heap.size := Nat.lt_of_lt_of_le (by omega) hB.size
    have hBW : Below w.heap.size w W := ptrans hBw hB
    have HC : Hid (Calls Tryz.prog 37 #[.pointer (some ⟨P, 0, none⟩), .slice A 4 c] W (LookPost t dir s W (w.heap.size + 1 + 1 + 1))) := look_check t dir s P A v1 v2 v3 _ c W _ hcell hA q1 q2 q3 hlook
    have HCL := Lib.hid hcell
    clear hlook hA q1 q2 q3 hB b3 b4 b5 h6 hT hcell
    refine (show wpAny Tryz.prog .any _ _ 2 _ _ W from ?_)
    refine wpAny_one (i := 14) (by kernel_rfl) (by rfl) rfl (fun K hK => ?_)
    simp only [List.take_succ_cons, List.take_zero, putAll, Act.put, List.setIfInBounds_toArray, List.set_cons_succ, List.set_cons_zero, Nat.zero_add, Nat.reduceAdd, f0, f13] at hK ⊢
    go_simp
    refine HC.out.mono ?_
    rintro e W2 ⟨x, v, rfl, hR⟩
    have HR := Lib.hid hR
    clear hR
    refine hK _ _ (wpAny_one (i := 15) (by kernel_rfl) (by rfl) rfl fun K2 hK2 => ?_)
    go_simp
    refine hK2 _ _ (wpAny_end (by kernel_rfl) ?_)
    clear hK hK2
    obtain ⟨hl, hg, v0, hbx, rfl⟩ := HR.out
    have k6 : W2.cell? ⟨w.heap.size + 1 + 1 + 1, 0, none⟩ = some (.int .u32 v) := by simp [World.cell?, hbx]
    have k7 : W2.frozen? ⟨w.heap.size + 1 + 1 + 1, 0, none⟩ = false := by simp [World.frozen?, hbx]
    have HB2 : Hid (Below w.heap.size w W2) := below_grown hBW hg (by omega)
    have HF : Hid (r1 = v ∧ r2 = x) := by rw [hl] at hr; injection hr with a b; exact ⟨a.symm, b.symm⟩
    have kk : (W2.setCell ⟨w.heap.size + 1 + 1 + 1, 0, none⟩ (.int .u32 v)).cell? ⟨w.heap.size + 1 + 1 + 1, 0, none⟩ = some (.int .u32 v) := by
      have := pheap_set W2 _ 0 (.int .u32 v) _ _ hbx
      simp [World.cell?, this]
    clear hl hg hbx HR HCL HC
    go_wp2
    exact bodyPost_ret (v := .tuple #[.int .u32 v, .int .i64 x]) (by simp [results, Tryz.results23, go_sem, kk]) rfl ⟨by rw [HF.out.1, HF.out.2], HB2.out.setCell (by show w.heap.size ≤ w.heap.size + 1 + 1 + 1; omega) _⟩
end
end Go.Proofs.YtpcjbfhgmcioaaaGreat
