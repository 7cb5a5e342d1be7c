/- The program's tree: Make. -/
import Derived.Test.YtpcjbfhgmcioaaaGreatRQ
import Derived.Deep.RegionHeld3
namespace Go.Proofs.YtpcjbfhgmcioaaaGreat
open Go.RowKit Go.Maps

/-- Make's questions. -/
def isAskM (t : PT) (dir : Int) (s : ByteArray) (kind : Int) (f : Value) : Ph := fun v W => ∃ A c v1 v2 v3 v4 v5, v = .slice A 6 c ∧ SliceAt W A [v1, v2, v3, v4, v5, f] ∧ Question W v1 (namesE [s]) ∧ Question W v2 (kindsE kind) ∧ Question W v3 (thereE t [dir]) ∧
  ((∀ i ∈ [dir], (t.n i).isSome = true) → Question W v4 (dirsE t [dir])) ∧ ((t.n dir).isSome = true → Question W v5 (freshE' t dir s))
theorem stays_AskM (t : PT) (dir : Int) (s : ByteArray) (kind : Int) (f : Value) : StaysP (isAskM t dir s kind f) := fun _ _ _ ⟨A, c, v1, v2, v3, v4, v5, h1, h2, h3, h4, h5, h6, h7⟩ hb =>
  ⟨A, c, v1, v2, v3, v4, v5, h1, h2.below hb, h3.later hb, h4.later hb, h5.later hb, fun h => (h6 h).later hb, fun h => (h7 h).later hb⟩
def makeE (t : PT) (dir : Int) (s : ByteArray) (kind : Int) : Int := firstE [namesE [s], kindsE kind, thereE t [dir], dirsE t [dir], freshE' t dir s]
/-- What stands in the box, what was answered. -/
def makeQ (t : PT) (dir : Int) (s : ByteArray) (kind m : Int) : Int × Int :=
  if makeE t dir s kind = 0 then (m, if t.room < m then 4 else 0) else (0, makeE t dir s kind)
def MakePost (t : PT) (dir : Int) (s : ByteArray) (kind m : Int) (W : World) (B : Nat) (e : Ending) (W' : World) : Prop :=
  ∃ x v : Int, e = .returned (.int .i64 x) ∧ makeQ t dir s kind m = (v, x) ∧ W.grownBy W' (some B) ∧ ∃ v0, W'.heap[B]? = some (.cells #[v0] 23 (0, 0)) ∧ v0 = .int .u32 v
set_option maxHeartbeats 1000000 in
theorem make_check (t : PT) (dir : Int) (s : ByteArray) (kind m : Int) (P : Nat) (A : Option Addr) (v1 v2 v3 v4 v5 v6 : Value) (c : Nat) (W : World) (B : Nat) (hc : W.heap[B]? = some (.cells #[.int .u32 0] 23 (0, 0))) (hA : SliceAt W A [v1, v2, v3, v4, v5, v6])
    (q1 : Question W v1 (namesE [s])) (q2 : Question W v2 (kindsE kind)) (q3 : Question W v3 (thereE t [dir])) (q4 : (∀ i ∈ [dir], (t.n i).isSome = true) → Question W v4 (dirsE t [dir])) (q5 : (t.n dir).isSome = true → Question W v5 (freshE' t dir s))
    (q6 : Does W v6 (Puts B m (if t.room < m then 4 else 0))) :
    Calls Tryz.prog 37 #[.pointer (some ⟨P, 0, none⟩), .slice A 6 c] W (MakePost t dir s kind m W B) := by
  by_cases h : makeE t dir s kind = 0
  · have h' := h
    unfold makeE at h'
    obtain ⟨z1, h'⟩ := firstE_cons h'
    obtain ⟨z2, h'⟩ := firstE_cons h'
    obtain ⟨z3, h'⟩ := firstE_cons h'
    obtain ⟨z4, h'⟩ := firstE_cons h'
    obtain ⟨z5, _⟩ := firstE_cons h'
    rw [z1] at q1
    rw [z2] at q2
    rw [z3] at q3
    rw [z4] at q4
    rw [z5] at q5
    have hi := there_one z3
    have hl : makeQ t dir s kind m = (m, if t.room < m then 4 else 0) := by unfold makeQ; rw [if_pos h]
    have q4' := q4 (by simpa using hi)
    have q5' := q5 hi
    refine (t_check ⟨P, 0, none⟩ A [v1, v2, v3, v4, v5, v6] c 5 _ W (by simp [maxLen]) hA (fun j v hj hv => ?_) v6 rfl q6 (fun _ _ _ _ => .inr rfl)).mono ?_
    · match j, hj with
      | 0, _ => simp at hv; subst hv; exact q1
      | 1, _ => simp at hv; subst hv; exact q2
      | 2, _ => simp at hv; subst hv; exact q3
      | 3, _ => simp at hv; subst hv; exact q4'
      | 4, _ => simp at hv; subst hv; exact q5'
    · rintro e W' ⟨z, W1, rfl, hb, hz, hg, v0, hc2, hc3⟩
      exact ⟨z, _, rfl, by rw [hl, hz], pgrown_trans (pgrown_below hb _) hg, v0, hc2, hc3⟩
  · refine (t_checkL ⟨P, 0, none⟩ A [v1, v2, v3, v4, v5, v6] 6 c [namesE [s], kindsE kind, thereE t [dir], dirsE t [dir], freshE' t dir s, 0] _ rfl W rfl (by simp [maxLen]) hA (Asked.of W _ _ rfl fun j e v he hv h0 => ?_) (by simp)).mono ?_
    · match j with
      | 0 => simp at he hv; subst he; subst hv; exact q1
      | 1 => simp at he hv; subst he; subst hv; exact q2
      | 2 => simp at he hv; subst he; subst hv; exact q3
      | 3 => simp at he hv; subst he; subst hv; exact q4 (by simpa using there_one (h0 2 _ (by omega) rfl))
      | 4 => simp at he hv; subst he; subst hv; exact q5 (there_one (h0 2 _ (by omega) rfl))
      | 5 =>
        exfalso
        refine h ?_
        have z1 := h0 0 (namesE [s]) (by omega) rfl
        have z2 := h0 1 (kindsE kind) (by omega) rfl
        have z3 := h0 2 (thereE t [dir]) (by omega) rfl
        have z4 := h0 3 (dirsE t [dir]) (by omega) rfl
        have z5 := h0 4 (freshE' t dir s) (by omega) rfl
        simp [makeE, firstE, z1, z2, z3, z4, z5]
      | j + 6 => simp at he
    · rintro e W' ⟨rfl, hb⟩
      have hl : makeQ t dir s kind m = (0, makeE t dir s kind) := by unfold makeQ; rw [if_neg h]
      have he : firstE [namesE [s], kindsE kind, thereE t [dir], dirsE t [dir], freshE' t dir s, 0] = makeE t dir s kind := by simp [makeE, firstE]
      exact ⟨_, 0, rfl, by rw [hl, he], pgrown_below hb _, _, (hb.block _ (Array.getElem?_eq_some_iff.1 hc).1).trans hc, rfl⟩

/-- Make's answer, and the tree behind it; m: the least number that is free. -/
def makeP (t : PT) (dir : Int) (s : ByteArray) (kind m : Int) : (Int × Int) × PT :=
  if (makeQ t dir s kind m).2 = 0 then ((m, (makeAtP t dir s kind m).1), (makeAtP t dir s kind m).2) else ((0, (makeQ t dir s kind m).2), t)
section
variable {F : Nat → Prop} {P N : Nat} {y : Lay} {t : PT}
theorem Turn.cell {w w' : World} {F F' : Nat → Prop} (h : Turn w w' F F') {B : Nat} {v : Value} (hF : ¬ F B) (hc : w.cell? ⟨B, 0, none⟩ = some v) : w'.cell? ⟨B, 0, none⟩ = some v :=
  (World.cell?_of_block (h.block B (World.block_lt_of_cell? w _ hc) hF)).trans hc
theorem Turn.heap {w w' : World} {F F' : Nat → Prop} (h : Turn w w' F F') {B : Nat} (hF : ¬ F B) (hlt : B < w.heap.size) : w'.heap[B]? = w.heap[B]? := h.block B hlt hF
theorem box_set {w : World} {B : Nat} {v0 : Value} {T : TypeId} (h : w.heap[B]? = some (.cells #[v0] T (0, 0))) (v : Value) : (w.setCell ⟨B, 0, none⟩ v).cell? ⟨B, 0, none⟩ = some v := by
  have := pheap_set w B 0 v #[v0] T h
  simp [World.cell?, this]
theorem box_setf {w : World} {B : Nat} {v0 : Value} {T : TypeId} (h : w.heap[B]? = some (.cells #[v0] T (0, 0))) (v : Value) : (w.setCell ⟨B, 0, none⟩ v).frozen? ⟨B, 0, none⟩ = false := by
  have := pheap_set w B 0 v #[v0] T h
  simp [World.frozen?, this]
theorem Turn.setNew {w w' : World} {F F' : Nat → Prop} (h : Turn w w' F F') {B : Nat} (hB : w.heap.size ≤ B) (j : Nat) (v : Value) : Turn w (w'.setCell ⟨B, j, none⟩ v) F F' :=
  ⟨h.os, h.tape, h.output, by simpa [World.setCell] using h.size, fun b hb hF => (Below.heap_setCell w' ⟨B, j, none⟩ v b (by show b ≠ B; omega)).trans (h.block b hb hF), h.foot⟩
set_option maxRecDepth 100000 in
set_option maxHeartbeats 8000000 in
theorem t_makeP (dir : Int) (s : ByteArray) (kind m r1 r2 : Int) (t' : PT) (hm : Least t m) (hr : makeP t dir s kind m = ((r1, r2), t')) (w : World) (h : TreeM w F P N y t) (hN : N < 900000) (hd : U32 dir) (hs : s.size ≤ maxLen) :
    Calls Tryz.prog 12 #[.pointer (some ⟨P, 0, none⟩), .int .u32 dir, .string s, .int .u8 kind] w fun e w' => e = .returned (.tuple #[.int .u32 r1, .int .i64 r2]) ∧ Became w w' F P (N + 2) t' := by
  go_enter Tryz.func12, Tryz.ntmps12
  go_wp2
  obtain ⟨w0, hw0⟩ : ∃ w0, (w.alloc (.cells #[.pointer (some ⟨P, 0, none⟩)] 26)).alloc (.cells #[.int .u32 0] 23) = w0 := ⟨_, rfl⟩
  obtain ⟨hBw, b4, _, hsz⟩ := two_boxes w (.pointer (some ⟨P, 0, none⟩)) (.int .u32 0) 26 23
  rw [hw0] at hBw b4 hsz ⊢
  have h8 : w0.heap[w.heap.size + 1]? = some (.cells #[.int .u32 0] 23 (0, 0)) := by
    rw [← hw0, show w.heap.size + 1 = (w.alloc (.cells #[.pointer (some ⟨P, 0, none⟩)] 26)).heap.size by simp]; exact heap_alloc_new _ _
  have hT : TreeM w0 F P N y t := h.below hBw
  have hnF : ¬ F (w.heap.size + 1) := fun hh => by have := h.lt _ hh; omega
  have hnF0 : ¬ F w.heap.size := fun hh => by have := h.lt _ hh; omega
  clear hw0
  refine wp_region_front 20 (phi [isV (.pointer (some ⟨P, 0, none⟩)), isV (.string s), isSl [.string s], isQ True (namesE [s]), isV (.int .u8 kind), isQ True (kindsE kind), isV (.pointer (some ⟨P, 0, none⟩)), isV (.int .u32 dir), isSl [.int .u32 dir], isQ True (thereE t [dir]), isV (.pointer (some ⟨P, 0, none⟩)), isV (.int .u32 dir), isSl [.int .u32 dir], isQ (∀ i ∈ [dir], (t.n i).isSome = true) (dirsE t [dir]), isV (.pointer (some ⟨P, 0, none⟩)), isV (.int .u32 dir), isV (.string s), isQ ((t.n dir).isSome = true) (freshE' t dir s), isV (.func (.func 43) #[] #[.pointer (some ⟨w.heap.size + 1, 0, none⟩), .pointer (some ⟨w.heap.size, 0, none⟩)]), isAskM t dir s kind (.func (.func 43) #[] #[.pointer (some ⟨w.heap.size + 1, 0, none⟩), .pointer (some ⟨w.heap.size, 0, none⟩)])]) (by kernel_rfl) (by kernel_rfl) (by kernel_rfl) ?_ ?_ ?_
  · refine stays_phi ?_
    simp only [List.forall_mem_cons]
    exact ⟨stays_V _, stays_V _, stays_Sl _, stays_Q _ _, stays_V _, stays_Q _ _, stays_V _, stays_V _, stays_Sl _, stays_Q _ _, stays_V _, stays_V _, stays_Sl _, stays_Q _ _, stays_V _, stays_V _, stays_V _, stays_Q _ _, stays_V _, stays_AskM _ _ _ _ _, fun _ h => absurd h (by simp)⟩
  · refine ⟨?_, ?_, ?_, ?_, ?_, ?_, ?_, ?_, ?_, ?_, ?_, ?_, ?_, ?_, ?_, ?_, ?_, ?_, ?_, ?_, trivial⟩
    · refine op_mk rfl fun a W hB hp hq K hK => ?_
      have e4 : a.tmps[4]?.getD undef = .pointer (some ⟨w.heap.size, 0, none⟩) := hp 4 (by kernel_rfl)
      have cc := box_at hB b4
      clear hp hq
      go_simp
      exact hK _ _ (Below.refl _ _) rfl
    · refine op_mk rfl fun a W hB hp hq K hK => ?_
      have e2 : a.tmps[2]?.getD undef = (.string s) := hp 2 (by kernel_rfl)
      clear hp hq
      go_simp
      exact hK _ _ (Below.refl _ _) rfl
    · refine op_mk rfl fun a W hB hp hq K hK => ?_
      have e11 : a.tmps[11]?.getD undef = .string s := hq 1 11 (by kernel_rfl) (by kernel_rfl)
      clear hp hq
      go_simp
      exact hK _ _ ((Below.refl _ _).alloc (Nat.le_refl _) _) ⟨_, _, rfl, SliceAt.built _ _ _⟩
    · refine op_mk rfl fun a W hB hp hq K hK => ?_
      obtain ⟨A, c, e12, hA⟩ : isSl [.string s] (a.tmps[12]?.getD undef) W := hq 2 12 (by kernel_rfl) (by kernel_rfl)
      have HA := Lib.hid hA
      clear hA
      have HB := Lib.hid hB
      clear hp hq hB
      go_simp
      refine (t_names [s] A 1 c _ rfl W rfl (by simpa using hs) (by simp [maxLen]) HA.out).mono ?_
      rintro e w' ⟨v, rfl, hv, hb⟩
      exact hK _ _ hb (isQ.of hv)
    · refine op_mk rfl fun a W hB hp hq K hK => ?_
      have e3 : a.tmps[3]?.getD undef = (.int .u8 kind) := hp 3 (by kernel_rfl)
      clear hp hq
      go_simp
      exact hK _ _ (Below.refl _ _) rfl
    · refine op_mk rfl fun a W hB hp hq K hK => ?_
      have e14 : a.tmps[14]?.getD undef = .int .u8 kind := hq 4 14 (by kernel_rfl) (by kernel_rfl)
      have HB := Lib.hid hB
      clear hp hq hB
      go_simp
      refine (t_kinds kind _ rfl W).mono ?_
      rintro e w' ⟨v, rfl, hv, hb⟩
      exact hK _ _ hb (isQ.of hv)
    · refine op_mk rfl fun a W hB hp hq K hK => ?_
      have e4 : a.tmps[4]?.getD undef = .pointer (some ⟨w.heap.size, 0, none⟩) := hp 4 (by kernel_rfl)
      have cc := box_at hB b4
      clear hp hq
      go_simp
      exact hK _ _ (Below.refl _ _) rfl
    · refine op_mk rfl fun a W hB hp hq K hK => ?_
      have e1 : a.tmps[1]?.getD undef = (.int .u32 dir) := hp 1 (by kernel_rfl)
      clear hp hq
      go_simp
      exact hK _ _ (Below.refl _ _) rfl
    · refine op_mk rfl fun a W hB hp hq K hK => ?_
      have e17 : a.tmps[17]?.getD undef = .int .u32 dir := hq 7 17 (by kernel_rfl) (by kernel_rfl)
      clear hp hq
      go_simp
      exact hK _ _ ((Below.refl _ _).alloc (Nat.le_refl _) _) ⟨_, _, rfl, SliceAt.built _ _ _⟩
    · refine op_mk rfl fun a W hB hp hq K hK => ?_
      have e16 : a.tmps[16]?.getD undef = .pointer (some ⟨P, 0, none⟩) := hq 6 16 (by kernel_rfl) (by kernel_rfl)
      obtain ⟨A, c, e18, hA⟩ : isSl [.int .u32 dir] (a.tmps[18]?.getD undef) W := hq 8 18 (by kernel_rfl) (by kernel_rfl)
      have HA := Lib.hid hA
      clear hA
      have HB := Lib.hid hB
      clear hp hq hB
      go_simp
      refine (t_there [dir] A 1 c _ rfl W (hT.below HB.out) rfl (by simpa using hd) (by simp [maxLen]) HA.out).mono ?_
      rintro e w' ⟨v, rfl, hv, hb⟩
      exact hK _ _ hb (isQ.of hv)
    · refine op_mk rfl fun a W hB hp hq K hK => ?_
      have e4 : a.tmps[4]?.getD undef = .pointer (some ⟨w.heap.size, 0, none⟩) := hp 4 (by kernel_rfl)
      have cc := box_at hB b4
      clear hp hq
      go_simp
      exact hK _ _ (Below.refl _ _) rfl
    · refine op_mk rfl fun a W hB hp hq K hK => ?_
      have e1 : a.tmps[1]?.getD undef = (.int .u32 dir) := hp 1 (by kernel_rfl)
      clear hp hq
      go_simp
      exact hK _ _ (Below.refl _ _) rfl
    · refine op_mk rfl fun a W hB hp hq K hK => ?_
      have e21 : a.tmps[21]?.getD undef = .int .u32 dir := hq 11 21 (by kernel_rfl) (by kernel_rfl)
      clear hp hq
      go_simp
      exact hK _ _ ((Below.refl _ _).alloc (Nat.le_refl _) _) ⟨_, _, rfl, SliceAt.built _ _ _⟩
    · refine op_mk rfl fun a W hB hp hq K hK => ?_
      have e20 : a.tmps[20]?.getD undef = .pointer (some ⟨P, 0, none⟩) := hq 10 20 (by kernel_rfl) (by kernel_rfl)
      obtain ⟨A, c, e22, hA⟩ : isSl [.int .u32 dir] (a.tmps[22]?.getD undef) W := hq 12 22 (by kernel_rfl) (by kernel_rfl)
      have HA := Lib.hid hA
      clear hA
      have HB := Lib.hid hB
      clear hp hq hB
      go_simp
      refine (t_dirsI [dir] A 1 c _ rfl W (hT.below HB.out) rfl (by simp [maxLen]) HA.out).mono ?_
      rintro e w' ⟨g, lb, rfl, hv, hb⟩
      exact hK _ _ hb ⟨g, lb, rfl, hv⟩
    · refine op_mk rfl fun a W hB hp hq K hK => ?_
      have e4 : a.tmps[4]?.getD undef = .pointer (some ⟨w.heap.size, 0, none⟩) := hp 4 (by kernel_rfl)
      have cc := box_at hB b4
      clear hp hq
      go_simp
      exact hK _ _ (Below.refl _ _) rfl
    · refine op_mk rfl fun a W hB hp hq K hK => ?_
      have e1 : a.tmps[1]?.getD undef = (.int .u32 dir) := hp 1 (by kernel_rfl)
      clear hp hq
      go_simp
      exact hK _ _ (Below.refl _ _) rfl
    · refine op_mk rfl fun a W hB hp hq K hK => ?_
      have e2 : a.tmps[2]?.getD undef = (.string s) := hp 2 (by kernel_rfl)
      clear hp hq
      go_simp
      exact hK _ _ (Below.refl _ _) rfl
    · refine op_mk rfl fun a W hB hp hq K hK => ?_
      have e24 : a.tmps[24]?.getD undef = .pointer (some ⟨P, 0, none⟩) := hq 14 24 (by kernel_rfl) (by kernel_rfl)
      have e25 : a.tmps[25]?.getD undef = .int .u32 dir := hq 15 25 (by kernel_rfl) (by kernel_rfl)
      have e26 : a.tmps[26]?.getD undef = .string s := hq 16 26 (by kernel_rfl) (by kernel_rfl)
      have HB := Lib.hid hB
      clear hp hq hB
      go_simp
      refine (t_fresh dir s _ rfl W (hT.below HB.out) hs).mono ?_
      rintro e w' ⟨g, lb, rfl, hv, hb⟩
      exact hK _ _ hb ⟨g, lb, rfl, hv⟩
    · refine op_mk rfl fun a W hB hp hq K hK => ?_
      have e8 : a.tmps[8]?.getD undef = .pointer (some ⟨w.heap.size + 1, 0, none⟩) := hp 8 (by kernel_rfl)
      have e4 : a.tmps[4]?.getD undef = .pointer (some ⟨w.heap.size, 0, none⟩) := hp 4 (by kernel_rfl)
      clear hp hq
      go_simp
      exact hK _ _ (Below.refl _ _) rfl
    · refine op_mk rfl fun a W hB hp hq K hK => ?_
      obtain ⟨g1, l1, q1, h1⟩ : isQ True (namesE [s]) (a.tmps[13]?.getD undef) W := hq 3 13 (by kernel_rfl) (by kernel_rfl)
      obtain ⟨g2, l2, q2, h2⟩ : isQ True (kindsE kind) (a.tmps[15]?.getD undef) W := hq 5 15 (by kernel_rfl) (by kernel_rfl)
      obtain ⟨g3, l3, q3, h3⟩ : isQ True (thereE t [dir]) (a.tmps[19]?.getD undef) W := hq 9 19 (by kernel_rfl) (by kernel_rfl)
      obtain ⟨g4, l4, q4, h4⟩ : isQ (∀ i ∈ [dir], (t.n i).isSome = true) (dirsE t [dir]) (a.tmps[23]?.getD undef) W := hq 13 23 (by kernel_rfl) (by kernel_rfl)
      obtain ⟨g5, l5, q5, h5⟩ : isQ ((t.n dir).isSome = true) (freshE' t dir s) (a.tmps[27]?.getD undef) W := hq 17 27 (by kernel_rfl) (by kernel_rfl)
      have q6 : a.tmps[28]?.getD undef = (.func (.func 43) #[] #[.pointer (some ⟨w.heap.size + 1, 0, none⟩), .pointer (some ⟨w.heap.size, 0, none⟩)]) := hq 18 28 (by kernel_rfl) (by kernel_rfl)
      have H1 := Lib.hid h1
      clear h1
      have H2 := Lib.hid h2
      clear h2
      have H3 := Lib.hid h3
      clear h3
      have H4 := Lib.hid h4
      clear h4
      have H5 := Lib.hid h5
      clear h5
      have HB := Lib.hid hB
      clear hp hq hB
      go_simp
      have hb := (Below.refl W.heap.size W).alloc (Nat.le_refl _) (.cells #[.func (.func g1) #[] l1, .func (.func g2) #[] l2, .func (.func g3) #[] l3, .func (.func g4) #[] l4, .func (.func g5) #[] l5, (.func (.func 43) #[] #[.pointer (some ⟨w.heap.size + 1, 0, none⟩), .pointer (some ⟨w.heap.size, 0, none⟩)])] 86)
      exact hK _ _ hb ⟨_, _, _, _, _, _, _, rfl, SliceAt.built _ _ _, (H1.out trivial).later hb, (H2.out trivial).later hb, (H3.out trivial).later hb, fun h => (H4.out h).later hb, fun h => (H5.out h).later hb⟩
  · intro vs W hB hv
    have f0 : vs 0 = .pointer (some ⟨P, 0, none⟩) := hv 0 (by decide) (by kernel_rfl)
    obtain ⟨A, c, v1, v2, v3, v4, v5, f19, hA, q1, q2, q3, q4, q5⟩ : isAskM t dir s kind _ (vs 19) W := hv 19 (by decide) (by kernel_rfl)
    clear hv
    have hcell : W.heap[w.heap.size + 1]? = some (.cells #[.int .u32 0] 23 (0, 0)) := (hB.block _ (by omega)).trans h8
    have hTW := hT.below hB
    have d4 := box_at hB b4
    have hmk : Does W (.func (.func 43) #[] #[.pointer (some ⟨w.heap.size + 1, 0, none⟩), .pointer (some ⟨w.heap.size, 0, none⟩)]) (Puts (w.heap.size + 1) m (if t.room < m then 4 else 0)) :=
      ⟨_, _, rfl, enters_make, fun W1 hW1 => t_make1 m _ _ _ _ hm rfl W1 (hTW.below hW1) hnF ((hW1.block _ (Array.getElem?_eq_some_iff.1 hcell).1).trans hcell) (by omega) (box_at hW1 d4)⟩
    have hBW : Below w.heap.size w W := ptrans hBw hB
    have HC : Hid (Calls Tryz.prog 37 #[.pointer (some ⟨P, 0, none⟩), .slice A 6 c] W (MakePost t dir s kind m W (w.heap.size + 1))) := make_check t dir s kind m P A v1 v2 v3 v4 v5 _ c W _ hcell hA q1 q2 q3 q4 q5 hmk
    clear hmk hA q1 q2 q3 q4 q5 hB b4 h8 hT hcell
    have HTW := Lib.hid hTW
    have HBW := Lib.hid hBW
    have D4 := Lib.hid d4
    clear hTW hBW d4
    refine (show wpAny Tryz.prog .any _ _ 2 _ _ W from ?_)
    refine wpAny_one (i := 20) (by kernel_rfl) (by rfl) rfl (fun K hK => ?_)
    simp only [List.take_succ_cons, List.take_zero, putAll, Act.put, List.setIfInBounds_toArray, List.set_cons_succ, List.set_cons_zero, Nat.zero_add, Nat.reduceAdd, f0, f19] at hK ⊢
    go_simp
    refine HC.out.mono ?_
    rintro e W2 ⟨x, v, rfl, hR⟩
    have HR := Lib.hid hR
    clear hR
    refine hK _ _ (wpAny_one (i := 21) (by kernel_rfl) (by rfl) rfl fun K2 hK2 => ?_)
    go_simp
    refine hK2 _ _ (wpAny_end (by kernel_rfl) ?_)
    clear hK hK2
    obtain ⟨hl, hg, v0, hbx, rfl⟩ := HR.out
    have hTu : Turn w W2 F F := Turn.of_below F (below_grown HBW.out hg (by omega))
    have hT2 : TreeM W2 F P N y t := HTW.out.same (fun b hb => hg.block b (HTW.out.lt b hb) (fun e => hnF (by injection e with e; rw [← e]; exact hb))) hg.size
    have k4 : W2.cell? ⟨w.heap.size, 0, none⟩ = some (.pointer (some ⟨P, 0, none⟩)) := hg.cell D4.out (fun e => by injection e with e; simp at e)
    have k8 : W2.cell? ⟨w.heap.size + 1, 0, none⟩ = some (.int .u32 v) := by simp [World.cell?, hbx]
    have k8f : W2.frozen? ⟨w.heap.size + 1, 0, none⟩ = false := by simp [World.frozen?, hbx]
    have hlt8 : w.heap.size + 1 < W2.heap.size := (Array.getElem?_eq_some_iff.1 hbx).1
    by_cases hx : x = 0
    · subst hx
      have hq : makeE t dir s kind = 0 := by
        refine Decidable.byContradiction fun hne => ?_
        unfold makeQ at hl
        rw [if_neg hne] at hl
        injection hl with _ b
        exact hne b
      have hv : v = m := by
        unfold makeQ at hl
        rw [if_pos hq] at hl
        injection hl with a _
        exact a.symm
      subst hv
      have hP : Hid (r1 = v ∧ makeAtP t dir s kind v = (r2, t')) := by
        unfold makeP at hr
        rw [hl] at hr
        simp only [if_pos] at hr
        injection hr with a b
        injection a with a c
        exact ⟨a.symm, by rw [← b, ← c]⟩
      have HMA := Lib.hid (fun w2 (h2 : TreeM w2 F P N y t) => t_makeAt dir s kind v r2 t' hP.out.2 w2 h2 hN hd ⟨by have := hm.1; omega, hm.2.1⟩ hs)
      have HT2 := Lib.hid hT2
      have HTu := Lib.hid hTu
      have HBX := Lib.hid hbx
      have HNF := Lib.hid hnF
      have HNF0 := Lib.hid hnF0
      clear hr hl hg hbx hT2 hTu hnF hnF0 hq HR HTW HBW D4 HC hm h
      go_wp2
      go_region_held3 (fun w' => w'.cell? ⟨w.heap.size, 0, none⟩ = some (.pointer (some ⟨P, 0, none⟩)) ∧ w'.cell? ⟨w.heap.size + 1, 0, none⟩ = some (.int .u32 v) ∧ w'.frozen? ⟨w.heap.size + 1, 0, none⟩ = false)
        (first | exact ⟨k4, k8, k8f⟩ | exact HS3.out | exact ⟨(World.cell?_setCell_far _ _ _ _ (by simp)).trans HS3.out.1, box_set HBX3.out _, box_setf HBX3.out _⟩)
        (first | (go_at_call 30; refine (HMA.out _ (HT2.out.drewN 1)).mono ?_; rintro e w3 ⟨rfl, y3, F3, hT3, hU3⟩; have H3 := Lib.hid hT3; have HU3 := Lib.hid hU3; have HS3 : Hid (w3.cell? ⟨w.heap.size, 0, none⟩ = some (.pointer (some ⟨P, 0, none⟩)) ∧ w3.cell? ⟨w.heap.size + 1, 0, none⟩ = some (.int .u32 v) ∧ w3.frozen? ⟨w.heap.size + 1, 0, none⟩ = false) := (⟨hU3.cell HNF0.out k4, hU3.cell HNF.out k8, (World.frozen?_of_block (hU3.block _ hlt8 HNF.out)).trans k8f⟩); have HBX3 : Hid (w3.heap[w.heap.size + 1]? = some (.cells #[.int .u32 v] 23 (0, 0))) := ((hU3.block _ hlt8 HNF.out).trans HBX.out); clear hT3 hU3))
      all_goals
        have kk := box_set HBX3.out (.int .u32 v)
        have HFin : Hid (Became w (w3.setCell ⟨w.heap.size + 1, 0, none⟩ (.int .u32 v)) F P (N + 2) t') :=
          ⟨y3, F3, H3.out.same (fun b hb => Below.heap_setCell w3 ⟨w.heap.size + 1, 0, none⟩ _ b (fun e => by
              rcases HU3.out.foot b hb with h1 | h1
              · rw [e] at h1; exact HNF.out h1
              · rw [e] at h1; have : w.heap.size + 1 < W2.heap.size := hlt8; exact absurd h1 (by show ¬ W2.heap.size ≤ w.heap.size + 1; omega))) (by simp [World.setCell]),
            ((HTu.out.trans ((Turn.of_below F (pbelow_drewN (Below.refl _ _) 1)).trans HU3.out)).setNew (by omega) _ _)⟩
        clear k4 k8 k8f HBX3 HS3
        go_wp2
        exact bodyPost_ret (v := .tuple #[.int .u32 v, .int .i64 r2]) (by simp [results, Tryz.results12, go_sem, kk]) rfl ⟨by rw [hP.out.1], HFin.out⟩
    · have hP : Hid (r1 = 0 ∧ r2 = x ∧ t' = t) := by
        unfold makeP at hr
        rw [hl] at hr
        rw [if_neg hx] at hr
        injection hr with a b
        injection a with a c
        exact ⟨a.symm, c.symm, b.symm⟩
      have hx' : (x != 0) = true := by simpa using hx
      have kk := box_set hbx (.int .u32 0)
      have HFin : Hid (Became w (W2.setCell ⟨w.heap.size + 1, 0, none⟩ (.int .u32 0)) F P (N + 2) t) :=
        ⟨y, F, (hT2.mono (by omega)).same (fun b hb => Below.heap_setCell W2 ⟨w.heap.size + 1, 0, none⟩ _ b (fun e => hnF (by rw [e] at hb; exact hb))) (by simp [World.setCell]), hTu.setNew (by omega) _ _⟩
      clear hr hl hg hbx hT2 hTu hnF hnF0 HR HTW HBW D4 HC hm h hx
      go_wp2
      obtain ⟨rfl, rfl, rfl⟩ := hP.out
      exact bodyPost_ret (v := .tuple #[.int .u32 0, .int .i64 r2]) (by simp [results, Tryz.results12, go_sem, kk]) rfl ⟨rfl, HFin.out⟩
end
end Go.Proofs.YtpcjbfhgmcioaaaGreat
