/- The program's tree: Make. -/
import Derived.Test.YtpcnolkdnmolgaaGreatDoorPh05
import Derived.Deep.RegionHeld3
namespace Go.Proofs.YtpcnolkdnmolgaaGreatDoor
section
open Go.RowKit Go.Maps
def isAskM (t : PT) (dir : Int) (s : ByteArray) (kind : Int) (f : Value) : Ph := fun v W => ∃ A c v1 v2 v3 v4 v5, v = .slice A 6 c ∧ SliceAt W A [v1, v2, v3, v4, v5, f] ∧ Question W v1 (namesE [s]) ∧ Question W v2 (kindsE kind) ∧ Question W v3 (thereE t [dir]) ∧
 ((∀ i ∈ [dir], (t.n i).isSome = true) → Question W v4 (dirsE t [dir])) ∧ ((t.n dir).isSome = true → Question W v5 (freshE' t dir s))
theorem stays_AskM (t : PT) (dir : Int) (s : ByteArray) (kind : Int) (f : Value) : StaysP (isAskM t dir s kind f) := fun _ _ _ ⟨A, c, v1, v2, v3, v4, v5, h1, h2, h3, h4, h5, h6, h7⟩ hb =>
 ⟨A, c, v1, v2, v3, v4, v5, h1, h2.below hb, h3.later hb, h4.later hb, h5.later hb, fun h => (h6 h).later hb, fun h => (h7 h).later hb⟩
def makeE (t : PT) (dir : Int) (s : ByteArray) (kind : Int) : Int := firstE [namesE [s], kindsE kind, thereE t [dir], dirsE t [dir], freshE' t dir s]
def makeQ (t : PT) (dir : Int) (s : ByteArray) (kind m : Int) : Int × Int :=
 if makeE t dir s kind = 0 then (m, if t.room < m then 4 else 0) else (0, makeE t dir s kind)
def MakePost (t : PT) (dir : Int) (s : ByteArray) (kind m : Int) (W : World) (B : Nat) (e : Ending) (W' : World) : Prop :=
 ∃ x v : Int, e = .returned (.int .i64 x) ∧ makeQ t dir s kind m = (v, x) ∧ W.grownBy W' (some B) ∧ ∃ v0, W'.heap[B]? = some (.cells #[v0] 29 (0, 0)) ∧ v0 = .int .u32 v
set_option maxHeartbeats 1000000 in
theorem make_check (t : PT) (dir : Int) (s : ByteArray) (kind m : Int) (P : Nat) (A : Option Addr) (v1 v2 v3 v4 v5 v6 : Value) (c : Nat) (W : World) (B : Nat) (hc : W.heap[B]? = some (.cells #[.int .u32 0] 29 (0, 0))) (hA : SliceAt W A [v1, v2, v3, v4, v5, v6])
  (q1 : Question W v1 (namesE [s])) (q2 : Question W v2 (kindsE kind)) (q3 : Question W v3 (thereE t [dir])) (q4 : (∀ i ∈ [dir], (t.n i).isSome = true) → Question W v4 (dirsE t [dir])) (q5 : (t.n dir).isSome = true → Question W v5 (freshE' t dir s))
  (q6 : Does W v6 (Puts B m (if t.room < m then 4 else 0))) :
  Calls Tryz.prog 80 #[.pointer (some ⟨P, 0, none⟩), .slice A 6 c] W (MakePost t dir s kind m W B) := by
 by_cases h : makeE t dir s kind = 0
 · have h' := h
   unfold makeE at h'
   obtain ⟨z1, h'⟩ := firstE_cons h'
   obtain ⟨z2, h'⟩ := firstE_cons h'
   obtain ⟨z3, h'⟩ := firstE_cons h'
   obtain ⟨z4, h'⟩ := firstE_cons h'
   obtain ⟨z5, _⟩ := firstE_cons h'
   rw [z1] at q1
   rw [z2] at q2
   rw [z3] at q3
   rw [z4] at q4
   rw [z5] at q5
   have hi := there_one z3
   have hl : makeQ t dir s kind m = (m, if t.room < m then 4 else 0) := by unfold makeQ; rw [if_pos h]
   have q4' := q4 (by simpa using hi)
   have q5' := q5 hi
   refine (t_check ⟨P, 0, none⟩ A [v1, v2, v3, v4, v5, v6] c 5 _ W (by simp [maxLen]) hA (fun j v hj hv => ?_) v6 rfl q6 (fun _ _ _ _ => .inr rfl)).mono ?_
   · match j, hj with
     | 0, _ => simp at hv; subst hv; exact q1
     | 1, _ => simp at hv; subst hv; exact q2
     | 2, _ => simp at hv; subst hv; exact q3
     | 3, _ => simp at hv; subst hv; exact q4'
     | 4, _ => simp at hv; subst hv; exact q5'
   · rintro e W' ⟨z, W1, rfl, hb, hz, hg, v0, hc2, hc3⟩
     exact ⟨z, _, rfl, by rw [hl, hz], pgrown_trans (pgrown_below hb _) hg, v0, hc2, hc3⟩
 · refine (t_checkL ⟨P, 0, none⟩ A [v1, v2, v3, v4, v5, v6] 6 c [namesE [s], kindsE kind, thereE t [dir], dirsE t [dir], freshE' t dir s, 0] _ rfl W rfl (by simp [maxLen]) hA (Asked.of W _ _ rfl fun j e v he hv h0 => ?_) (by simp)).mono ?_
   · match j with
     | 0 => simp at he hv; subst he; subst hv; exact q1
     | 1 => simp at he hv; subst he; subst hv; exact q2
     | 2 => simp at he hv; subst he; subst hv; exact q3
     | 3 => simp at he hv; subst he; subst hv; exact q4 (by simpa using there_one (h0 2 _ (by omega) rfl))
     | 4 => simp at he hv; subst he; subst hv; exact q5 (there_one (h0 2 _ (by omega) rfl))
     | 5 =>
      exfalso
      refine h ?_
      have z1 := h0 0 (namesE [s]) (by omega) rfl
      have z2 := h0 1 (kindsE kind) (by omega) rfl
      have z3 := h0 2 (thereE t [dir]) (by omega) rfl
      have z4 := h0 3 (dirsE t [dir]) (by omega) rfl
      have z5 := h0 4 (freshE' t dir s) (by omega) rfl
      simp [makeE, firstE, z1, z2, z3, z4, z5]
     | j + 6 => simp at he
   · rintro e W' ⟨rfl, hb⟩
     have hl : makeQ t dir s kind m = (0, makeE t dir s kind) := by unfold makeQ; rw [if_neg h]
     have he : firstE [namesE [s], kindsE kind, thereE t [dir], dirsE t [dir], freshE' t dir s, 0] = makeE t dir s kind := by simp [makeE, firstE]
     exact ⟨_, 0, rfl, by rw [hl, he], pgrown_below hb _, _, (hb.block _ (Array.getElem?_eq_some_iff.1 hc).1).trans hc, rfl⟩
def makeP (t : PT) (dir : Int) (s : ByteArray) (kind m : Int) : (Int × Int) × PT :=
 if (makeQ t dir s kind m).2 = 0 then ((m, (makeAtP t dir s kind m).1), (makeAtP t dir s kind m).2) else ((0, (makeQ t dir s kind m).2), t)
section
variable {F : Nat → Prop} {P N : Nat} {y : Lay} {t : PT}
theorem Turn.cell {w w' : World} {F F' : Nat → Prop} (h : Turn w w' F F') {B : Nat} {v : Value} (hF : ¬ F B) (hc : w.cell? ⟨B, 0, none⟩ = some v) : w'.cell? ⟨B, 0, none⟩ = some v :=
 (World.cell?_of_block (h.block B (World.block_lt_of_cell? w _ hc) hF)).trans hc
theorem box_set {w : World} {B : Nat} {v0 : Value} {T : TypeId} (h : w.heap[B]? = some (.cells #[v0] T (0, 0))) (v : Value) : (w.setCell ⟨B, 0, none⟩ v).cell? ⟨B, 0, none⟩ = some v := by
 have := pheap_set w B 0 v #[v0] T h
 simp [World.cell?, this]
theorem box_setf {w : World} {B : Nat} {v0 : Value} {T : TypeId} (h : w.heap[B]? = some (.cells #[v0] T (0, 0))) (v : Value) : (w.setCell ⟨B, 0, none⟩ v).frozen? ⟨B, 0, none⟩ = false := by
 have := pheap_set w B 0 v #[v0] T h
 simp [World.frozen?, this]
theorem Turn.setNew {w w' : World} {F F' : Nat → Prop} (h : Turn w w' F F') {B : Nat} (hB : w.heap.size ≤ B) (j : Nat) (v : Value) : Turn w (w'.setCell ⟨B, j, none⟩ v) F F' :=
 ⟨h.os, h.tape, h.output, by simpa [World.setCell] using h.size, fun b hb hF => (Below.heap_setCell w' ⟨B, j, none⟩ v b (by show b ≠ B; omega)).trans (h.block b hb hF), h.foot⟩
set_option maxRecDepth 100000 in
set_option maxHeartbeats 8000000 in
theorem t_makeP (dir : Int) (s : ByteArray) (kind m r1 r2 : Int) (t' : PT) (hm : Least t m) (hr : makeP t dir s kind m = ((r1, r2), t')) (w : World) (h : TreeM w F P N y t) (hN : N < 900000) (hd : U32 dir) (hs : s.size ≤ maxLen) :
  Calls Tryz.prog 110 #[.pointer (some ⟨P, 0, none⟩), .int .u32 dir, .string s, .int .u8 kind] w fun e w' => e = .returned (.tuple #[.int .u32 r1, .int .i64 r2]) ∧ Became w w' F P (N + 2) t' := by
 go_enter Tryz.func110, Tryz.ntmps110
 go_wp2
 obtain ⟨w0, hw0⟩ : ∃ w0, (w.alloc (.cells #[.pointer (some ⟨P, 0, none⟩)] 43)).alloc (.cells #[.int .u32 0] 29) = w0 := ⟨_, rfl⟩
 obtain ⟨hBw, b4, _, hsz⟩ := two_boxes w (.pointer (some ⟨P, 0, none⟩)) (.int .u32 0) 43 29
 rw [hw0] at hBw b4 hsz ⊢
 have h8 : w0.heap[w.heap.size + 1]? = some (.cells #[.int .u32 0] 29 (0, 0)) := by
  rw [← hw0, show w.heap.size + 1 = (w.alloc (.cells #[.pointer (some ⟨P, 0, none⟩)] 43)).heap.size by simp]; exact heap_alloc_new _ _
 have hT : TreeM w0 F P N y t := h.below hBw
 have hnF : ¬ F (w.heap.size + 1) := fun hh => by have := h.lt _ hh; omega
 have hnF0 : ¬ F w.heap.size := fun hh => by have := h.lt _ hh; omega
 clear hw0
 refine wp_region_front 20 (phi [isV (.pointer (some ⟨P, 0, none⟩)), isV (.string s), isSl [.string s], isQ True (namesE [s]), isV (.int .u8 kind), isQ True (kindsE kind), isV (.pointer (some ⟨P, 0, none⟩)), isV (.int .u32 dir), isSl [.int .u32 dir], isQ True (thereE t [dir]), isV (.pointer (some ⟨P, 0, none⟩)), isV (.int .u32 dir), isSl [.int .u32 dir], isQ (∀ i ∈ [dir], (t.n i).isSome = true) (dirsE t [dir]), isV (.pointer (some ⟨P, 0, none⟩)), isV (.int .u32 dir), isV (.string s), isQ ((t.n dir).isSome = true) (freshE' t dir s), isV (.func (.func 184) #[] #[.pointer (some ⟨w.heap.size + 1, 0, none⟩), .pointer (some ⟨w.heap.size, 0, none⟩)]), isAskM t dir s kind (.func (.func 184) #[] #[.pointer (some ⟨w.heap.size + 1, 0, none⟩), .pointer (some ⟨w.heap.size, 0, none⟩)])]) (by kernel_rfl) (by kernel_rfl) (by kernel_rfl) ?_ ?_ ?_
 · refine stays_phi ?_
   simp only [List.forall_mem_cons]
   exact ⟨stays_V _, stays_V _, stays_Sl _, stays_Q _ _, stays_V _, stays_Q _ _, stays_V _, stays_V _, stays_Sl _, stays_Q _ _, stays_V _, stays_V _, stays_Sl _, stays_Q _ _, stays_V _, stays_V _, stays_V _, stays_Q _ _, stays_V _, stays_AskM _ _ _ _ _, fun _ h => absurd h (by simp)⟩
 · refine ⟨?_, ?_, ?_, ?_, ?_, ?_, ?_, ?_, ?_, ?_, ?_, ?_, ?_, ?_, ?_, ?_, ?_, ?_, ?_, ?_, trivial⟩
   · refine op_mk rfl fun a W hB hp hq K hK => ?_
     have e4 : a.tmps[4]?.getD undef = .pointer (some ⟨w.heap.size, 0, none⟩) := hp 4 (by kernel_rfl)
     have cc := box_at hB b4
     clear hp hq
     go_simp
     exact hK _ _ (Below.refl _ _) rfl
   · refine op_mk rfl fun a W hB hp hq K hK => ?_
     have e2 : a.tmps[2]?.getD undef = (.string s) := hp 2 (by kernel_rfl)
     clear hp hq
     go_simp
     exact hK _ _ (Below.refl _ _) rfl
   · refine op_mk rfl fun a W hB hp hq K hK => ?_
     have e11 : a.tmps[11]?.getD undef = .string s := hq 1 11 (by kernel_rfl) (by kernel_rfl)
     clear hp hq
     go_simp
     exact hK _ _ ((Below.refl _ _).alloc (Nat.le_refl _) _) ⟨_, _, rfl, SliceAt.built _ _ _⟩
   · refine op_mk rfl fun a W hB hp hq K hK => ?_
     obtain ⟨A, c, e12, hA⟩ : isSl [.string s] (a.tmps[12]?.getD undef) W := hq 2 12 (by kernel_rfl) (by kernel_rfl)
     have HA := zz hA
     clear hA
     have HB := zz hB
     clear hp hq hB
     go_simp
     refine (t_names [s] A 1 c _ rfl W rfl (by simpa using hs) (by simp [maxLen]) HA.out).mono ?_
     rintro e w' ⟨v, rfl, hv, hb⟩
     exact hK _ _ hb (isQ.of hv)
   · refine op_mk rfl fun a W hB hp hq K hK => ?_
     have e3 : a.tmps[3]?.getD undef = (.int .u8 kind) := hp 3 (by kernel_rfl)
     clear hp hq
     go_simp
     exact hK _ _ (Below.refl _ _) rfl
   · refine op_mk rfl fun a W hB hp hq K hK => ?_
     have e14 : a.tmps[14]?.getD undef = .int .u8 kind := hq 4 14 (by kernel_rfl) (by kernel_rfl)
     have HB := zz hB
     clear hp hq hB
     go_simp
     refine (t_kinds kind _ rfl W).mono ?_
     rintro e w' ⟨v, rfl, hv, hb⟩
     exact hK _ _ hb (isQ.of hv)
   · refine op_mk rfl fun a W hB hp hq K hK => ?_
     have e4 : a.tmps[4]?.getD undef = .pointer (some ⟨w.heap.size, 0, none⟩) := hp 4 (by kernel_rfl)
     have cc := box_at hB b4
     clear hp hq
     go_simp
     exact hK _ _ (Below.refl _ _) rfl
   · refine op_mk rfl fun a W hB hp hq K hK => ?_
     have e1 : a.tmps[1]?.getD undef = (.int .u32 dir) := hp 1 (by kernel_rfl)
     clear hp hq
     go_simp
     exact hK _ _ (Below.refl _ _) rfl
   · refine op_mk rfl fun a W hB hp hq K hK => ?_
     have e17 : a.tmps[17]?.getD undef = .int .u32 dir := hq 7 17 (by kernel_rfl) (by kernel_rfl)
     clear hp hq
     go_simp
     exact hK _ _ ((Below.refl _ _).alloc (Nat.le_refl _) _) ⟨_, _, rfl, SliceAt.built _ _ _⟩
   · refine op_mk rfl fun a W hB hp hq K hK => ?_
     have e16 : a.tmps[16]?.getD undef = .pointer (some ⟨P, 0, none⟩) := hq 6 16 (by kernel_rfl) (by kernel_rfl)
     obtain ⟨A, c, e18, hA⟩ : isSl [.int .u32 dir] (a.tmps[18]?.getD undef) W := hq 8 18 (by kernel_rfl) (by kernel_rfl)
     have HA := zz hA
     clear hA
     have HB := zz hB
     clear hp hq hB
     go_simp
     refine (t_there [dir] A 1 c _ rfl W (hT.below HB.out) rfl (by simpa using hd) (by simp [maxLen]) HA.out).mono ?_
     rintro e w' ⟨v, rfl, hv, hb⟩
     exact hK _ _ hb (isQ.of hv)
   · refine op_mk rfl fun a W hB hp hq K hK => ?_
     have e4 : a.tmps[4]?.getD undef = .pointer (some ⟨w.heap.size, 0, none⟩) := hp 4 (by kernel_rfl)
     have cc := box_at hB b4
     clear hp hq
     go_simp
     exact hK _ _ (Below.refl _ _) rfl
   · refine op_mk rfl fun a W hB hp hq K hK => ?_
     have e1 : a.tmps[1]?.getD undef = (.int .u32 dir) := hp 1 (by kernel_rfl)
     clear hp hq
     go_simp
     exact hK _ _ (Below.refl _ _) rfl
   · refine op_mk rfl fun a W hB hp hq K hK => ?_
     have e21 : a.tmps[21]?.getD undef = .int .u32 dir := hq 11 21 (by kernel_rfl) (by kernel_rfl)
     clear hp hq
     go_simp
     exact hK _ _ ((Below.refl _ _).alloc (Nat.le_refl _) _) ⟨_, _, rfl, SliceAt.built _ _ _⟩
   · refine op_mk rfl fun a W hB hp hq K hK => ?_
     have e20 : a.tmps[20]?.getD undef = .pointer (some ⟨P, 0, none⟩) := hq 10 20 (by kernel_rfl) (by kernel_rfl)
     obtain ⟨A, c, e22, hA⟩ : isSl [.int .u32 dir] (a.tmps[22]?.getD undef) W := hq 12 22 (by kernel_rfl) (by kernel_rfl)
     have HA := zz hA
     clear hA
     have HB := zz hB
     clear hp hq hB
     go_simp
     refine (t_dirsI [dir] A 1 c _ rfl W (hT.below HB.out) rfl (by simp [maxLen]) HA.out).mono ?_
     rintro e w' ⟨g, lb, rfl, hv, hb⟩
     exact hK _ _ hb ⟨g, lb, rfl, hv⟩
   · refine op_mk rfl fun a W hB hp hq K hK => ?_
     have e4 : a.tmps[4]?.getD undef = .pointer (some ⟨w.heap.size, 0, none⟩) := hp 4 (by kernel_rfl)
     have cc := box_at hB b4
     clear hp hq
     go_simp
     exact hK _ _ (Below.refl _ _) rfl
   · refine op_mk rfl fun a W hB hp hq K hK => ?_
     have e1 : a.tmps[1]?.getD undef = (.int .u32 dir) := hp 1 (by kernel_rfl)
     clear hp hq
     go_simp
     exact hK _ _ (Below.refl _ _) rfl
   · refine op_mk rfl fun a W hB hp hq K hK => ?_
     have e2 : a.tmps[2]?.getD undef = (.string s) := hp 2 (by kernel_rfl)
     clear hp hq
     go_simp
     exact hK _ _ (Below.refl _ _) rfl
   · refine op_mk rfl fun a W hB hp hq K hK => ?_
     have e24 : a.tmps[24]?.getD undef = .pointer (some ⟨P, 0, none⟩) := hq 14 24 (by kernel_rfl) (by kernel_rfl)
     have e25 : a.tmps[25]?.getD undef = .int .u32 dir := hq 15 25 (by kernel_rfl) (by kernel_rfl)
     have e26 : a.tmps[26]?.getD undef = .string s := hq 16 26 (by kernel_rfl) (by kernel_rfl)
     have HB := zz hB
     clear hp hq hB
     go_simp
     refine (t_fresh dir s _ rfl W (hT.below HB.out) hs).mono ?_
     rintro e w' ⟨g, lb, rfl, hv, hb⟩
     exact hK _ _ hb ⟨g, lb, rfl, hv⟩
   · refine op_mk rfl fun a W hB hp hq K hK => ?_
     have e8 : a.tmps[8]?.getD undef = .pointer (some ⟨w.heap.size + 1, 0, none⟩) := hp 8 (by kernel_rfl)
     have e4 : a.tmps[4]?.getD undef = .pointer (some ⟨w.heap.size, 0, none⟩) := hp 4 (by kernel_rfl)
     clear hp hq
     go_simp
     exact hK _ _ (Below.refl _ _) rfl
   · refine op_mk rfl fun a W hB hp hq K hK => ?_
     obtain ⟨g1, l1, q1, h1⟩ : isQ True (namesE [s]) (a.tmps[13]?.getD undef) W := hq 3 13 (by kernel_rfl) (by kernel_rfl)
     obtain ⟨g2, l2, q2, h2⟩ : isQ True (kindsE kind) (a.tmps[15]?.getD undef) W := hq 5 15 (by kernel_rfl) (by kernel_rfl)
     obtain ⟨g3, l3, q3, h3⟩ : isQ True (thereE t [dir]) (a.tmps[19]?.getD undef) W := hq 9 19 (by kernel_rfl) (by kernel_rfl)
     obtain ⟨g4, l4, q4, h4⟩ : isQ (∀ i ∈ [dir], (t.n i).isSome = true) (dirsE t [dir]) (a.tmps[23]?.getD undef) W := hq 13 23 (by kernel_rfl) (by kernel_rfl)
     obtain ⟨g5, l5, q5, h5⟩ : isQ ((t.n dir).isSome = true) (freshE' t dir s) (a.tmps[27]?.getD undef) W := hq 17 27 (by kernel_rfl) (by kernel_rfl)
     have q6 : a.tmps[28]?.getD undef = (.func (.func 184) #[] #[.pointer (some ⟨w.heap.size + 1, 0, none⟩), .pointer (some ⟨w.heap.size, 0, none⟩)]) := hq 18 28 (by kernel_rfl) (by kernel_rfl)
     have H1 := zz h1
     clear h1
     have H2 := zz h2
     clear h2
     have H3 := zz h3
     clear h3
     have H4 := zz h4
     clear h4
     have H5 := zz h5
     clear h5
     have HB := zz hB
     clear hp hq hB
     go_simp
     have hb := (Below.refl W.heap.size W).alloc (Nat.le_refl _) (.cells #[.func (.func g1) #[] l1, .func (.func g2) #[] l2, .func (.func g3) #[] l3, .func (.func g4) #[] l4, .func (.func g5) #[] l5, (.func (.func 184) #[] #[.pointer (some ⟨w.heap.size + 1, 0, none⟩), .pointer (some ⟨w.heap.size, 0, none⟩)])] 159)
     exact hK _ _ hb ⟨_, _, _, _, _, _, _, rfl, SliceAt.built _ _ _, (H1.out trivial).later hb, (H2.out trivial).later hb, (H3.out trivial).later hb, fun h => (H4.out h).later hb, fun h => (H5.out h).later hb⟩
 · intro vs W hB hv
   have f0 : vs 0 = .pointer (some ⟨P, 0, none⟩) := hv 0 (by decide) (by kernel_rfl)
   obtain ⟨A, c, v1, v2, v3, v4, v5, f19, hA, q1, q2, q3, q4, q5⟩ : isAskM t dir s kind _ (vs 19) W := hv 19 (by decide) (by kernel_rfl)
   clear hv
   have hcell : W.heap[w.heap.size + 1]? = some (.cells #[.int .u32 0] 29 (0, 0)) := (hB.block _ (by omega)).trans h8
   have hTW := hT.below hB
   have d4 := box_at hB b4
   have hmk : Does W (.func (.func 184) #[] #[.pointer (some ⟨w.heap.size + 1, 0, none⟩), .pointer (some ⟨w.heap.size, 0, none⟩)]) (Puts (w.heap.size + 1) m (if t.room < m then 4 else 0)) :=
    ⟨_, _, rfl, enters_make, fun W1 hW1 => t_make1 m _ _ _ _ hm rfl W1 (hTW.below hW1) hnF ((hW1.block _ (Array.getElem?_eq_some_iff.1 hcell).1).trans hcell) (by omega) (box_at hW1 d4)⟩
   have hBW : Below w.heap.size w W := ptrans hBw hB
   have HC : Hid (Calls Tryz.prog 80 #[.pointer (some ⟨P, 0, none⟩), .slice A 6 c] W (MakePost t dir s kind m W (w.heap.size + 1))) := make_check t dir s kind m P A v1 v2 v3 v4 v5 _ c W _ hcell hA q1 q2 q3 q4 q5 hmk
   clear hmk hA q1 q2 q3 q4 q5 hB b4 h8 hT hcell
   have HTW := zz hTW
   have HBW := zz hBW
   have D4 := zz d4
   clear hTW hBW d4
   refine (show wpAny Tryz.prog .any _ _ 2 _ _ W from ?_)
   refine wpAny_one (i := 20) (by kernel_rfl) (by rfl) rfl (fun K hK => ?_)
   simp only [List.take_succ_cons, List.take_zero, putAll, Act.put, List.setIfInBounds_toArray, List.set_cons_succ, List.set_cons_zero, Nat.zero_add, Nat.reduceAdd, f0, f19] at hK ⊢
   go_simp
   refine HC.out.mono ?_
   rintro e W2 ⟨x, v, rfl, hR⟩
   have HR := zz hR
   clear hR
   refine hK _ _ (wpAny_one (i := 21) (by kernel_rfl) (by rfl) rfl fun K2 hK2 => ?_)
   go_simp
   refine hK2 _ _ (wpAny_end (by kernel_rfl) ?_)
   clear hK hK2
   obtain ⟨hl, hg, v0, hbx, rfl⟩ := HR.out
   have hTu : Turn w W2 F F := Turn.of_below F (below_grown HBW.out hg (by omega))
   have hT2 : TreeM W2 F P N y t := HTW.out.same (fun b hb => hg.block b (HTW.out.lt b hb) (fun e => hnF (by injection e with e; rw [← e]; exact hb))) hg.size
   have k4 : W2.cell? ⟨w.heap.size, 0, none⟩ = some (.pointer (some ⟨P, 0, none⟩)) := hg.cell D4.out (fun e => by injection e with e; simp at e)
   have k8 : W2.cell? ⟨w.heap.size + 1, 0, none⟩ = some (.int .u32 v) := by simp [World.cell?, hbx]
   have k8f : W2.frozen? ⟨w.heap.size + 1, 0, none⟩ = false := by simp [World.frozen?, hbx]
   have hlt8 : w.heap.size + 1 < W2.heap.size := (Array.getElem?_eq_some_iff.1 hbx).1
   by_cases hx : x = 0
   · subst hx
     have hq : makeE t dir s kind = 0 := by
      refine Decidable.byContradiction fun hne => ?_
      unfold makeQ at hl
      rw [if_neg hne] at hl
      injection hl with _ b
      exact hne b
     have hv : v = m := by
      unfold makeQ at hl
      rw [if_pos hq] at hl
      injection hl with a _
      exact a.symm
     subst hv
     have hP : Hid (r1 = v ∧ makeAtP t dir s kind v = (r2, t')) := by
      unfold makeP at hr
      rw [hl] at hr
      simp only [if_pos] at hr
      injection hr with a b
      injection a with a c
      exact ⟨a.symm, by rw [← b, ← c]⟩
     have HMA := zz (fun w2 (h2 : TreeM w2 F P N y t) => t_makeAt dir s kind v r2 t' hP.out.2 w2 h2 hN hd ⟨by have := hm.1; omega, hm.2.1⟩ hs)
     have HT2 := zz hT2
     have HTu := zz hTu
     have HBX := zz hbx
     have HNF := zz hnF
     have HNF0 := zz hnF0
     clear hr hl hg hbx hT2 hTu hnF hnF0 hq HR HTW HBW D4 HC hm h
     go_wp2
     go_region_held3 (fun w' => w'.cell? ⟨w.heap.size, 0, none⟩ = some (.pointer (some ⟨P, 0, none⟩)) ∧ w'.cell? ⟨w.heap.size + 1, 0, none⟩ = some (.int .u32 v) ∧ w'.frozen? ⟨w.heap.size + 1, 0, none⟩ = false)
      (first | exact ⟨k4, k8, k8f⟩ | exact HS3.out | exact ⟨(World.cell?_setCell_far _ _ _ _ (by simp)).trans HS3.out.1, box_set HBX3.out _, box_setf HBX3.out _⟩)
      (first | (go_at_call 185; refine (HMA.out _ (HT2.out.drewN 1)).mono ?_; rintro e w3 ⟨rfl, y3, F3, hT3, hU3⟩; have H3 := zz hT3; have HU3 := zz hU3; have HS3 : Hid (w3.cell? ⟨w.heap.size, 0, none⟩ = some (.pointer (some ⟨P, 0, none⟩)) ∧ w3.cell? ⟨w.heap.size + 1, 0, none⟩ = some (.int .u32 v) ∧ w3.frozen? ⟨w.heap.size + 1, 0, none⟩ = false) := (⟨hU3.cell HNF0.out k4, hU3.cell HNF.out k8, (World.frozen?_of_block (hU3.block _ hlt8 HNF.out)).trans k8f⟩); have HBX3 : Hid (w3.heap[w.heap.size + 1]? = some (.cells #[.int .u32 v] 29 (0, 0))) := ((hU3.block _ hlt8 HNF.out).trans HBX.out); clear hT3 hU3))
     all_goals
      have kk := box_set HBX3.out (.int .u32 v)
      have HFin : Hid (Became w (w3.setCell ⟨w.heap.size + 1, 0, none⟩ (.int .u32 v)) F P (N + 2) t') :=
       ⟨y3, F3, H3.out.same (fun b hb => Below.heap_setCell w3 ⟨w.heap.size + 1, 0, none⟩ _ b (fun e => by
         rcases HU3.out.foot b hb with h1 | h1
         · rw [e] at h1; exact HNF.out h1
         · rw [e] at h1; have : w.heap.size + 1 < W2.heap.size := hlt8; exact absurd h1 (by show ¬ W2.heap.size ≤ w.heap.size + 1; omega))) (by simp [World.setCell]),
        ((HTu.out.trans ((Turn.of_below F (pbelow_drewN (Below.refl _ _) 1)).trans HU3.out)).setNew (by omega) _ _)⟩
      clear k4 k8 k8f HBX3 HS3
      go_wp2
      exact bodyPost_ret (v := .tuple #[.int .u32 v, .int .i64 r2]) (by simp [results, Tryz.results110, go_sem, kk]) rfl ⟨by rw [hP.out.1], HFin.out⟩
   · have hP : Hid (r1 = 0 ∧ r2 = x ∧ t' = t) := by
      unfold makeP at hr
      rw [hl] at hr
      rw [if_neg hx] at hr
      injection hr with a b
      injection a with a c
      exact ⟨a.symm, c.symm, b.symm⟩
     have hx' : (x != 0) = true := by simpa using hx
     have kk := box_set hbx (.int .u32 0)
     have HFin : Hid (Became w (W2.setCell ⟨w.heap.size + 1, 0, none⟩ (.int .u32 0)) F P (N + 2) t) :=
      ⟨y, F, (hT2.mono (by omega)).same (fun b hb => Below.heap_setCell W2 ⟨w.heap.size + 1, 0, none⟩ _ b (fun e => hnF (by rw [e] at hb; exact hb))) (by simp [World.setCell]), hTu.setNew (by omega) _ _⟩
     clear hr hl hg hbx hT2 hTu hnF hnF0 HR HTW HBW D4 HC hm h hx
     go_wp2
     obtain ⟨rfl, rfl, rfl⟩ := hP.out
     exact bodyPost_ret (v := .tuple #[.int .u32 0, .int .i64 r2]) (by simp [results, Tryz.results110, go_sem, kk]) rfl ⟨rfl, HFin.out⟩
end
end

section
open Go.RowKit Go.Maps
structure GoodP (t : PT) : Prop where
 ent : ∀ d x k v, t.n d = some x → x.l k = some v → v ≠ d ∧ 1 ≤ v ∧ v ≤ 4294967295 ∧ (t.n v).isSome = true
 links : LinksOk t
def unlinkE (x : PN) : Int := if (x.kind == 2) = true then 181 else 0
noncomputable def rmdirE (x : PN) : Int := if (!(x.kind == 2)) = true then 180 else if emptyB x.l = true then 0 else 182
section
variable {F : Nat → Prop} {P N : Nat} {y : Lay} {t : PT}
theorem t_unlink1 (Q L G : Nat) (x : PN) (w : World) (h : NodeM w Q L G N x) : Calls Tryz.prog 193 #[.pointer (some ⟨Q, 0, none⟩)] w fun e w' => e = .returned (.int .i64 (unlinkE x)) ∧ w = w' := by
 have k0 : w.cell? ⟨Q, 0, none⟩ = some (.int .u8 x.kind) := h.cell 0
 obtain ⟨d, hd⟩ : ∃ d, (x.kind == 2) = d := ⟨_, rfl⟩
 have HD := zz (t_isdir Q x.kind d hd w k0)
 have HA : Hid ((if d = true then (181 : Int) else 0) = unlinkE x) := by show _ = _; unfold unlinkE; rw [hd]
 clear hd h k0
 go_enter Tryz.func193, Tryz.ntmps193
 go_wp2_with (first | (go_at_call 125; refine HD.out.mono ?_; rintro e w' ⟨rfl, rfl⟩) | (go_at_call 120; refine (t_as d 181 _ HA.out _).mono ?_; rintro e w' ⟨rfl, rfl⟩))
 go_ret
 exact ⟨rfl, rfl⟩
theorem t_rmdir1 (Q L G : Nat) (x : PN) (w : World) (h : NodeM w Q L G N x) : Calls Tryz.prog 194 #[.pointer (some ⟨Q, 0, none⟩)] w fun e w' => e = .returned (.int .i64 (rmdirE x)) ∧ w = w' := by
 have k0 : w.cell? ⟨Q, 0, none⟩ = some (.int .u8 x.kind) := h.cell 0
 have k3 : w.cell? ⟨Q, 3, none⟩ = some (.map (some L)) := h.cell 3
 obtain ⟨n, hlen, hn⟩ := h.len
 obtain ⟨b, hb⟩ : ∃ b, decide (0 < n) = b := ⟨_, rfl⟩
 have hb2 : decide ((0 : Int) < (n : Int)) = b := by rw [← hb, decide_eq_decide]; omega
 rw [hb] at hn
 cases hd : (x.kind == 2) with
 | true =>
  have HD := zz (t_isdir Q x.kind true hd w k0)
  have HA : Hid ((if b = true then (182 : Int) else 0) = rmdirE x) := by show _ = _; unfold rmdirE; rw [hd, hn]; cases emptyB x.l <;> rfl
  clear hd h k0 hn
  go_enter Tryz.func194, Tryz.ntmps194
  go_wp2_with (first | (go_at_call 125; refine HD.out.mono ?_; rintro e w' ⟨rfl, rfl⟩) | (go_at_call 120; refine (t_as b 182 _ HA.out _).mono ?_; rintro e w' ⟨rfl, rfl⟩))
  go_ret
  exact ⟨rfl, rfl⟩
 | false =>
  have HD := zz (t_isdir Q x.kind false hd w k0)
  have HA : Hid (180 = rmdirE x) := by show _ = _; unfold rmdirE; rw [hd]; rfl
  clear hd h k0 hn
  go_enter Tryz.func194, Tryz.ntmps194
  go_wp2_with (go_at_call 125; refine HD.out.mono ?_; rintro e w' ⟨rfl, rfl⟩)
  go_ret
  exact ⟨pret_i64 HA.out, rfl⟩
theorem enters_unlink1 : Enters 193 := enters_of Tryz.func193 (by kernel_rfl) rfl
theorem enters_rmdir1 : Enters 194 := enters_of Tryz.func194 (by kernel_rfl) rfl
def dropT (t : PT) (dir : Int) (xd : PN) (s : ByteArray) (ino : Int) (xi : PN) : PT := freeP (leaveT t dir xd s ino xi) ino (outN xi)
def dropP (t : PT) (dir : Int) (s : ByteArray) (q : PN → Int) : (Int × Int) × PT :=
 if (lookP t dir s).2 ≠ 0 then ((0, (lookP t dir s).2), t) else match t.n dir, t.n (lookP t dir s).1 with
  | some xd, some xi => if q xi ≠ 0 then ((0, q xi), t) else (((lookP t dir s).1, 0), dropT t dir xd s (lookP t dir s).1 xi)
  | _, _ => ((0, 0), t)
theorem look_okP {dir : Int} {s : ByteArray} (hg : GoodP t) (h : (lookP t dir s).2 = 0) : ∃ xd xi, t.n dir = some xd ∧ xd.l s.data.toList = some (lookP t dir s).1 ∧ t.n (lookP t dir s).1 = some xi ∧ (lookP t dir s).1 ≠ dir ∧ 1 ≤ (lookP t dir s).1 ∧ (lookP t dir s).1 ≤ 4294967295 ∧ xd.kind = 2 := by
 unfold lookP at h ⊢
 by_cases he : firstE [namesE [s], thereE t [dir], dirsE t [dir]] ≠ 0
 · rw [if_pos he] at h; exact absurd h he
 · rw [if_neg he] at h ⊢
   have he' := Decidable.not_not.1 he
   obtain ⟨_, he'⟩ := firstE_cons he'
   obtain ⟨h2, he'⟩ := firstE_cons he'
   obtain ⟨h3, _⟩ := firstE_cons he'
   obtain ⟨xd, hx⟩ := Option.isSome_iff_exists.1 (there_one h2)
   rw [hx] at h ⊢
   simp only at h ⊢
   cases hl : xd.l s.data.toList with
   | none => rw [hl] at h; simp at h
   | some v =>
    obtain ⟨g1, g2, g3, g4⟩ := hg.ent dir xd _ v hx hl
    obtain ⟨xi, hi⟩ := Option.isSome_iff_exists.1 g4
    exact ⟨xd, xi, rfl, by simp [hl], by simpa using hi, by simpa using g1, by simpa using g2, by simpa using g3, dirs_zero h3 (by simp) hx⟩
set_option maxHeartbeats 4000000 in
theorem t_dropP (g : Nat) (eg : Enters g) (q : PN → Int) (hq : ∀ (Q L G N : Nat) (x : PN) (w : World), NodeM w Q L G N x → Calls Tryz.prog g #[.pointer (some ⟨Q, 0, none⟩)] w fun e w' => e = .returned (.int .i64 (q x)) ∧ w = w')
  (dir : Int) (s : ByteArray) (r1 r2 : Int) (t' : PT) (hr : dropP t dir s q = ((r1, r2), t')) (w : World) (h : TreeM w F P N y t) (hg : GoodP t) (hd : U32 dir) (hs : s.size ≤ maxLen) :
  Calls Tryz.prog 192 #[.pointer (some ⟨P, 0, none⟩), .int .u32 dir, .string s, .func (.func g) #[] #[]] w fun e w' => e = .returned (.tuple #[.int .u32 r1, .int .i64 r2]) ∧ Became w w' F P N t' := by
 obtain ⟨v, x, hl⟩ : ∃ v x, lookP t dir s = (v, x) := ⟨_, _, rfl⟩
 have HL := zz (t_look dir s v x hl w h hd hs)
 unfold Enters at eg
 have hr' := hr
 unfold dropP at hr'
 rw [hl] at hr'
 simp only at hr'
 by_cases hx : x = 0
 · subst hx
   rw [if_neg (by simp)] at hr'
   obtain ⟨xd, xi, h1, h2, h3, h4, h5, h6, h7⟩ := look_okP hg (dir := dir) (s := s) (by rw [hl])
   rw [hl] at h2 h3 h4 h5 h6
   simp only at h2 h3 h4 h5 h6
   rw [h1, h3] at hr'
   simp only at hr'
   by_cases hqx : q xi = 0
   · rw [if_neg (by rw [hqx]; simp)] at hr'
     have hP : Hid (r1 = v ∧ r2 = 0 ∧ t' = dropT t dir xd s v xi) := by
      injection hr' with a b
      injection a with a c
      exact ⟨a.symm, c.symm, b.symm⟩
     have HQ := zz (fun W (hW : Below w.heap.size w W) => hq _ _ _ _ xi W ((h.below hW).node v xi h3))
     have HLV := zz (fun W (hW : Below w.heap.size w W) => t_leave dir s v xd xi W (h.below hW) h1 h2 h3 h4 hs (hg.links v xi h3))
     have HF := zz (fun W (hW : TreeM W F P N y (leaveT t dir xd s v xi)) => t_freeP v (outN xi) W hW (by unfold leaveT; rw [PT.set_n, if_neg h4, PT.set_n, if_pos rfl]))
     have HT := zz h
     have H3 := zz h3
     have hqz : q xi = 0 := hqx
     clear hr hr' hl h h1 h2 h3 h4 hq hg
     rw [hqz] at HQ
     clear hqz hqx
     go_enter Tryz.func192, Tryz.ntmps192
     go_wp2_with (go_at_call 145; refine HL.out.mono ?_; rintro e w1 ⟨rfl, hB⟩; have c1 := (HT.out.below hB).c1; have hlk := (HT.out.below hB).look_some H3.out; have HQ1 := zz (HQ.out w1 hB); have HV1 := zz (HLV.out w1 hB); have HB := zz hB; clear hB)
     have hcq := HQ1.out
     go_wp2_with (first
      | (go_at_fn g; refine hcq.mono ?_; rintro e w2 ⟨rfl, rfl⟩; clear hcq)
      | (go_at_call 197; refine HV1.out.mono ?_; rintro e w3 ⟨rfl, hT3, hU3⟩; have H3 := zz hT3; have HU3 := zz hU3; clear hT3 hU3)
      | (go_at_call 189; refine (HF.out _ H3.out).mono ?_; rintro e w4 ⟨rfl, hT4, hU4⟩; have H4 := zz hT4; have HU4 := zz hU4; clear hT4 hU4))
     go_ret2
     obtain ⟨rfl, rfl, rfl⟩ := hP.out
     exact ⟨rfl, _, _, H4.out, (Turn.of_below F HB.out).trans (HU3.out.trans HU4.out)⟩
   · rw [if_pos hqx] at hr'
     have hP : Hid (r1 = 0 ∧ r2 = q xi ∧ t' = t) := by
      injection hr' with a b
      injection a with a c
      exact ⟨a.symm, c.symm, b.symm⟩
     have HQ := zz (fun W (hW : Below w.heap.size w W) => hq _ _ _ _ xi W ((h.below hW).node v xi h3))
     have HT := zz h
     have H3 := zz h3
     generalize q xi = z at *
     have hz : (z != 0) = true := by simpa using hqx
     clear hr hr' hl h h1 h2 h3 h4 hq hg hqx
     go_enter Tryz.func192, Tryz.ntmps192
     go_wp2_with (go_at_call 145; refine HL.out.mono ?_; rintro e w1 ⟨rfl, hB⟩; have c1 := (HT.out.below hB).c1; have hlk := (HT.out.below hB).look_some H3.out; have HQ1 := zz (HQ.out w1 hB); have HB := zz hB; clear hB)
     have hcq := HQ1.out
     go_wp2_with (go_at_fn g; refine hcq.mono ?_; rintro e w2 ⟨rfl, rfl⟩; clear hcq)
     go_ret2
     obtain ⟨rfl, rfl, rfl⟩ := hP.out
     exact ⟨rfl, _, _, HT.out.below HB.out, Turn.of_below F HB.out⟩
 · rw [if_pos hx] at hr'
   have hP : Hid (r1 = 0 ∧ r2 = x ∧ t' = t) := by
    injection hr' with a b
    injection a with a c
    exact ⟨a.symm, c.symm, b.symm⟩
   have HT := zz h
   have hx1 : (x != 0) = true := by simpa using hx
   have hx2 : (x == 0) = false := by simpa using hx
   clear hr hr' hl hx h hq hg
   go_enter Tryz.func192, Tryz.ntmps192
   go_wp2_with (go_at_call 145; refine HL.out.mono ?_; rintro e w1 ⟨rfl, hB⟩; have HB := zz hB; clear hB)
   go_ret2
   obtain ⟨rfl, rfl, rfl⟩ := hP.out
   exact ⟨rfl, _, _, HT.out.below HB.out, Turn.of_below F HB.out⟩
end
end
section
open Go.RowKit Go.Maps
section
variable {F : Nat → Prop} {P N : Nat} {y : Lay} {t : PT}
theorem t_unlinkP (dir : Int) (s : ByteArray) (r1 r2 : Int) (t' : PT) (hr : dropP t dir s unlinkE = ((r1, r2), t')) (w : World) (h : TreeM w F P N y t) (hg : GoodP t) (hd : U32 dir) (hs : s.size ≤ maxLen) :
  Calls Tryz.prog 116 #[.pointer (some ⟨P, 0, none⟩), .int .u32 dir, .string s] w fun e w' => e = .returned (.tuple #[.int .u32 r1, .int .i64 r2]) ∧ Became w w' F P N t' := by
 have HD := zz (t_dropP 193 enters_unlink1 unlinkE (fun Q L G N x w h => t_unlink1 Q L G x w h) dir s r1 r2 t' hr w h hg hd hs)
 clear hr h hg
 go_enter Tryz.func116, Tryz.ntmps116
 go_wp2_with (go_at_call 192; refine HD.out.mono ?_; rintro e w1 ⟨rfl, hB⟩; have HB := zz hB; clear hB)
 go_ret2
 exact ⟨rfl, HB.out⟩
theorem t_rmdirP (dir : Int) (s : ByteArray) (r1 r2 : Int) (t' : PT) (hr : dropP t dir s rmdirE = ((r1, r2), t')) (w : World) (h : TreeM w F P N y t) (hg : GoodP t) (hd : U32 dir) (hs : s.size ≤ maxLen) :
  Calls Tryz.prog 117 #[.pointer (some ⟨P, 0, none⟩), .int .u32 dir, .string s] w fun e w' => e = .returned (.tuple #[.int .u32 r1, .int .i64 r2]) ∧ Became w w' F P N t' := by
 have HD := zz (t_dropP 194 enters_rmdir1 rmdirE (fun Q L G N x w h => t_rmdir1 Q L G x w h) dir s r1 r2 t' hr w h hg hd hs)
 clear hr h hg
 go_enter Tryz.func117, Tryz.ntmps117
 go_wp2_with (go_at_call 192; refine HD.out.mono ?_; rintro e w1 ⟨rfl, hB⟩; have HB := zz hB; clear hB)
 go_ret2
 exact ⟨rfl, HB.out⟩
theorem asked1 {W : World} {v1 : Value} {e1 : Int} (q1 : Question W v1 e1) : Asked W [v1] [e1] := by
 refine Asked.of W _ _ rfl fun j e v he hv h0 => ?_
 match j with
 | 0 => simp at he hv; subst he; subst hv; exact q1
 | j + 1 => simp at he
theorem asked3 {W : World} {i : Int} {v1 v2 v3 : Value} {e3 : Int} (q1 : Question W v1 (thereE t [i])) (q2 : (t.n i).isSome = true → Question W v2 (fileE' t i)) (q3 : Question W v3 e3) : Asked W [v1, v2, v3] [thereE t [i], fileE' t i, e3] := by
 refine Asked.of W _ _ rfl fun j e v he hv h0 => ?_
 match j with
 | 0 => simp at he hv; subst he; subst hv; exact q1
 | 1 => simp at he hv; subst he; subst hv; exact q2 (there_one (h0 0 _ (by omega) rfl))
 | 2 => simp at he hv; subst he; subst hv; exact q3
 | j + 3 => simp at he
theorem asked4 {W : World} {i : Int} {v1 v2 v3 v4 : Value} {e3 e4 : Int} (q1 : Question W v1 (thereE t [i])) (q2 : (t.n i).isSome = true → Question W v2 (fileE' t i)) (q3 : Question W v3 e3) (q4 : Question W v4 e4) : Asked W [v1, v2, v3, v4] [thereE t [i], fileE' t i, e3, e4] := by
 refine Asked.of W _ _ rfl fun j e v he hv h0 => ?_
 match j with
 | 0 => simp at he hv; subst he; subst hv; exact q1
 | 1 => simp at he hv; subst he; subst hv; exact q2 (there_one (h0 0 _ (by omega) rfl))
 | 2 => simp at he hv; subst he; subst hv; exact q3
 | 3 => simp at he hv; subst he; subst hv; exact q4
 | j + 4 => simp at he
theorem file_zero {i : Int} {x : PN} (hx : t.n i = some x) (h : fileE' t i = 0) : x.kind ≠ 2 := by
 unfold fileE' fileQE at h
 rw [hx] at h
 intro hk
 simp [hk] at h
theorem below_a1 (w : World) (a : Obj) : Below w.heap.size w (w.alloc a) := (Below.refl _ _).alloc (Nat.le_refl _) _
theorem below_a2 (w : World) (a b : Obj) : Below w.heap.size w ((w.alloc a).alloc b) := (below_a1 w a).alloc (by simp) _
theorem QPost.get {w w' : World} {r : Int} {e : Ending} (h : QPost w r e w') : ∃ g lb, e = .returned (.func (.func g) #[] lb) ∧ Question w' (.func (.func g) #[] lb) r ∧ Below w.heap.size w w' := by
 obtain ⟨v, rfl, hq, hb⟩ := h
 obtain ⟨g, lb, rfl, hq2⟩ := id hq
 exact ⟨g, lb, rfl, hq, hb⟩
theorem SliceAt.built' (w : World) (xs : List Value) (T : TypeId) (B : Nat) (hB : w.heap.size = B) : SliceAt (w.alloc (.cells xs.toArray T)) (some ⟨B, 0, none⟩) xs := by subst hB; exact SliceAt.built w xs T
theorem there_later {w : World} (h : TreeM w F P N y t) (i : Int) (hi : U32 i) : ∀ W A c, Below w.heap.size w W → SliceAt W A [.int .u32 i] → Calls Tryz.prog 81 #[.pointer (some ⟨P, 0, none⟩), .slice A 1 c] W (QPost W (thereE t [i])) :=
 fun W A c hb hA => t_there [i] A 1 c _ rfl W (h.below hb) rfl (by simpa using hi) (by simp [maxLen]) hA
theorem file_later {w : World} (h : TreeM w F P N y t) (i : Int) : ∀ W, Below w.heap.size w W → Calls Tryz.prog 89 #[.pointer (some ⟨P, 0, none⟩), .int .u32 i] W (QIf ((t.n i).isSome = true) W (fileE' t i)) :=
 fun W hb => t_file i _ rfl W (h.below hb)
theorem check_built (W : World) (P : Nat) (vs : List Value) (n : Nat) (es : List Int) (r : Int) (hr : firstE es = r) (T : TypeId) (hn : vs.length = n) (hm : n ≤ 100) (hq : Asked W vs es) (hne : es ≠ []) :
  Calls Tryz.prog 80 #[.pointer (some ⟨P, 0, none⟩), .slice (some ⟨W.heap.size, 0, none⟩) n n] (W.alloc (.cells vs.toArray T)) fun e w' => e = .returned (.int .i64 r) ∧ Below (W.alloc (.cells vs.toArray T)).heap.size (W.alloc (.cells vs.toArray T)) w' :=
 t_checkL ⟨P, 0, none⟩ _ vs n n es r hr _ hn (by unfold maxLen; omega) (SliceAt.built W vs T) (hq.later (below_a1 W _)) hne
def statP (i : Int) (x : PN) : Value := .agg #[.int .u32 i, .int .u8 x.kind, .int .i64 x.links, .int .u32 x.size]
def stat0 : Value := .agg #[.int .u32 0, .int .u8 0, .int .i64 0, .int .u32 0]
def statR (t : PT) (i : Int) : Value × Int := match t.n i with | some x => (statP i x, 0) | none => (stat0, 3)
def put4 (w : World) (B : Nat) (a b c d : Value) : World := (((w.setCell ⟨B, 0, none⟩ a).setCell ⟨B, 1, none⟩ b).setCell ⟨B, 2, none⟩ c).setCell ⟨B, 3, none⟩ d
theorem put4_cells {w : World} {B : Nat} {a0 b0 c0 d0 : Value} {T : TypeId} (h : w.heap[B]? = some (.cells #[a0, b0, c0, d0] T (0, 0))) (a b c d : Value) :
  (put4 w B a b c d).cell? ⟨B, 0, none⟩ = some a ∧ (put4 w B a b c d).cell? ⟨B, 1, none⟩ = some b ∧ (put4 w B a b c d).cell? ⟨B, 2, none⟩ = some c ∧ (put4 w B a b c d).cell? ⟨B, 3, none⟩ = some d := by
 have := pheap_set _ B 3 d _ _ (pheap_set _ B 2 c _ _ (pheap_set _ B 1 b _ _ (pheap_set w B 0 a _ _ h)))
 unfold put4
 refine ⟨?_, ?_, ?_, ?_⟩ <;> simp [World.cell?, this]
theorem put4_below {w w' : World} {B : Nat} (h : Below w.heap.size w w') (hB : w.heap.size ≤ B) (a b c d : Value) : Below w.heap.size w (put4 w' B a b c d) :=
 (((h.setCell (p := ⟨B, 0, none⟩) hB a).setCell (p := ⟨B, 1, none⟩) hB b).setCell (p := ⟨B, 2, none⟩) hB c).setCell (p := ⟨B, 3, none⟩) hB d
set_option maxRecDepth 100000 in
set_option maxHeartbeats 1000000 in
theorem t_statP (i : Int) (w : World) (h : TreeM w F P N y t) (hi : U32 i) :
  Calls Tryz.prog 48 #[.pointer (some ⟨P, 0, none⟩), .int .u32 i] w fun e w' => e = .returned (.tuple #[(statR t i).1, .int .i64 (statR t i).2]) ∧ Below w.heap.size w w' := by
 have HTh := zz (there_later h i hi)
 have HT := zz h
 cases hx : t.n i with
 | none =>
  have HE : Hid (firstE [thereE t [i]] = 3) := by show _ = _; simp [firstE, thereE, hx]
  have HS : Hid (statR t i = (stat0, 3)) := by show _ = _; unfold statR; rw [hx]
  clear h hi hx
  go_enter Tryz.func48, Tryz.ntmps48
  have hS := heap_alloc_new w (.cells #[.int .u32 0, .int .u8 0, .int .i64 0, .int .u32 0] 36)
  have HS0 := zz hS
  clear hS
  go_wp2_with (first
   | (go_at_call 81; (with_reducible refine (HTh.out _ _ _ (below_a2 w _ _) (SliceAt.built' _ [.int .u32 i] _ (w.heap.size + 1) (by simp))).mono ?_); rintro e w1 hq; obtain ⟨g, lb, rfl, hq1, hb1⟩ := hq.get; have HQ := zz hq1; have HB1 := zz hb1; clear hq hq1 hb1)
   | (go_at_call 80; (with_reducible refine (check_built w1 P [.func (.func g) #[] lb] 1 [thereE t [i]] 3 HE.out _ rfl (by omega) (asked1 HQ.out) (by simp)).mono ?_); rintro e w2 ⟨rfl, hb2⟩
      have hb : Below (w.alloc (.cells #[.int .u32 0, .int .u8 0, .int .i64 0, .int .u32 0] 36)).heap.size (w.alloc (.cells #[.int .u32 0, .int .u8 0, .int .i64 0, .int .u32 0] 36)) w2 := ptrans (below_a1 _ _) (ptrans HB1.out (ptrans (below_a1 _ _) hb2))
      have hbx : w2.heap[w.heap.size]? = some (.cells #[.int .u32 0, .int .u8 0, .int .i64 0, .int .u32 0] 36 (0, 0)) := (hb.block _ (by simp)).trans HS0.out
      have k0 : w2.cell? ⟨w.heap.size, 0, none⟩ = some (.int .u32 0) := (by simp [World.cell?, hbx])
      have k1 : w2.cell? ⟨w.heap.size, 1, none⟩ = some (.int .u8 0) := (by simp [World.cell?, hbx])
      have k2 : w2.cell? ⟨w.heap.size, 2, none⟩ = some (.int .i64 0) := (by simp [World.cell?, hbx])
      have k3 : w2.cell? ⟨w.heap.size, 3, none⟩ = some (.int .u32 0) := (by simp [World.cell?, hbx])
      have f0 : w2.frozen? ⟨w.heap.size, 0, none⟩ = false := (by simp [World.frozen?, hbx])
      have f1 : w2.frozen? ⟨w.heap.size, 1, none⟩ = false := (by simp [World.frozen?, hbx])
      have f2 : w2.frozen? ⟨w.heap.size, 2, none⟩ = false := (by simp [World.frozen?, hbx])
      have f3 : w2.frozen? ⟨w.heap.size, 3, none⟩ = false := (by simp [World.frozen?, hbx])
      have HB := zz (ptrans (below_a1 w _) hb)
      have HBX := zz hbx
      clear hb hbx hb2 HB1 HQ))
  obtain ⟨kk0, kk1, kk2, kk3⟩ := put4_cells HBX.out (.int .u32 0) (.int .u8 0) (.int .i64 0) (.int .u32 0)
  unfold put4 at kk0 kk1 kk2 kk3
  rw [HS.out]
  exact bodyPost_ret (v := .tuple #[stat0, .int .i64 3]) (by simp [results, Tryz.results48, go_sem, stat0, kk0, kk1, kk2, kk3]) rfl ⟨rfl, put4_below HB.out (Nat.le_refl _) _ _ _ _⟩
 | some x =>
  have HE : Hid (firstE [thereE t [i]] = 0) := by show _ = _; simp [firstE, thereE, hx]
  have HS : Hid (statR t i = (statP i x, 0)) := by show _ = _; unfold statR; rw [hx]
  have HX := zz hx
  clear h hi hx
  go_enter Tryz.func48, Tryz.ntmps48
  have hS := heap_alloc_new w (.cells #[.int .u32 0, .int .u8 0, .int .i64 0, .int .u32 0] 36)
  have HS0 := zz hS
  clear hS
  go_wp2_with (first
   | (go_at_call 81; (with_reducible refine (HTh.out _ _ _ (below_a2 w _ _) (SliceAt.built' _ [.int .u32 i] _ (w.heap.size + 1) (by simp))).mono ?_); rintro e w1 hq; obtain ⟨g, lb, rfl, hq1, hb1⟩ := hq.get; have HQ := zz hq1; have HB1 := zz hb1; clear hq hq1 hb1)
   | (go_at_call 80; (with_reducible refine (check_built w1 P [.func (.func g) #[] lb] 1 [thereE t [i]] 0 HE.out _ rfl (by omega) (asked1 HQ.out) (by simp)).mono ?_); rintro e w2 ⟨rfl, hb2⟩
      have hb : Below (w.alloc (.cells #[.int .u32 0, .int .u8 0, .int .i64 0, .int .u32 0] 36)).heap.size (w.alloc (.cells #[.int .u32 0, .int .u8 0, .int .i64 0, .int .u32 0] 36)) w2 := ptrans (below_a1 _ _) (ptrans HB1.out (ptrans (below_a1 _ _) hb2))
      have hbx : w2.heap[w.heap.size]? = some (.cells #[.int .u32 0, .int .u8 0, .int .i64 0, .int .u32 0] 36 (0, 0)) := (hb.block _ (by simp)).trans HS0.out
      have k0 : w2.cell? ⟨w.heap.size, 0, none⟩ = some (.int .u32 0) := (by simp [World.cell?, hbx])
      have k1 : w2.cell? ⟨w.heap.size, 1, none⟩ = some (.int .u8 0) := (by simp [World.cell?, hbx])
      have k2 : w2.cell? ⟨w.heap.size, 2, none⟩ = some (.int .i64 0) := (by simp [World.cell?, hbx])
      have k3 : w2.cell? ⟨w.heap.size, 3, none⟩ = some (.int .u32 0) := (by simp [World.cell?, hbx])
      have f0 : w2.frozen? ⟨w.heap.size, 0, none⟩ = false := (by simp [World.frozen?, hbx])
      have f1 : w2.frozen? ⟨w.heap.size, 1, none⟩ = false := (by simp [World.frozen?, hbx])
      have f2 : w2.frozen? ⟨w.heap.size, 2, none⟩ = false := (by simp [World.frozen?, hbx])
      have f3 : w2.frozen? ⟨w.heap.size, 3, none⟩ = false := (by simp [World.frozen?, hbx])
      have hT2 := HT.out.below (ptrans (below_a1 w _) hb)
      have c1 := hT2.c1
      have hlk := hT2.look_some HX.out
      have n0 : w2.cell? ⟨y.f i, 0, none⟩ = some (.int .u8 x.kind) := (hT2.node i x HX.out).cell 0
      have n1 : w2.cell? ⟨y.f i, 1, none⟩ = some (.int .i64 x.links) := (hT2.node i x HX.out).cell 1
      have n2 : w2.cell? ⟨y.f i, 2, none⟩ = some (.int .u32 x.size) := (hT2.node i x HX.out).cell 2
      have hne : y.f i ≠ w.heap.size := (by have := (HT.out.node i x HX.out).ltQ; omega)
      have HB := zz (ptrans (below_a1 w _) hb)
      have HBX := zz hbx
      clear hb hbx hb2 HB1 HQ hT2))
  have hne2 : w.heap.size ≠ y.f i := Ne.symm hne
  go_region_held3 (fun w' => w'.cell? ⟨y.f i, 0, none⟩ = some (.int .u8 x.kind) ∧ w'.cell? ⟨y.f i, 1, none⟩ = some (.int .i64 x.links) ∧ w'.cell? ⟨y.f i, 2, none⟩ = some (.int .u32 x.size)) (first | exact ⟨n0, n1, n2⟩ | go_keep) (fail)
  obtain ⟨kk0, kk1, kk2, kk3⟩ := put4_cells HBX.out (.int .u32 i) (.int .u8 x.kind) (.int .i64 x.links) (.int .u32 x.size)
  have HBD := zz (pbelow_drew (put4_below HB.out (Nat.le_refl _) (.int .u32 i) (.int .u8 x.kind) (.int .i64 x.links) (.int .u32 x.size)))
  unfold put4 at kk0 kk1 kk2 kk3
  go_wp2
  rw [HS.out]
  exact bodyPost_ret (v := .tuple #[statP i x, .int .i64 0]) (by simp [results, Tryz.results48, go_sem, statP, kk0, kk1, kk2, kk3]) rfl ⟨rfl, HBD.out⟩
end
end
end Go.Proofs.YtpcnolkdnmolgaaGreatDoor
