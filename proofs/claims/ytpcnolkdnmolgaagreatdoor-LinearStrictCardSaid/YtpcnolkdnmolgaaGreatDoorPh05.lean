/- The program's tree: MakeAt. -/
import Derived.Test.YtpcnolkdnmolgaaGreatDoorPh04
namespace Go.Proofs.YtpcnolkdnmolgaaGreatDoor
section
open Go.RowKit Go.Maps
def Became (w w' : World) (F : Nat → Prop) (P N : Nat) (t : PT) : Prop := ∃ y' F', TreeM w' F' P N y' t ∧ Turn w w' F F'
section
variable {F : Nat → Prop} {P N : Nat} {y : Lay} {t : PT}
theorem makeAt_asked {W : World} {dir ino kind : Int} {s : ByteArray} {v1 v2 v3 v4 v5 v6 v7 : Value} (q1 : Question W v1 (namesE [s])) (q2 : Question W v2 (kindsE kind)) (q3 : Question W v3 (roomE t ino)) (q4 : Question W v4 (thereE t [dir]))
  (q5 : (∀ i ∈ [dir], (t.n i).isSome = true) → Question W v5 (dirsE t [dir])) (q6 : (t.n dir).isSome = true → Question W v6 (freshE' t dir s)) (q7 : Question W v7 (haveE t ino)) :
  Asked W [v1, v2, v3, v4, v5, v6, v7] [namesE [s], kindsE kind, roomE t ino, thereE t [dir], dirsE t [dir], freshE' t dir s, haveE t ino] := by
 refine Asked.of W _ _ rfl fun j e v he hv h0 => ?_
 match j with
 | 0 => simp at he hv; subst he; subst hv; exact q1
 | 1 => simp at he hv; subst he; subst hv; exact q2
 | 2 => simp at he hv; subst he; subst hv; exact q3
 | 3 => simp at he hv; subst he; subst hv; exact q4
 | 4 => simp at he hv; subst he; subst hv; exact q5 (by simpa using there_one (h0 3 _ (by omega) rfl))
 | 5 => simp at he hv; subst he; subst hv; exact q6 (there_one (h0 3 _ (by omega) rfl))
 | 6 => simp at he hv; subst he; subst hv; exact q7
 | j + 7 => simp at he
def makeAtE (t : PT) (dir : Int) (s : ByteArray) (kind ino : Int) : Int := firstE [namesE [s], kindsE kind, roomE t ino, thereE t [dir], dirsE t [dir], freshE' t dir s, haveE t ino]
def makeT (t : PT) (dir : Int) (s : ByteArray) (kind ino : Int) : PT := match t.n dir with
 | some xd => enterT (t.set ino (newN kind)) dir xd s ino (newN kind)
 | none => t
def makeAtP (t : PT) (dir : Int) (s : ByteArray) (kind ino : Int) : Int × PT := if makeAtE t dir s kind ino = 0 then (0, makeT t dir s kind ino) else (makeAtE t dir s kind ino, t)
theorem firstE_cons {a : Int} {l : List Int} (h : firstE (a :: l) = 0) : a = 0 ∧ firstE l = 0 := by
 unfold firstE at h
 split at h
 · rename_i ha; exact ⟨ha, h⟩
 · rename_i ha; exact absurd h ha
theorem makeAtE_zero {dir ino kind : Int} {s : ByteArray} (h : makeAtE t dir s kind ino = 0) : (kind = 1 ∨ kind = 2) ∧ 1 ≤ ino ∧ ino ≤ t.room ∧ (∃ xd, t.n dir = some xd ∧ xd.kind = 2 ∧ (xd.l s.data.toList).getD 0 = 0) ∧ t.n ino = none := by
 unfold makeAtE at h
 obtain ⟨h1, h⟩ := firstE_cons h
 obtain ⟨h2, h⟩ := firstE_cons h
 obtain ⟨h3, h⟩ := firstE_cons h
 obtain ⟨h4, h⟩ := firstE_cons h
 obtain ⟨h5, h⟩ := firstE_cons h
 obtain ⟨h6, h⟩ := firstE_cons h
 obtain ⟨h7, _⟩ := firstE_cons h
 obtain ⟨xd, hx⟩ := Option.isSome_iff_exists.1 (there_one h4)
 refine ⟨?_, ?_, ?_, ⟨xd, hx, ?_, ?_⟩, ?_⟩
 · unfold kindsE at h2
   by_cases a : kind = 1
   · exact .inl a
   · by_cases b : kind = 2
     · exact .inr b
     · simp [a, b] at h2
 · unfold roomE at h3
   by_cases a : ino < 1
   · simp [a] at h3
   · omega
 · unfold roomE at h3
   by_cases a : t.room < ino
   · simp [a] at h3
   · omega
 · unfold dirsE isFile at h5
   by_cases a : xd.kind = 2
   · exact a
   · simp [hx, a] at h5
 · unfold freshE' freshE at h6
   rw [hx] at h6
   by_cases a : (xd.l s.data.toList).getD 0 = 0
   · exact a
   · simp [a] at h6
 · unfold haveE at h7
   cases hi : t.n ino with
   | none => rfl
   | some x => simp [hi] at h7
set_option maxRecDepth 100000 in
set_option maxHeartbeats 8000000 in
theorem t_makeAt (dir : Int) (s : ByteArray) (kind ino r : Int) (t' : PT) (hr : makeAtP t dir s kind ino = (r, t')) (w : World) (h : TreeM w F P N y t) (hN : N < 900000) (hd : U32 dir) (hi : U32 ino) (hs : s.size ≤ maxLen) :
  Calls Tryz.prog 185 #[.pointer (some ⟨P, 0, none⟩), .int .u32 dir, .string s, .int .u8 kind, .int .u32 ino] w fun e w' => e = .returned (.int .i64 r) ∧ Became w w' F P (N + 2) t' := by
 go_enter Tryz.func185, Tryz.ntmps185
 go_wp2
 obtain ⟨w0, hw0⟩ : ∃ w0, (w.alloc (.cells #[.pointer (some ⟨P, 0, none⟩)] 43)).alloc (.cells #[.int .u32 ino] 29) = w0 := ⟨_, rfl⟩
 obtain ⟨hBw, b5, b9, hsz⟩ := two_boxes w (.pointer (some ⟨P, 0, none⟩)) (.int .u32 ino) 43 29
 rw [hw0] at hBw b5 b9 hsz ⊢
 have hT : TreeM w0 F P N y t := h.below hBw
 clear hw0
 refine wp_region_all (phi [isV (.pointer (some ⟨P, 0, none⟩)), isV (.string s), isSl [.string s], isQ True (namesE [s]), isV (.int .u8 kind), isQ True (kindsE kind), isV (.func (.func 245) #[] #[.pointer (some ⟨w.heap.size + 1, 0, none⟩), .pointer (some ⟨w.heap.size, 0, none⟩)]), isV (.pointer (some ⟨P, 0, none⟩)), isV (.int .u32 dir), isSl [.int .u32 dir], isQ True (thereE t [dir]), isV (.pointer (some ⟨P, 0, none⟩)), isV (.int .u32 dir), isSl [.int .u32 dir], isQ (∀ i ∈ [dir], (t.n i).isSome = true) (dirsE t [dir]), isV (.pointer (some ⟨P, 0, none⟩)), isV (.int .u32 dir), isV (.string s), isQ ((t.n dir).isSome = true) (freshE' t dir s), isV (.func (.func 246) #[] #[.pointer (some ⟨w.heap.size, 0, none⟩), .pointer (some ⟨w.heap.size + 1, 0, none⟩)]), isAsk 7 [namesE [s], kindsE kind, roomE t ino, thereE t [dir], dirsE t [dir], freshE' t dir s, haveE t ino], isV (.int .i64 (firstE [namesE [s], kindsE kind, roomE t ino, thereE t [dir], dirsE t [dir], freshE' t dir s, haveE t ino])), isV (.int .i64 (firstE [namesE [s], kindsE kind, roomE t ino, thereE t [dir], dirsE t [dir], freshE' t dir s, haveE t ino]))]) (by kernel_rfl) (by kernel_rfl) ?_ ?_ ?_
 · refine stays_phi ?_
   simp only [List.forall_mem_cons]
   exact ⟨stays_V _, stays_V _, stays_Sl _, stays_Q _ _, stays_V _, stays_Q _ _, stays_V _, stays_V _, stays_V _, stays_Sl _, stays_Q _ _, stays_V _, stays_V _, stays_Sl _, stays_Q _ _, stays_V _, stays_V _, stays_V _, stays_Q _ _, stays_V _, stays_Ask _ _, stays_V _, stays_V _, fun _ h => absurd h (by simp)⟩
 · refine ⟨?_, ?_, ?_, ?_, ?_, ?_, ?_, ?_, ?_, ?_, ?_, ?_, ?_, ?_, ?_, ?_, ?_, ?_, ?_, ?_, ?_, ?_, ?_, trivial⟩
   · refine op_mk rfl fun a W hB hp hq K hK => ?_
     have e5 : a.tmps[5]?.getD undef = .pointer (some ⟨w.heap.size, 0, none⟩) := hp 5 (by kernel_rfl)
     have cc := box_at hB b5
     clear hp hq
     go_simp
     exact hK _ _ (Below.refl _ _) rfl
   · refine op_mk rfl fun a W hB hp hq K hK => ?_
     have e2 : a.tmps[2]?.getD undef = (.string s) := hp 2 (by kernel_rfl)
     clear hp hq
     go_simp
     exact hK _ _ (Below.refl _ _) rfl
   · refine op_mk rfl fun a W hB hp hq K hK => ?_
     have e13 : a.tmps[13]?.getD undef = .string s := hq 1 13 (by kernel_rfl) (by kernel_rfl)
     clear hp hq
     go_simp
     exact hK _ _ ((Below.refl _ _).alloc (Nat.le_refl _) _) ⟨_, _, rfl, SliceAt.built _ _ _⟩
   · refine op_mk rfl fun a W hB hp hq K hK => ?_
     obtain ⟨A, c, e14, hA⟩ : isSl [.string s] (a.tmps[14]?.getD undef) W := hq 2 14 (by kernel_rfl) (by kernel_rfl)
     have HA := zz hA
     clear hA
     have HB := zz hB
     clear hp hq hB
     go_simp
     refine (t_names [s] A 1 c _ rfl W rfl (by simpa using hs) (by simp [maxLen]) HA.out).mono ?_
     rintro e w' ⟨v, rfl, hv, hb⟩
     exact hK _ _ hb (isQ.of hv)
   · refine op_mk rfl fun a W hB hp hq K hK => ?_
     have e3 : a.tmps[3]?.getD undef = (.int .u8 kind) := hp 3 (by kernel_rfl)
     clear hp hq
     go_simp
     exact hK _ _ (Below.refl _ _) rfl
   · refine op_mk rfl fun a W hB hp hq K hK => ?_
     have e16 : a.tmps[16]?.getD undef = .int .u8 kind := hq 4 16 (by kernel_rfl) (by kernel_rfl)
     have HB := zz hB
     clear hp hq hB
     go_simp
     refine (t_kinds kind _ rfl W).mono ?_
     rintro e w' ⟨v, rfl, hv, hb⟩
     exact hK _ _ hb (isQ.of hv)
   · refine op_mk rfl fun a W hB hp hq K hK => ?_
     have e9 : a.tmps[9]?.getD undef = .pointer (some ⟨w.heap.size + 1, 0, none⟩) := hp 9 (by kernel_rfl)
     have e5 : a.tmps[5]?.getD undef = .pointer (some ⟨w.heap.size, 0, none⟩) := hp 5 (by kernel_rfl)
     clear hp hq
     go_simp
     exact hK _ _ (Below.refl _ _) rfl
   · refine op_mk rfl fun a W hB hp hq K hK => ?_
     have e5 : a.tmps[5]?.getD undef = .pointer (some ⟨w.heap.size, 0, none⟩) := hp 5 (by kernel_rfl)
     have cc := box_at hB b5
     clear hp hq
     go_simp
     exact hK _ _ (Below.refl _ _) rfl
   · refine op_mk rfl fun a W hB hp hq K hK => ?_
     have e1 : a.tmps[1]?.getD undef = (.int .u32 dir) := hp 1 (by kernel_rfl)
     clear hp hq
     go_simp
     exact hK _ _ (Below.refl _ _) rfl
   · refine op_mk rfl fun a W hB hp hq K hK => ?_
     have e20 : a.tmps[20]?.getD undef = .int .u32 dir := hq 8 20 (by kernel_rfl) (by kernel_rfl)
     clear hp hq
     go_simp
     exact hK _ _ ((Below.refl _ _).alloc (Nat.le_refl _) _) ⟨_, _, rfl, SliceAt.built _ _ _⟩
   · refine op_mk rfl fun a W hB hp hq K hK => ?_
     have e19 : a.tmps[19]?.getD undef = .pointer (some ⟨P, 0, none⟩) := hq 7 19 (by kernel_rfl) (by kernel_rfl)
     obtain ⟨A, c, e21, hA⟩ : isSl [.int .u32 dir] (a.tmps[21]?.getD undef) W := hq 9 21 (by kernel_rfl) (by kernel_rfl)
     have HA := zz hA
     clear hA
     have HB := zz hB
     clear hp hq hB
     go_simp
     refine (t_there [dir] A 1 c _ rfl W (hT.below HB.out) rfl (by simpa using hd) (by simp [maxLen]) HA.out).mono ?_
     rintro e w' ⟨v, rfl, hv, hb⟩
     exact hK _ _ hb (isQ.of hv)
   · refine op_mk rfl fun a W hB hp hq K hK => ?_
     have e5 : a.tmps[5]?.getD undef = .pointer (some ⟨w.heap.size, 0, none⟩) := hp 5 (by kernel_rfl)
     have cc := box_at hB b5
     clear hp hq
     go_simp
     exact hK _ _ (Below.refl _ _) rfl
   · refine op_mk rfl fun a W hB hp hq K hK => ?_
     have e1 : a.tmps[1]?.getD undef = (.int .u32 dir) := hp 1 (by kernel_rfl)
     clear hp hq
     go_simp
     exact hK _ _ (Below.refl _ _) rfl
   · refine op_mk rfl fun a W hB hp hq K hK => ?_
     have e24 : a.tmps[24]?.getD undef = .int .u32 dir := hq 12 24 (by kernel_rfl) (by kernel_rfl)
     clear hp hq
     go_simp
     exact hK _ _ ((Below.refl _ _).alloc (Nat.le_refl _) _) ⟨_, _, rfl, SliceAt.built _ _ _⟩
   · refine op_mk rfl fun a W hB hp hq K hK => ?_
     have e23 : a.tmps[23]?.getD undef = .pointer (some ⟨P, 0, none⟩) := hq 11 23 (by kernel_rfl) (by kernel_rfl)
     obtain ⟨A, c, e25, hA⟩ : isSl [.int .u32 dir] (a.tmps[25]?.getD undef) W := hq 13 25 (by kernel_rfl) (by kernel_rfl)
     have HA := zz hA
     clear hA
     have HB := zz hB
     clear hp hq hB
     go_simp
     refine (t_dirsI [dir] A 1 c _ rfl W (hT.below HB.out) rfl (by simp [maxLen]) HA.out).mono ?_
     rintro e w' ⟨g, lb, rfl, hv, hb⟩
     exact hK _ _ hb ⟨g, lb, rfl, hv⟩
   · refine op_mk rfl fun a W hB hp hq K hK => ?_
     have e5 : a.tmps[5]?.getD undef = .pointer (some ⟨w.heap.size, 0, none⟩) := hp 5 (by kernel_rfl)
     have cc := box_at hB b5
     clear hp hq
     go_simp
     exact hK _ _ (Below.refl _ _) rfl
   · refine op_mk rfl fun a W hB hp hq K hK => ?_
     have e1 : a.tmps[1]?.getD undef = (.int .u32 dir) := hp 1 (by kernel_rfl)
     clear hp hq
     go_simp
     exact hK _ _ (Below.refl _ _) rfl
   · refine op_mk rfl fun a W hB hp hq K hK => ?_
     have e2 : a.tmps[2]?.getD undef = (.string s) := hp 2 (by kernel_rfl)
     clear hp hq
     go_simp
     exact hK _ _ (Below.refl _ _) rfl
   · refine op_mk rfl fun a W hB hp hq K hK => ?_
     have e27 : a.tmps[27]?.getD undef = .pointer (some ⟨P, 0, none⟩) := hq 15 27 (by kernel_rfl) (by kernel_rfl)
     have e28 : a.tmps[28]?.getD undef = .int .u32 dir := hq 16 28 (by kernel_rfl) (by kernel_rfl)
     have e29 : a.tmps[29]?.getD undef = .string s := hq 17 29 (by kernel_rfl) (by kernel_rfl)
     have HB := zz hB
     clear hp hq hB
     go_simp
     refine (t_fresh dir s _ rfl W (hT.below HB.out) hs).mono ?_
     rintro e w' ⟨g, lb, rfl, hv, hb⟩
     exact hK _ _ hb ⟨g, lb, rfl, hv⟩
   · refine op_mk rfl fun a W hB hp hq K hK => ?_
     have e5 : a.tmps[5]?.getD undef = .pointer (some ⟨w.heap.size, 0, none⟩) := hp 5 (by kernel_rfl)
     have e9 : a.tmps[9]?.getD undef = .pointer (some ⟨w.heap.size + 1, 0, none⟩) := hp 9 (by kernel_rfl)
     clear hp hq
     go_simp
     exact hK _ _ (Below.refl _ _) rfl
   · refine op_mk rfl fun a W hB hp hq K hK => ?_
     obtain ⟨g1, l1, q1, h1⟩ : isQ True (namesE [s]) (a.tmps[15]?.getD undef) W := hq 3 15 (by kernel_rfl) (by kernel_rfl)
     obtain ⟨g2, l2, q2, h2⟩ : isQ True (kindsE kind) (a.tmps[17]?.getD undef) W := hq 5 17 (by kernel_rfl) (by kernel_rfl)
     have q3 : a.tmps[18]?.getD undef = (.func (.func 245) #[] #[.pointer (some ⟨w.heap.size + 1, 0, none⟩), .pointer (some ⟨w.heap.size, 0, none⟩)]) := hq 6 18 (by kernel_rfl) (by kernel_rfl)
     obtain ⟨g4, l4, q4, h4⟩ : isQ True (thereE t [dir]) (a.tmps[22]?.getD undef) W := hq 10 22 (by kernel_rfl) (by kernel_rfl)
     obtain ⟨g5, l5, q5, h5⟩ : isQ (∀ i ∈ [dir], (t.n i).isSome = true) (dirsE t [dir]) (a.tmps[26]?.getD undef) W := hq 14 26 (by kernel_rfl) (by kernel_rfl)
     obtain ⟨g6, l6, q6, h6⟩ : isQ ((t.n dir).isSome = true) (freshE' t dir s) (a.tmps[30]?.getD undef) W := hq 18 30 (by kernel_rfl) (by kernel_rfl)
     have q7 : a.tmps[31]?.getD undef = (.func (.func 246) #[] #[.pointer (some ⟨w.heap.size, 0, none⟩), .pointer (some ⟨w.heap.size + 1, 0, none⟩)]) := hq 19 31 (by kernel_rfl) (by kernel_rfl)
     have H1 := zz h1
     clear h1
     have H2 := zz h2
     clear h2
     have H4 := zz h4
     clear h4
     have H5 := zz h5
     clear h5
     have H6 := zz h6
     clear h6
     have HB := zz hB
     clear hp hq hB
     go_simp
     have hb := (Below.refl W.heap.size W).alloc (Nat.le_refl _) (.cells #[.func (.func g1) #[] l1, .func (.func g2) #[] l2, (.func (.func 245) #[] #[.pointer (some ⟨w.heap.size + 1, 0, none⟩), .pointer (some ⟨w.heap.size, 0, none⟩)]), .func (.func g4) #[] l4, .func (.func g5) #[] l5, .func (.func g6) #[] l6, (.func (.func 246) #[] #[.pointer (some ⟨w.heap.size, 0, none⟩), .pointer (some ⟨w.heap.size + 1, 0, none⟩)])] 159)
     have q3' := q_makeAt1 (i := ino) rfl (hT.below HB.out) (Nat.lt_of_lt_of_le (by omega) HB.out.size) (Nat.lt_of_lt_of_le (by omega) HB.out.size) (box_at HB.out b9) (box_at HB.out b5)
     have q7' := q_makeAt2 (i := ino) rfl (hT.below HB.out) hi (Nat.lt_of_lt_of_le (by omega) HB.out.size) (Nat.lt_of_lt_of_le (by omega) HB.out.size) (box_at HB.out b5) (box_at HB.out b9)
     exact hK _ _ hb ⟨_, _, _, rfl, rfl, SliceAt.built _ _ _, (makeAt_asked (H1.out trivial) (H2.out trivial) q3' (H4.out trivial) H5.out H6.out q7').later hb⟩
   · refine op_mk rfl fun a W hB hp hq K hK => ?_
     have e12 : a.tmps[12]?.getD undef = .pointer (some ⟨P, 0, none⟩) := hq 0 12 (by kernel_rfl) (by kernel_rfl)
     obtain ⟨A, c, vs, e32, hl, hA, hq1⟩ : isAsk 7 [namesE [s], kindsE kind, roomE t ino, thereE t [dir], dirsE t [dir], freshE' t dir s, haveE t ino] (a.tmps[32]?.getD undef) W := hq 20 32 (by kernel_rfl) (by kernel_rfl)
     have HA := zz hA
     have HQ := zz hq1
     clear hp hq hA hq1
     go_simp
     refine (t_checkL ⟨P, 0, none⟩ A vs 7 c [namesE [s], kindsE kind, roomE t ino, thereE t [dir], dirsE t [dir], freshE' t dir s, haveE t ino] _ rfl W hl (by rw [hl]; simp [maxLen]) HA.out HQ.out (by simp)).mono ?_
     rintro e w' ⟨rfl, hb⟩
     exact hK _ _ hb rfl
   · refine op_mk rfl fun a W hB hp hq K hK => ?_
     have e33 : a.tmps[33]?.getD undef = .int .i64 (firstE [namesE [s], kindsE kind, roomE t ino, thereE t [dir], dirsE t [dir], freshE' t dir s, haveE t ino]) := hq 21 33 (by kernel_rfl) (by kernel_rfl)
     clear hp hq
     go_simp
     exact hK _ _ (Below.refl _ _) rfl
 · intro vs W hB hv
   have f22 : vs 22 = .int .i64 (makeAtE t dir s kind ino) := hv 22 (by decide) (by kernel_rfl)
   clear hv
   have hBW : Below w.heap.size w W := ptrans hBw hB
   have hTW : TreeM W F P N y t := h.below hBW
   have d5 := box_at hB b5
   have d9 := box_at hB b9
   have hlt : w.heap.size + 1 < W.heap.size := Nat.lt_of_lt_of_le (by omega) hB.size
   clear hB b5 b9 hT hBw
   simp only [putAll, Act.put, List.setIfInBounds_toArray, List.set_cons_succ, List.set_cons_zero, Nat.zero_add, Nat.reduceAdd, f22]
   by_cases he : makeAtE t dir s kind ino = 0
   · obtain ⟨z1, z2, z3, ⟨xd, hxd, z4, z5⟩, z6⟩ := makeAtE_zero he
     have hP : Hid (r = 0 ∧ t' = enterT (t.set ino (newN kind)) dir xd s ino (newN kind)) := by
      unfold makeAtP makeT at hr
      rw [if_pos he, hxd] at hr
      injection hr with a b
      exact ⟨a.symm, b.symm⟩
     have hne : ino ≠ dir := fun e => by rw [e, hxd] at z6; cases z6
     have HH : Hid (TreeM W F P N y t ∧ (kind = 1 ∨ kind = 2) ∧ 1 ≤ ino ∧ t.n dir = some xd ∧ ino ≠ dir ∧ Below w.heap.size w W) := ⟨hTW, z1, z2, hxd, hne, hBW⟩
     rw [he]
     clear hr he z1 z2 z3 hxd z4 z5 z6 hne hTW hBW f22
     go_wp2
     obtain ⟨hTW, hk12, hi1, hxd, hne, hBW⟩ := HH.out
     have hPM := hTW.nodes.lt
     refine wp_region_front 7 (phi [isV (.pointer (some ⟨P, 0, none⟩)), isV (.pointer (some ⟨P, 0, none⟩)), isV (.pointer (some ⟨P, 1, none⟩)), isV (.map (some y.M)), isV (.int .u32 ino), isV (.int .u8 kind), isNew W.heap.size (newN kind)]) (by kernel_rfl) (by kernel_rfl) (by kernel_rfl) ?_ ?_ ?_
     · refine stays_phi ?_
       simp only [List.forall_mem_cons]
       exact ⟨stays_V _, stays_V _, stays_V _, stays_V _, stays_V _, stays_V _, stays_New _ _, fun _ h => absurd h (by simp)⟩
     · refine ⟨?_, ?_, ?_, ?_, ?_, ?_, ?_, trivial⟩
       · refine op_mk rfl fun a W2 hB hp hq K hK => ?_
         have e5 : a.tmps[5]?.getD undef = .pointer (some ⟨w.heap.size, 0, none⟩) := hp 5 (by kernel_rfl)
         have cc := box_at hB d5
         clear hp hq
         go_simp
         exact hK _ _ (Below.refl _ _) rfl
       · refine op_mk rfl fun a W2 hB hp hq K hK => ?_
         have e37 : a.tmps[37]?.getD undef = .pointer (some ⟨P, 0, none⟩) := hq 0 37 (by kernel_rfl) (by kernel_rfl)
         clear hp hq
         go_simp
         exact hK _ _ (Below.refl _ _) rfl
       · refine op_mk rfl fun a W2 hB hp hq K hK => ?_
         have e38 : a.tmps[38]?.getD undef = .pointer (some ⟨P, 0, none⟩) := hq 1 38 (by kernel_rfl) (by kernel_rfl)
         clear hp hq
         go_simp
         exact hK _ _ (Below.refl _ _) rfl
       · refine op_mk rfl fun a W2 hB hp hq K hK => ?_
         have e39 : a.tmps[39]?.getD undef = .pointer (some ⟨P, 1, none⟩) := hq 2 39 (by kernel_rfl) (by kernel_rfl)
         have cc := (hTW.below hB).c1
         clear hp hq
         go_simp
         exact hK _ _ (Below.refl _ _) rfl
       · refine op_mk rfl fun a W2 hB hp hq K hK => ?_
         have e9 : a.tmps[9]?.getD undef = .pointer (some ⟨w.heap.size + 1, 0, none⟩) := hp 9 (by kernel_rfl)
         have cc := box_at hB d9
         clear hp hq
         go_simp
         exact hK _ _ (Below.refl _ _) rfl
       · refine op_mk rfl fun a W2 hB hp hq K hK => ?_
         have e3 : a.tmps[3]?.getD undef = .int .u8 kind := hp 3 (by kernel_rfl)
         clear hp hq
         go_simp
         exact hK _ _ (Below.refl _ _) rfl
       · refine op_mk rfl fun a W2 hB hp hq K hK => ?_
         have e42 : a.tmps[42]?.getD undef = .int .u8 kind := hq 5 42 (by kernel_rfl) (by kernel_rfl)
         have HB := zz hB
         clear hp hq hB
         go_simp
         refine (t_freshN kind hk12 W2).mono ?_
         rintro e w' ⟨rfl, hn, hb, _⟩
         have := HB.out.size
         exact hK _ _ hb ⟨_, _, _, rfl, hn, by omega, by omega, by omega, by omega⟩
     · intro us W2 hB2 hv
       have u3 : us 3 = .map (some y.M) := hv 3 (by decide) (by kernel_rfl)
       have u4 : us 4 = .int .u32 ino := hv 4 (by decide) (by kernel_rfl)
       obtain ⟨Q, L, G, u6, hn, hQ, hL, hG, hLG⟩ : isNew W.heap.size (newN kind) (us 6) W2 := hv 6 (by decide) (by kernel_rfl)
       clear hv
       obtain ⟨w3, hrun, hM3, ht3⟩ := (hTW.below hB2).nodes.update law32 Tryz.underlying106 (by unfold maxLen; omega) (val := .pointer (some ⟨Q, 0, none⟩)) (pkey32 (i := ino) hi)
       obtain ⟨hT3, hU3⟩ := hTW.add ⟨hi1, hi.2⟩ hB2 hn hQ hL hG hLG hM3 ht3
       have g5 : w3.cell? ⟨w.heap.size, 0, none⟩ = some (.pointer (some ⟨P, 0, none⟩)) := ht3.grown.cell (box_at hB2 d5) (fun e => by injection e with e; have := h.nodes.lt; simp at e; omega)
       have g9 : w3.cell? ⟨w.heap.size + 1, 0, none⟩ = some (.int .u32 ino) := ht3.grown.cell (box_at hB2 d9) (fun e => by injection e with e; have := h.nodes.lt; simp at e; omega)
       have hd3 : (t.set ino (newN kind)).n dir = some xd := by rw [PT.set_n, if_neg (fun e => hne e.symm)]; exact hxd
       have hi3 : (t.set ino (newN kind)).n ino = some (newN kind) := by rw [PT.set_n, if_pos rfl]
       have hl3 : 0 ≤ (newN kind).links ∧ (newN kind).links ≤ 1000000 := by unfold newN; rcases hk12 with rfl | rfl <;> decide
       have HE := zz (t_enter dir s ino xd (newN kind) w3 hT3 (by omega) hd3 hi3 hne hs hl3)
       have HU := zz ((Turn.of_below F hBW).trans hU3)
       clear hd3 hi3 hl3 hT3 hU3 hM3 ht3 hn hB2 hTW hxd hBW d5 d9 h
       refine (show wpAny Tryz.prog .any _ _ 1 _ _ W2 from ?_)
       refine wpAny_one (i := 7) (by kernel_rfl) (by rfl) rfl (fun K hK => ?_)
       simp only [List.take_succ_cons, List.take_zero, putAll, Act.put, List.setIfInBounds_toArray, List.set_cons_succ, List.set_cons_zero, Nat.zero_add, Nat.reduceAdd, u3, u4, u6] at hK ⊢
       go_simp
       refine hK _ _ (wpAny_end (by kernel_rfl) ?_)
       clear hK
       go_wp2_with (go_at_call 191; refine HE.out.mono ?_; rintro e w4 ⟨rfl, hT4, hU4⟩; have H4 := zz hT4; have HU4 := zz hU4; clear hT4 hU4)
       go_ret
       obtain ⟨rfl, rfl⟩ := hP.out
       exact ⟨rfl, _, _, H4.out, HU.out.trans HU4.out⟩
   · have hP : Hid (r = makeAtE t dir s kind ino ∧ t' = t) := by
      unfold makeAtP at hr
      rw [if_neg he] at hr
      injection hr with a b
      exact ⟨a.symm, b.symm⟩
     have HH : Hid (TreeM W F P N y t ∧ Below w.heap.size w W) := ⟨hTW, hBW⟩
     generalize makeAtE t dir s kind ino = q at *
     have he' : (q != 0) = true := by simpa using he
     clear hr he hTW hBW f22 d5 d9 h
     go_wp2
     go_ret
     obtain ⟨rfl, rfl⟩ := hP.out
     exact ⟨rfl, _, _, HH.out.1.mono (by omega), Turn.of_below F HH.out.2⟩
end
end
section
open Go.RowKit Go.Maps
def newT (n : Int) : PT := (⟨n, fun _ => none⟩ : PT).set 1 (newN 2)
theorem t_newNo (n : Int) (w : World) (hn : n < 2 ∨ 256 < n) : Calls Tryz.prog 39 #[.int .i64 n] w fun e w' => e = .returned (.tuple #[.pointer none, .int .i64 2]) ∧ w = w' := by
 by_cases h : n < 2
 · clear hn
   go_enter Tryz.func39, Tryz.ntmps39
   go_wp2
   go_ret2
   exact ⟨rfl, rfl⟩
 · have h2 : 256 < n := by omega
   clear hn
   go_enter Tryz.func39, Tryz.ntmps39
   go_wp2
   go_ret2
   exact ⟨rfl, rfl⟩
def NewT (n : Int) (w : World) (e : Ending) (w' : World) : Prop := ∃ P y F, e = .returned (.tuple #[.pointer (some ⟨P, 0, none⟩), .int .i64 0]) ∧ TreeM w' F P 1 y (newT n) ∧ Below w.heap.size w w' ∧ ∀ b, F b → w.heap.size ≤ b
set_option maxRecDepth 100000 in
set_option maxHeartbeats 4000000 in
theorem t_new (n : Int) (w : World) (h1 : 2 ≤ n) (h2 : n ≤ 256) : Calls Tryz.prog 39 #[.int .i64 n] w (NewT n w) := by
 have hmm := @run_makeMap Tryz.prog
 go_enter Tryz.func39, Tryz.ntmps39
 go_wp2
 obtain ⟨w0, hw0⟩ : ∃ w0, (w.alloc (.map #[] 0)).alloc (.cells #[.int .u32 n, .map (some w.heap.size)] 109) = w0 := ⟨_, rfl⟩
 have hBw : Below w.heap.size w w0 := by rw [← hw0]; exact ((Below.refl _ _).alloc (Nat.le_refl _) _).alloc (by simp) _
 have hsz : w0.heap.size = w.heap.size + 2 := by rw [← hw0]; simp
 have hT : TreeM w0 (fun b => b = w.heap.size ∨ b = w.heap.size + 1) (w.heap.size + 1) 0 ⟨w.heap.size, fun _ => 0, fun _ => 0, fun _ => 0, fun _ => 0⟩ ⟨n, fun _ => none⟩ := by
  have e1 : (w.alloc (.map #[] 0)).heap.size = w.heap.size + 1 := by simp
  refine { head := ?_, nodes := ?_, node := fun _ _ h => (by cases h), pos := fun _ _ h => (by cases h), own := fun _ _ h => (by cases h), ownM := rfl, ownP := rfl, fP := .inr rfl, fM := .inl rfl, foot := fun _ _ h => (by cases h), lt := fun b hb => by rw [hsz]; rcases hb with h | h <;> omega }
  · have := heap_alloc_new (w.alloc (.map #[] 0)) (.cells #[.int .u32 n, .map (some w.heap.size)] 109)
    rw [e1] at this
    rw [← hw0]; exact this
  · rw [← hw0]
    refine ((MapAt.made w Tryz.prog 29).same (Below.heap_alloc _ _ _ (by rw [e1]; exact Nat.lt_succ_self _))).congr fun kl _ => ?_
    cases kl with
    | int q a => cases q <;> rfl
    | _ => rfl
 rw [hw0]
 clear hw0 hmm
 refine wp_region_front 5 (phi [isV (.pointer (some ⟨w.heap.size + 1, 0, none⟩)), isV (.pointer (some ⟨w.heap.size + 1, 0, none⟩)), isV (.pointer (some ⟨w.heap.size + 1, 1, none⟩)), isV (.map (some w.heap.size)), isNew w0.heap.size (newN 2)]) (by kernel_rfl) (by kernel_rfl) (by kernel_rfl) ?_ ?_ ?_
 · refine stays_phi ?_
   simp only [List.forall_mem_cons]
   exact ⟨stays_V _, stays_V _, stays_V _, stays_V _, stays_New _ _, fun _ h => absurd h (by simp)⟩
 · refine ⟨?_, ?_, ?_, ?_, ?_, trivial⟩
   · refine op_mk rfl fun a W2 hB hp hq K hK => ?_
     have e4 : a.tmps[4]?.getD undef = .pointer (some ⟨w.heap.size + 1, 0, none⟩) := hp 4 (by kernel_rfl)
     clear hp hq
     go_simp
     exact hK _ _ (Below.refl _ _) rfl
   · refine op_mk rfl fun a W2 hB hp hq K hK => ?_
     have e16 : a.tmps[16]?.getD undef = .pointer (some ⟨w.heap.size + 1, 0, none⟩) := hq 0 16 (by kernel_rfl) (by kernel_rfl)
     clear hp hq
     go_simp
     exact hK _ _ (Below.refl _ _) rfl
   · refine op_mk rfl fun a W2 hB hp hq K hK => ?_
     have e17 : a.tmps[17]?.getD undef = .pointer (some ⟨w.heap.size + 1, 0, none⟩) := hq 1 17 (by kernel_rfl) (by kernel_rfl)
     clear hp hq
     go_simp
     exact hK _ _ (Below.refl _ _) rfl
   · refine op_mk rfl fun a W2 hB hp hq K hK => ?_
     have e18 : a.tmps[18]?.getD undef = .pointer (some ⟨w.heap.size + 1, 1, none⟩) := hq 2 18 (by kernel_rfl) (by kernel_rfl)
     have cc : W2.cell? ⟨w.heap.size + 1, 1, none⟩ = some (.map (some w.heap.size)) := (hT.below hB).c1
     clear hp hq
     go_simp
     exact hK _ _ (Below.refl _ _) rfl
   · refine op_mk rfl fun a W2 hB hp hq K hK => ?_
     have HB := zz hB
     clear hp hq hB
     go_simp
     refine (t_freshN 2 (.inr rfl) W2).mono ?_
     rintro e w' ⟨rfl, hn, hb, _⟩
     have := HB.out.size
     exact hK _ _ hb ⟨_, _, _, rfl, hn, by omega, by omega, by omega, by omega⟩
 · intro us W2 hB2 hv
   have u3 : us 3 = .map (some w.heap.size) := hv 3 (by decide) (by kernel_rfl)
   obtain ⟨Q, L, G, u4, hn, hQ, hL, hG, hLG⟩ : isNew w0.heap.size (newN 2) (us 4) W2 := hv 4 (by decide) (by kernel_rfl)
   clear hv
   obtain ⟨w3, hrun, hM3, ht3⟩ := (hT.below hB2).nodes.update law32 Tryz.underlying106 (by unfold maxLen; omega) (val := .pointer (some ⟨Q, 0, none⟩)) (pkey32 (i := 1) ⟨by omega, by omega⟩)
   obtain ⟨hT3, hU3⟩ := hT.add (i := 1) ⟨by omega, by omega⟩ hB2 hn hQ hL hG hLG hM3 ht3
   have HX : Hid (NewT n w (.returned (.tuple #[.pointer (some ⟨w.heap.size + 1, 0, none⟩), .int .i64 0])) w3) :=
    ⟨_, _, _, rfl, hT3, (hBw.trans (hU3.below (B := w.heap.size) (fun b hb => by rcases hb with h | h <;> omega) (by omega))), fun b hb => by
     rcases hb with (h | h) | h | h | h <;> omega⟩
   clear hT3 hU3 hM3 ht3 hn hB2 hT
   refine (show wpAny Tryz.prog .any _ _ 1 _ _ W2 from ?_)
   refine wpAny_one (i := 5) (by kernel_rfl) (by rfl) rfl (fun K hK => ?_)
   simp only [List.take_succ_cons, List.take_zero, putAll, Act.put, List.setIfInBounds_toArray, List.set_cons_succ, List.set_cons_zero, Nat.zero_add, Nat.reduceAdd, u3, u4] at hK ⊢
   go_simp
   refine hK _ _ (wpAny_end (by kernel_rfl) ?_)
   clear hK
   go_wp2
   go_ret2
   exact HX.out
end

section
open Go.RowKit Go.Maps
section
variable {F : Nat → Prop} {P N : Nat} {y : Lay} {t : PT}
theorem there_all {is : List Int} (h : thereE t is = 0) : ∀ i ∈ is, (t.n i).isSome = true := by
 intro i hi
 unfold thereE at h
 cases hx : t.n i with
 | some x => rfl
 | none =>
  exfalso
  rw [if_pos (List.any_eq_true.2 ⟨i, hi, by rw [hx]; rfl⟩)] at h
  cases h
theorem link_asked {W : World} {dir ino : Int} {s : ByteArray} {v1 v2 v3 v4 v5 v6 : Value} (q1 : Question W v1 (namesE [s])) (q2 : Question W v2 (thereE t [dir, ino]))
  (q3 : (∀ i ∈ [dir], (t.n i).isSome = true) → Question W v3 (dirsE t [dir])) (q4 : (t.n ino).isSome = true → Question W v4 (fileE' t ino)) (q5 : (t.n dir).isSome = true → Question W v5 (freshE' t dir s)) (q6 : (t.n ino).isSome = true → Question W v6 (linksE' t ino)) :
  Asked W [v1, v2, v3, v4, v5, v6] [namesE [s], thereE t [dir, ino], dirsE t [dir], fileE' t ino, freshE' t dir s, linksE' t ino] := by
 refine Asked.of W _ _ rfl fun j e v he hv h0 => ?_
 have hh : 1 < j → (t.n dir).isSome = true ∧ (t.n ino).isSome = true := fun hj => ⟨there_all (h0 1 _ hj rfl) dir (by simp), there_all (h0 1 _ hj rfl) ino (by simp)⟩
 match j with
 | 0 => simp at he hv; subst he; subst hv; exact q1
 | 1 => simp at he hv; subst he; subst hv; exact q2
 | 2 => simp at he hv; subst he; subst hv; exact q3 (by simpa using (hh (by omega)).1)
 | 3 => simp at he hv; subst he; subst hv; exact q4 (hh (by omega)).2
 | 4 => simp at he hv; subst he; subst hv; exact q5 (hh (by omega)).1
 | 5 => simp at he hv; subst he; subst hv; exact q6 (hh (by omega)).2
 | j + 6 => simp at he
def linkE (t : PT) (dir : Int) (s : ByteArray) (ino : Int) : Int := firstE [namesE [s], thereE t [dir, ino], dirsE t [dir], fileE' t ino, freshE' t dir s, linksE' t ino]
def linkT (t : PT) (dir : Int) (s : ByteArray) (ino : Int) : PT := match t.n dir, t.n ino with
 | some xd, some xi => enterT t dir xd s ino xi
 | _, _ => t
def linkP (t : PT) (dir : Int) (s : ByteArray) (ino : Int) : Int × PT := if linkE t dir s ino = 0 then (0, linkT t dir s ino) else (linkE t dir s ino, t)
def LinksOk (t : PT) : Prop := ∀ i x, t.n i = some x → 0 ≤ x.links ∧ x.links ≤ 1000000
theorem dirs_zero {is : List Int} (h : dirsE t is = 0) {i : Int} (hi : i ∈ is) {x : PN} (hx : t.n i = some x) : x.kind = 2 := by
 unfold dirsE at h
 by_cases hk : x.kind = 2
 · exact hk
 · exfalso
   rw [if_pos (List.any_eq_true.2 ⟨i, hi, by unfold isFile; rw [hx]; simpa using hk⟩)] at h
   cases h
theorem linkE_zero {dir ino : Int} {s : ByteArray} (h : linkE t dir s ino = 0) : ∃ xd xi, t.n dir = some xd ∧ t.n ino = some xi ∧ xd.kind = 2 ∧ xi.kind ≠ 2 ∧ (xd.l s.data.toList).getD 0 = 0 ∧ xi.links < 200 := by
 unfold linkE at h
 obtain ⟨h1, h⟩ := firstE_cons h
 obtain ⟨h2, h⟩ := firstE_cons h
 obtain ⟨h3, h⟩ := firstE_cons h
 obtain ⟨h4, h⟩ := firstE_cons h
 obtain ⟨h5, h⟩ := firstE_cons h
 obtain ⟨h6, _⟩ := firstE_cons h
 obtain ⟨xd, hx⟩ := Option.isSome_iff_exists.1 (there_all h2 dir (by simp))
 obtain ⟨xi, hi⟩ := Option.isSome_iff_exists.1 (there_all h2 ino (by simp))
 refine ⟨xd, xi, hx, hi, dirs_zero h3 (by simp) hx, ?_, ?_, ?_⟩
 · unfold fileE' fileQE at h4
   rw [hi] at h4
   intro hk
   simp [hk] at h4
 · unfold freshE' freshE at h5
   rw [hx] at h5
   by_cases a : (xd.l s.data.toList).getD 0 = 0
   · exact a
   · simp [a] at h5
 · unfold linksE' linksE at h6
   rw [hi] at h6
   by_cases a : 200 ≤ xi.links
   · simp [a] at h6
   · omega
set_option maxRecDepth 100000 in
set_option maxHeartbeats 8000000 in
theorem t_linkP (dir : Int) (s : ByteArray) (ino r : Int) (t' : PT) (hr : linkP t dir s ino = (r, t')) (w : World) (h : TreeM w F P N y t) (hN : N < 900000) (hd : U32 dir) (hi : U32 ino) (hs : s.size ≤ maxLen) (hlk : LinksOk t) :
  Calls Tryz.prog 115 #[.pointer (some ⟨P, 0, none⟩), .int .u32 dir, .string s, .int .u32 ino] w fun e w' => e = .returned (.int .i64 r) ∧ Became w w' F P (N + 1) t' := by
 go_enter Tryz.func115, Tryz.ntmps115
 go_wp2
 obtain ⟨w0, hw0⟩ : ∃ w0, (w.alloc (.cells #[.pointer (some ⟨P, 0, none⟩)] 43)).alloc (.cells #[.int .u32 ino] 29) = w0 := ⟨_, rfl⟩
 obtain ⟨hBw, b4, b7, hsz⟩ := two_boxes w (.pointer (some ⟨P, 0, none⟩)) (.int .u32 ino) 43 29
 rw [hw0] at hBw b4 b7 hsz ⊢
 have hT : TreeM w0 F P N y t := h.below hBw
 clear hw0
 refine wp_region_all (phi [isV (.pointer (some ⟨P, 0, none⟩)), isV (.string s), isSl [.string s], isQ True (namesE [s]), isV (.pointer (some ⟨P, 0, none⟩)), isV (.int .u32 dir), isV (.int .u32 ino), isSl [.int .u32 dir, .int .u32 ino], isQ True (thereE t [dir, ino]), isV (.pointer (some ⟨P, 0, none⟩)), isV (.int .u32 dir), isSl [.int .u32 dir], isQ (∀ i ∈ [dir], (t.n i).isSome = true) (dirsE t [dir]), isV (.pointer (some ⟨P, 0, none⟩)), isV (.int .u32 ino), isQ ((t.n ino).isSome = true) (fileE' t ino), isV (.pointer (some ⟨P, 0, none⟩)), isV (.int .u32 dir), isV (.string s), isQ ((t.n dir).isSome = true) (freshE' t dir s), isV (.func (.func 190) #[] #[.pointer (some ⟨w.heap.size, 0, none⟩), .pointer (some ⟨w.heap.size + 1, 0, none⟩)]), isAsk 6 [namesE [s], thereE t [dir, ino], dirsE t [dir], fileE' t ino, freshE' t dir s, linksE' t ino], isV (.int .i64 (firstE [namesE [s], thereE t [dir, ino], dirsE t [dir], fileE' t ino, freshE' t dir s, linksE' t ino])), isV (.int .i64 (firstE [namesE [s], thereE t [dir, ino], dirsE t [dir], fileE' t ino, freshE' t dir s, linksE' t ino]))]) (by kernel_rfl) (by kernel_rfl) ?_ ?_ ?_
 · refine stays_phi ?_
   simp only [List.forall_mem_cons]
   exact ⟨stays_V _, stays_V _, stays_Sl _, stays_Q _ _, stays_V _, stays_V _, stays_V _, stays_Sl _, stays_Q _ _, stays_V _, stays_V _, stays_Sl _, stays_Q _ _, stays_V _, stays_V _, stays_Q _ _, stays_V _, stays_V _, stays_V _, stays_Q _ _, stays_V _, stays_Ask _ _, stays_V _, stays_V _, fun _ h => absurd h (by simp)⟩
 · refine ⟨?_, ?_, ?_, ?_, ?_, ?_, ?_, ?_, ?_, ?_, ?_, ?_, ?_, ?_, ?_, ?_, ?_, ?_, ?_, ?_, ?_, ?_, ?_, ?_, trivial⟩
   · refine op_mk rfl fun a W hB hp hq K hK => ?_
     have e4 : a.tmps[4]?.getD undef = .pointer (some ⟨w.heap.size, 0, none⟩) := hp 4 (by kernel_rfl)
     have cc := box_at hB b4
     clear hp hq
     go_simp
     exact hK _ _ (Below.refl _ _) rfl
   · refine op_mk rfl fun a W hB hp hq K hK => ?_
     have e2 : a.tmps[2]?.getD undef = (.string s) := hp 2 (by kernel_rfl)
     clear hp hq
     go_simp
     exact hK _ _ (Below.refl _ _) rfl
   · refine op_mk rfl fun a W hB hp hq K hK => ?_
     have e11 : a.tmps[11]?.getD undef = .string s := hq 1 11 (by kernel_rfl) (by kernel_rfl)
     clear hp hq
     go_simp
     exact hK _ _ ((Below.refl _ _).alloc (Nat.le_refl _) _) ⟨_, _, rfl, SliceAt.built _ _ _⟩
   · refine op_mk rfl fun a W hB hp hq K hK => ?_
     obtain ⟨A, c, e12, hA⟩ : isSl [.string s] (a.tmps[12]?.getD undef) W := hq 2 12 (by kernel_rfl) (by kernel_rfl)
     have HA := zz hA
     clear hA
     have HB := zz hB
     clear hp hq hB
     go_simp
     refine (t_names [s] A 1 c _ rfl W rfl (by simpa using hs) (by simp [maxLen]) HA.out).mono ?_
     rintro e w' ⟨v, rfl, hv, hb⟩
     exact hK _ _ hb (isQ.of hv)
   · refine op_mk rfl fun a W hB hp hq K hK => ?_
     have e4 : a.tmps[4]?.getD undef = .pointer (some ⟨w.heap.size, 0, none⟩) := hp 4 (by kernel_rfl)
     have cc := box_at hB b4
     clear hp hq
     go_simp
     exact hK _ _ (Below.refl _ _) rfl
   · refine op_mk rfl fun a W hB hp hq K hK => ?_
     have e1 : a.tmps[1]?.getD undef = (.int .u32 dir) := hp 1 (by kernel_rfl)
     clear hp hq
     go_simp
     exact hK _ _ (Below.refl _ _) rfl
   · refine op_mk rfl fun a W hB hp hq K hK => ?_
     have e7 : a.tmps[7]?.getD undef = .pointer (some ⟨w.heap.size + 1, 0, none⟩) := hp 7 (by kernel_rfl)
     have cc := box_at hB b7
     clear hp hq
     go_simp
     exact hK _ _ (Below.refl _ _) rfl
   · refine op_mk rfl fun a W hB hp hq K hK => ?_
     have e15 : a.tmps[15]?.getD undef = .int .u32 dir := hq 5 15 (by kernel_rfl) (by kernel_rfl)
     have e16 : a.tmps[16]?.getD undef = .int .u32 ino := hq 6 16 (by kernel_rfl) (by kernel_rfl)
     clear hp hq
     go_simp
     exact hK _ _ ((Below.refl _ _).alloc (Nat.le_refl _) _) ⟨_, _, rfl, SliceAt.built _ _ _⟩
   · refine op_mk rfl fun a W hB hp hq K hK => ?_
     have e14 : a.tmps[14]?.getD undef = .pointer (some ⟨P, 0, none⟩) := hq 4 14 (by kernel_rfl) (by kernel_rfl)
     obtain ⟨A, c, e17, hA⟩ : isSl [.int .u32 dir, .int .u32 ino] (a.tmps[17]?.getD undef) W := hq 7 17 (by kernel_rfl) (by kernel_rfl)
     have HA := zz hA
     clear hA
     have HB := zz hB
     clear hp hq hB
     go_simp
     refine (t_there [dir, ino] A 2 c _ rfl W (hT.below HB.out) rfl (by simp; exact ⟨hd, hi⟩) (by simp [maxLen]) HA.out).mono ?_
     rintro e w' ⟨v, rfl, hv, hb⟩
     exact hK _ _ hb (isQ.of hv)
   · refine op_mk rfl fun a W hB hp hq K hK => ?_
     have e4 : a.tmps[4]?.getD undef = .pointer (some ⟨w.heap.size, 0, none⟩) := hp 4 (by kernel_rfl)
     have cc := box_at hB b4
     clear hp hq
     go_simp
     exact hK _ _ (Below.refl _ _) rfl
   · refine op_mk rfl fun a W hB hp hq K hK => ?_
     have e1 : a.tmps[1]?.getD undef = (.int .u32 dir) := hp 1 (by kernel_rfl)
     clear hp hq
     go_simp
     exact hK _ _ (Below.refl _ _) rfl
   · refine op_mk rfl fun a W hB hp hq K hK => ?_
     have e20 : a.tmps[20]?.getD undef = .int .u32 dir := hq 10 20 (by kernel_rfl) (by kernel_rfl)
     clear hp hq
     go_simp
     exact hK _ _ ((Below.refl _ _).alloc (Nat.le_refl _) _) ⟨_, _, rfl, SliceAt.built _ _ _⟩
   · refine op_mk rfl fun a W hB hp hq K hK => ?_
     have e19 : a.tmps[19]?.getD undef = .pointer (some ⟨P, 0, none⟩) := hq 9 19 (by kernel_rfl) (by kernel_rfl)
     obtain ⟨A, c, e21, hA⟩ : isSl [.int .u32 dir] (a.tmps[21]?.getD undef) W := hq 11 21 (by kernel_rfl) (by kernel_rfl)
     have HA := zz hA
     clear hA
     have HB := zz hB
     clear hp hq hB
     go_simp
     refine (t_dirsI [dir] A 1 c _ rfl W (hT.below HB.out) rfl (by simp [maxLen]) HA.out).mono ?_
     rintro e w' ⟨g, lb, rfl, hv, hb⟩
     exact hK _ _ hb ⟨g, lb, rfl, hv⟩
   · refine op_mk rfl fun a W hB hp hq K hK => ?_
     have e4 : a.tmps[4]?.getD undef = .pointer (some ⟨w.heap.size, 0, none⟩) := hp 4 (by kernel_rfl)
     have cc := box_at hB b4
     clear hp hq
     go_simp
     exact hK _ _ (Below.refl _ _) rfl
   · refine op_mk rfl fun a W hB hp hq K hK => ?_
     have e7 : a.tmps[7]?.getD undef = .pointer (some ⟨w.heap.size + 1, 0, none⟩) := hp 7 (by kernel_rfl)
     have cc := box_at hB b7
     clear hp hq
     go_simp
     exact hK _ _ (Below.refl _ _) rfl
   · refine op_mk rfl fun a W hB hp hq K hK => ?_
     have e23 : a.tmps[23]?.getD undef = .pointer (some ⟨P, 0, none⟩) := hq 13 23 (by kernel_rfl) (by kernel_rfl)
     have e24 : a.tmps[24]?.getD undef = .int .u32 ino := hq 14 24 (by kernel_rfl) (by kernel_rfl)
     have HB := zz hB
     clear hp hq hB
     go_simp
     refine (t_file ino _ rfl W (hT.below HB.out)).mono ?_
     rintro e w' ⟨g, lb, rfl, hv, hb⟩
     exact hK _ _ hb ⟨g, lb, rfl, hv⟩
   · refine op_mk rfl fun a W hB hp hq K hK => ?_
     have e4 : a.tmps[4]?.getD undef = .pointer (some ⟨w.heap.size, 0, none⟩) := hp 4 (by kernel_rfl)
     have cc := box_at hB b4
     clear hp hq
     go_simp
     exact hK _ _ (Below.refl _ _) rfl
   · refine op_mk rfl fun a W hB hp hq K hK => ?_
     have e1 : a.tmps[1]?.getD undef = (.int .u32 dir) := hp 1 (by kernel_rfl)
     clear hp hq
     go_simp
     exact hK _ _ (Below.refl _ _) rfl
   · refine op_mk rfl fun a W hB hp hq K hK => ?_
     have e2 : a.tmps[2]?.getD undef = (.string s) := hp 2 (by kernel_rfl)
     clear hp hq
     go_simp
     exact hK _ _ (Below.refl _ _) rfl
   · refine op_mk rfl fun a W hB hp hq K hK => ?_
     have e26 : a.tmps[26]?.getD undef = .pointer (some ⟨P, 0, none⟩) := hq 16 26 (by kernel_rfl) (by kernel_rfl)
     have e27 : a.tmps[27]?.getD undef = .int .u32 dir := hq 17 27 (by kernel_rfl) (by kernel_rfl)
     have e28 : a.tmps[28]?.getD undef = .string s := hq 18 28 (by kernel_rfl) (by kernel_rfl)
     have HB := zz hB
     clear hp hq hB
     go_simp
     refine (t_fresh dir s _ rfl W (hT.below HB.out) hs).mono ?_
     rintro e w' ⟨g, lb, rfl, hv, hb⟩
     exact hK _ _ hb ⟨g, lb, rfl, hv⟩
   · refine op_mk rfl fun a W hB hp hq K hK => ?_
     have e4 : a.tmps[4]?.getD undef = .pointer (some ⟨w.heap.size, 0, none⟩) := hp 4 (by kernel_rfl)
     have e7 : a.tmps[7]?.getD undef = .pointer (some ⟨w.heap.size + 1, 0, none⟩) := hp 7 (by kernel_rfl)
     clear hp hq
     go_simp
     exact hK _ _ (Below.refl _ _) rfl
   · refine op_mk rfl fun a W hB hp hq K hK => ?_
     obtain ⟨g1, l1, q1, h1⟩ : isQ True (namesE [s]) (a.tmps[13]?.getD undef) W := hq 3 13 (by kernel_rfl) (by kernel_rfl)
     obtain ⟨g2, l2, q2, h2⟩ : isQ True (thereE t [dir, ino]) (a.tmps[18]?.getD undef) W := hq 8 18 (by kernel_rfl) (by kernel_rfl)
     obtain ⟨g3, l3, q3, h3⟩ : isQ (∀ i ∈ [dir], (t.n i).isSome = true) (dirsE t [dir]) (a.tmps[22]?.getD undef) W := hq 12 22 (by kernel_rfl) (by kernel_rfl)
     obtain ⟨g4, l4, q4, h4⟩ : isQ ((t.n ino).isSome = true) (fileE' t ino) (a.tmps[25]?.getD undef) W := hq 15 25 (by kernel_rfl) (by kernel_rfl)
     obtain ⟨g5, l5, q5, h5⟩ : isQ ((t.n dir).isSome = true) (freshE' t dir s) (a.tmps[29]?.getD undef) W := hq 19 29 (by kernel_rfl) (by kernel_rfl)
     have q6 : a.tmps[30]?.getD undef = (.func (.func 190) #[] #[.pointer (some ⟨w.heap.size, 0, none⟩), .pointer (some ⟨w.heap.size + 1, 0, none⟩)]) := hq 20 30 (by kernel_rfl) (by kernel_rfl)
     have H1 := zz h1
     clear h1
     have H2 := zz h2
     clear h2
     have H3 := zz h3
     clear h3
     have H4 := zz h4
     clear h4
     have H5 := zz h5
     clear h5
     have HB := zz hB
     clear hp hq hB
     go_simp
     have hb := (Below.refl W.heap.size W).alloc (Nat.le_refl _) (.cells #[.func (.func g1) #[] l1, .func (.func g2) #[] l2, .func (.func g3) #[] l3, .func (.func g4) #[] l4, .func (.func g5) #[] l5, (.func (.func 190) #[] #[.pointer (some ⟨w.heap.size, 0, none⟩), .pointer (some ⟨w.heap.size + 1, 0, none⟩)])] 159)
     have q6' := fun hx => q_link (i := ino) hx rfl (hT.below HB.out) (Nat.lt_of_lt_of_le (by omega) HB.out.size) (Nat.lt_of_lt_of_le (by omega) HB.out.size) (box_at HB.out b4) (box_at HB.out b7)
     exact hK _ _ hb ⟨_, _, _, rfl, rfl, SliceAt.built _ _ _, (link_asked (H1.out trivial) (H2.out trivial) H3.out H4.out H5.out q6').later hb⟩
   · refine op_mk rfl fun a W hB hp hq K hK => ?_
     have e10 : a.tmps[10]?.getD undef = .pointer (some ⟨P, 0, none⟩) := hq 0 10 (by kernel_rfl) (by kernel_rfl)
     obtain ⟨A, c, vs, e31, hl, hA, hq1⟩ : isAsk 6 [namesE [s], thereE t [dir, ino], dirsE t [dir], fileE' t ino, freshE' t dir s, linksE' t ino] (a.tmps[31]?.getD undef) W := hq 21 31 (by kernel_rfl) (by kernel_rfl)
     have HA := zz hA
     have HQ := zz hq1
     clear hp hq hA hq1
     go_simp
     refine (t_checkL ⟨P, 0, none⟩ A vs 6 c [namesE [s], thereE t [dir, ino], dirsE t [dir], fileE' t ino, freshE' t dir s, linksE' t ino] _ rfl W hl (by rw [hl]; simp [maxLen]) HA.out HQ.out (by simp)).mono ?_
     rintro e w' ⟨rfl, hb⟩
     exact hK _ _ hb rfl
   · refine op_mk rfl fun a W hB hp hq K hK => ?_
     have e32 : a.tmps[32]?.getD undef = .int .i64 (firstE [namesE [s], thereE t [dir, ino], dirsE t [dir], fileE' t ino, freshE' t dir s, linksE' t ino]) := hq 22 32 (by kernel_rfl) (by kernel_rfl)
     clear hp hq
     go_simp
     exact hK _ _ (Below.refl _ _) rfl
 · intro vs W hB hv
   have f22 : vs 22 = .int .i64 (linkE t dir s ino) := hv 22 (by decide) (by kernel_rfl)
   have f23 : vs 23 = .int .i64 (linkE t dir s ino) := hv 23 (by decide) (by kernel_rfl)
   clear hv
   have hBW : Below w.heap.size w W := ptrans hBw hB
   have hTW : TreeM W F P N y t := h.below hBW
   have d4 := box_at hB b4
   have d7 := box_at hB b7
   clear hB b4 b7 hT hBw
   simp only [putAll, Act.put, List.setIfInBounds_toArray, List.set_cons_succ, List.set_cons_zero, Nat.zero_add, Nat.reduceAdd, f22, f23]
   by_cases he : linkE t dir s ino = 0
   · obtain ⟨xd, xi, z1, z2, z3, z4, _, _⟩ := linkE_zero he
     have hP : Hid (r = 0 ∧ t' = enterT t dir xd s ino xi) := by
      unfold linkP linkT at hr
      rw [if_pos he, z1, z2] at hr
      injection hr with a b
      exact ⟨a.symm, b.symm⟩
     have hne : ino ≠ dir := fun e => by rw [e, z1] at z2; cases z2; exact z4 z3
     have HE := zz (t_enter dir s ino xd xi W hTW (by omega) z1 z2 hne hs (hlk ino xi z2))
     have HB := zz (Turn.of_below F hBW)
     rw [he]
     clear hr he z1 z2 z3 z4 hne hTW hBW f22 f23 h
     go_wp2_with (go_at_call 191; refine HE.out.mono ?_; rintro e w4 ⟨rfl, hT4, hU4⟩; have H4 := zz hT4; have HU4 := zz hU4; clear hT4 hU4)
     go_ret
     obtain ⟨rfl, rfl⟩ := hP.out
     exact ⟨rfl, _, _, H4.out, HB.out.trans HU4.out⟩
   · have hP : Hid (r = linkE t dir s ino ∧ t' = t) := by
      unfold linkP at hr
      rw [if_neg he] at hr
      injection hr with a b
      exact ⟨a.symm, b.symm⟩
     have HH : Hid (TreeM W F P N y t ∧ Below w.heap.size w W) := ⟨hTW, hBW⟩
     generalize linkE t dir s ino = q at *
     have he' : (q == 0) = false := by simpa using he
     clear hr he hTW hBW f22 f23 d4 d7 h
     go_wp2
     go_ret
     obtain ⟨rfl, rfl⟩ := hP.out
     exact ⟨rfl, _, _, HH.out.1.mono (by omega), Turn.of_below F HH.out.2⟩
end
end
end Go.Proofs.YtpcnolkdnmolgaaGreatDoor
