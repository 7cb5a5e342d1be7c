/- The program's tree: Link. -/
import Derived.Test.YtpcjbfhgmcioaaaGreatRO
namespace Go.Proofs.YtpcjbfhgmcioaaaGreat
open Go.RowKit Go.Maps

section
variable {F : Nat → Prop} {P N : Nat} {y : Lay} {t : PT}
theorem there_all {is : List Int} (h : thereE t is = 0) : ∀ i ∈ is, (t.n i).isSome = true := by
  intro i hi
  unfold thereE at h
  cases hx : t.n i with
  | some x => rfl
  | none =>
    exfalso
    rw [if_pos (List.any_eq_true.2 ⟨i, hi, by rw [hx]; rfl⟩)] at h
    cases h
theorem link_asked {W : World} {dir ino : Int} {s : ByteArray} {v1 v2 v3 v4 v5 v6 : Value} (q1 : Question W v1 (namesE [s])) (q2 : Question W v2 (thereE t [dir, ino]))
    (q3 : (∀ i ∈ [dir], (t.n i).isSome = true) → Question W v3 (dirsE t [dir])) (q4 : (t.n ino).isSome = true → Question W v4 (fileE' t ino)) (q5 : (t.n dir).isSome = true → Question W v5 (freshE' t dir s)) (q6 : (t.n ino).isSome = true → Question W v6 (linksE' t ino)) :
    Asked W [v1, v2, v3, v4, v5, v6] [namesE [s], thereE t [dir, ino], dirsE t [dir], fileE' t ino, freshE' t dir s, linksE' t ino] := by
  refine Asked.of W _ _ rfl fun j e v he hv h0 => ?_
  have hh : 1 < j → (t.n dir).isSome = true ∧ (t.n ino).isSome = true := fun hj => ⟨there_all (h0 1 _ hj rfl) dir (by simp), there_all (h0 1 _ hj rfl) ino (by simp)⟩
  match j with
  | 0 => simp at he hv; subst he; subst hv; exact q1
  | 1 => simp at he hv; subst he; subst hv; exact q2
  | 2 => simp at he hv; subst he; subst hv; exact q3 (by simpa using (hh (by omega)).1)
  | 3 => simp at he hv; subst he; subst hv; exact q4 (hh (by omega)).2
  | 4 => simp at he hv; subst he; subst hv; exact q5 (hh (by omega)).1
  | 5 => simp at he hv; subst he; subst hv; exact q6 (hh (by omega)).2
  | j + 6 => simp at he
def linkE (t : PT) (dir : Int) (s : ByteArray) (ino : Int) : Int := firstE [namesE [s], thereE t [dir, ino], dirsE t [dir], fileE' t ino, freshE' t dir s, linksE' t ino]
def linkT (t : PT) (dir : Int) (s : ByteArray) (ino : Int) : PT := match t.n dir, t.n ino with
  | some xd, some xi => enterT t dir xd s ino xi
  | _, _ => t
def linkP (t : PT) (dir : Int) (s : ByteArray) (ino : Int) : Int × PT := if linkE t dir s ino = 0 then (0, linkT t dir s ino) else (linkE t dir s ino, t)
def LinksOk (t : PT) : Prop := ∀ i x, t.n i = some x → 0 ≤ x.links ∧ x.links ≤ 1000000
theorem dirs_zero {is : List Int} (h : dirsE t is = 0) {i : Int} (hi : i ∈ is) {x : PN} (hx : t.n i = some x) : x.kind = 2 := by
  unfold dirsE at h
  by_cases hk : x.kind = 2
  · exact hk
  · exfalso
    rw [if_pos (List.any_eq_true.2 ⟨i, hi, by unfold isFile; rw [hx]; simpa using hk⟩)] at h
    cases h
theorem linkE_zero {dir ino : Int} {s : ByteArray} (h : linkE t dir s ino = 0) : ∃ xd xi, t.n dir = some xd ∧ t.n ino = some xi ∧ xd.kind = 2 ∧ xi.kind ≠ 2 ∧ (xd.l s.data.toList).getD 0 = 0 ∧ xi.links < 200 := by
  unfold linkE at h
  obtain ⟨h1, h⟩ := firstE_cons h
  obtain ⟨h2, h⟩ := firstE_cons h
  obtain ⟨h3, h⟩ := firstE_cons h
  obtain ⟨h4, h⟩ := firstE_cons h
  obtain ⟨h5, h⟩ := firstE_cons h
  obtain ⟨h6, _⟩ := firstE_cons h
  obtain ⟨xd, hx⟩ := Option.isSome_iff_exists.1 (there_all h2 dir (by simp))
  obtain ⟨xi, hi⟩ := Option.isSome_iff_exists.1 (there_all h2 ino (by simp))
  refine ⟨xd, xi, hx, hi, dirs_zero h3 (by simp) hx, ?_, ?_, ?_⟩
  · unfold fileE' fileQE at h4
    rw [hi] at h4
    intro hk
    simp [hk] at h4
  · unfold freshE' freshE at h5
    rw [hx] at h5
    by_cases a : (xd.l s.data.toList).getD 0 = 0
    · exact a
    · simp [a] at h5
  · unfold linksE' linksE at h6
    rw [hi] at h6
    by_cases a : 200 ≤ xi.links
    · simp [a] at h6
    · omega
set_option maxRecDepth 100000 in
set_option maxHeartbeats 8000000 in
theorem t_linkP (dir : Int) (s : ByteArray) (ino r : Int) (t' : PT) (hr : linkP t dir s ino = (r, t')) (w : World) (h : TreeM w F P N y t) (hN : N < 900000) (hd : U32 dir) (hi : U32 ino) (hs : s.size ≤ maxLen) (hlk : LinksOk t) :
    Calls Tryz.prog 25 #[.pointer (some ⟨P, 0, none⟩), .int .u32 dir, .string s, .int .u32 ino] w fun e w' => e = .returned (.int .i64 r) ∧ Became w w' F P (N + 1) t' := by
  go_enter Tryz.func25, Tryz.ntmps25
  go_wp2
  obtain ⟨w0, hw0⟩ : ∃ w0, (w.alloc (.cells #[.pointer (some ⟨P, 0, none⟩)] 26)).alloc (.cells #[.int .u32 ino] 23) = w0 := ⟨_, rfl⟩
  obtain ⟨hBw, b4, b7, hsz⟩ := two_boxes w (.pointer (some ⟨P, 0, none⟩)) (.int .u32 ino) 26 23
  rw [hw0] at hBw b4 b7 hsz ⊢
  have hT : TreeM w0 F P N y t := h.below hBw
  clear hw0
  refine wp_region_all (phi [isV (.pointer (some ⟨P, 0, none⟩)), isV (.string s), isSl [.string s], isQ True (namesE [s]), isV (.pointer (some ⟨P, 0, none⟩)), isV (.int .u32 dir), isV (.int .u32 ino), isSl [.int .u32 dir, .int .u32 ino], isQ True (thereE t [dir, ino]), isV (.pointer (some ⟨P, 0, none⟩)), isV (.int .u32 dir), isSl [.int .u32 dir], isQ (∀ i ∈ [dir], (t.n i).isSome = true) (dirsE t [dir]), isV (.pointer (some ⟨P, 0, none⟩)), isV (.int .u32 ino), isQ ((t.n ino).isSome = true) (fileE' t ino), isV (.pointer (some ⟨P, 0, none⟩)), isV (.int .u32 dir), isV (.string s), isQ ((t.n dir).isSome = true) (freshE' t dir s), isV (.func (.func 77) #[] #[.pointer (some ⟨w.heap.size, 0, none⟩), .pointer (some ⟨w.heap.size + 1, 0, none⟩)]), isAsk 6 [namesE [s], thereE t [dir, ino], dirsE t [dir], fileE' t ino, freshE' t dir s, linksE' t ino], isV (.int .i64 (firstE [namesE [s], thereE t [dir, ino], dirsE t [dir], fileE' t ino, freshE' t dir s, linksE' t ino])), isV (.int .i64 (firstE [namesE [s], thereE t [dir, ino], dirsE t [dir], fileE' t ino, freshE' t dir s, linksE' t ino]))]) (by kernel_rfl) (by kernel_rfl) ?_ ?_ ?_
  · refine stays_phi ?_
    simp only [List.forall_mem_cons]
    exact ⟨stays_V _, stays_V _, stays_Sl _, stays_Q _ _, stays_V _, stays_V _, stays_V _, stays_Sl _, stays_Q _ _, stays_V _, stays_V _, stays_Sl _, stays_Q _ _, stays_V _, stays_V _, stays_Q _ _, stays_V _, stays_V _, stays_V _, stays_Q _ _, stays_V _, stays_Ask _ _, stays_V _, stays_V _, fun _ h => absurd h (by simp)⟩
  · refine ⟨?_, ?_, ?_, ?_, ?_, ?_, ?_, ?_, ?_, ?_, ?_, ?_, ?_, ?_, ?_, ?_, ?_, ?_, ?_, ?_, ?_, ?_, ?_, ?_, trivial⟩
    · refine op_mk rfl fun a W hB hp hq K hK => ?_
      have e4 : a.tmps[4]?.getD undef = .pointer (some ⟨w.heap.size, 0, none⟩) := hp 4 (by kernel_rfl)
      have cc := box_at hB b4
      clear hp hq
      go_simp
      exact hK _ _ (Below.refl _ _) rfl
    · refine op_mk rfl fun a W hB hp hq K hK => ?_
      have e2 : a.tmps[2]?.getD undef = (.string s) := hp 2 (by kernel_rfl)
      clear hp hq
      go_simp
      exact hK _ _ (Below.refl _ _) rfl
    · refine op_mk rfl fun a W hB hp hq K hK => ?_
      have e11 : a.tmps[11]?.getD undef = .string s := hq 1 11 (by kernel_rfl) (by kernel_rfl)
      clear hp hq
      go_simp
      exact hK _ _ ((Below.refl _ _).alloc (Nat.le_refl _) _) ⟨_, _, rfl, SliceAt.built _ _ _⟩
    · refine op_mk rfl fun a W hB hp hq K hK => ?_
      obtain ⟨A, c, e12, hA⟩ : isSl [.string s] (a.tmps[12]?.getD undef) W := hq 2 12 (by kernel_rfl) (by kernel_rfl)
      have HA := Lib.hid hA
      clear hA
      have HB := Lib.hid hB
      clear hp hq hB
      go_simp
      refine (t_names [s] A 1 c _ rfl W rfl (by simpa using hs) (by simp [maxLen]) HA.out).mono ?_
      rintro e w' ⟨v, rfl, hv, hb⟩
      exact hK _ _ hb (isQ.of hv)
    · refine op_mk rfl fun a W hB hp hq K hK => ?_
      have e4 : a.tmps[4]?.getD undef = .pointer (some ⟨w.heap.size, 0, none⟩) := hp 4 (by kernel_rfl)
      have cc := box_at hB b4
      clear hp hq
      go_simp
      exact hK _ _ (Below.refl _ _) rfl
    · refine op_mk rfl fun a W hB hp hq K hK => ?_
      have e1 : a.tmps[1]?.getD undef = (.int .u32 dir) := hp 1 (by kernel_rfl)
      clear hp hq
      go_simp
      exact hK _ _ (Below.refl _ _) rfl
    · refine op_mk rfl fun a W hB hp hq K hK => ?_
      have e7 : a.tmps[7]?.getD undef = .pointer (some ⟨w.heap.size + 1, 0, none⟩) := hp 7 (by kernel_rfl)
      have cc := box_at hB b7
      clear hp hq
      go_simp
      exact hK _ _ (Below.refl _ _) rfl
    · refine op_mk rfl fun a W hB hp hq K hK => ?_
      have e15 : a.tmps[15]?.getD undef = .int .u32 dir := hq 5 15 (by kernel_rfl) (by kernel_rfl)
      have e16 : a.tmps[16]?.getD undef = .int .u32 ino := hq 6 16 (by kernel_rfl) (by kernel_rfl)
      clear hp hq
      go_simp
      exact hK _ _ ((Below.refl _ _).alloc (Nat.le_refl _) _) ⟨_, _, rfl, SliceAt.built _ _ _⟩
    · refine op_mk rfl fun a W hB hp hq K hK => ?_
      have e14 : a.tmps[14]?.getD undef = .pointer (some ⟨P, 0, none⟩) := hq 4 14 (by kernel_rfl) (by kernel_rfl)
      obtain ⟨A, c, e17, hA⟩ : isSl [.int .u32 dir, .int .u32 ino] (a.tmps[17]?.getD undef) W := hq 7 17 (by kernel_rfl) (by kernel_rfl)
      have HA := Lib.hid hA
      clear hA
      have HB := Lib.hid hB
      clear hp hq hB
      go_simp
      refine (t_there [dir, ino] A 2 c _ rfl W (hT.below HB.out) rfl (by simp; exact ⟨hd, hi⟩) (by simp [maxLen]) HA.out).mono ?_
      rintro e w' ⟨v, rfl, hv, hb⟩
      exact hK _ _ hb (isQ.of hv)
    · refine op_mk rfl fun a W hB hp hq K hK => ?_
      have e4 : a.tmps[4]?.getD undef = .pointer (some ⟨w.heap.size, 0, none⟩) := hp 4 (by kernel_rfl)
      have cc := box_at hB b4
      clear hp hq
      go_simp
      exact hK _ _ (Below.refl _ _) rfl
    · refine op_mk rfl fun a W hB hp hq K hK => ?_
      have e1 : a.tmps[1]?.getD undef = (.int .u32 dir) := hp 1 (by kernel_rfl)
      clear hp hq
      go_simp
      exact hK _ _ (Below.refl _ _) rfl
    · refine op_mk rfl fun a W hB hp hq K hK => ?_
      have e20 : a.tmps[20]?.getD undef = .int .u32 dir := hq 10 20 (by kernel_rfl) (by kernel_rfl)
      clear hp hq
      go_simp
      exact hK _ _ ((Below.refl _ _).alloc (Nat.le_refl _) _) ⟨_, _, rfl, SliceAt.built _ _ _⟩
    · refine op_mk rfl fun a W hB hp hq K hK => ?_
      have e19 : a.tmps[19]?.getD undef = .pointer (some ⟨P, 0, none⟩) := hq 9 19 (by kernel_rfl) (by kernel_rfl)
      obtain ⟨A, c, e21, hA⟩ : isSl [.int .u32 dir] (a.tmps[21]?.getD undef) W := hq 11 21 (by kernel_rfl) (by kernel_rfl)
      have HA := Lib.hid hA
      clear hA
      have HB := Lib.hid hB
      clear hp hq hB
      go_simp
      refine (t_dirsI [dir] A 1 c _ rfl W (hT.below HB.out) rfl (by simp [maxLen]) HA.out).mono ?_
      rintro e w' ⟨g, lb, rfl, hv, hb⟩
      exact hK _ _ hb ⟨g, lb, rfl, hv⟩
    · refine op_mk rfl fun a W hB hp hq K hK => ?_
      have e4 : a.tmps[4]?.getD undef = .pointer (some ⟨w.heap.size, 0, none⟩) := hp 4 (by kernel_rfl)
      have cc := box_at hB b4
      clear hp hq
      go_simp
      exact hK _ _ (Below.refl _ _) rfl
    · refine op_mk rfl fun a W hB hp hq K hK => ?_
      have e7 : a.tmps[7]?.getD undef = .pointer (some ⟨w.heap.size + 1, 0, none⟩) := hp 7 (by kernel_rfl)
      have cc := box_at hB b7
      clear hp hq
      go_simp
      exact hK _ _ (Below.refl _ _) rfl
    · refine op_mk rfl fun a W hB hp hq K hK => ?_
      have e23 : a.tmps[23]?.getD undef = .pointer (some ⟨P, 0, none⟩) := hq 13 23 (by kernel_rfl) (by kernel_rfl)
      have e24 : a.tmps[24]?.getD undef = .int .u32 ino := hq 14 24 (by kernel_rfl) (by kernel_rfl)
      have HB := Lib.hid hB
      clear hp hq hB
      go_simp
      refine (t_file ino _ rfl W (hT.below HB.out)).mono ?_
      rintro e w' ⟨g, lb, rfl, hv, hb⟩
      exact hK _ _ hb ⟨g, lb, rfl, hv⟩
    · refine op_mk rfl fun a W hB hp hq K hK => ?_
      have e4 : a.tmps[4]?.getD undef = .pointer (some ⟨w.heap.size, 0, none⟩) := hp 4 (by kernel_rfl)
      have cc := box_at hB b4
      clear hp hq
      go_simp
      exact hK _ _ (Below.refl _ _) rfl
    · refine op_mk rfl fun a W hB hp hq K hK => ?_
      have e1 : a.tmps[1]?.getD undef = (.int .u32 dir) := hp 1 (by kernel_rfl)
      clear hp hq
      go_simp
      exact hK _ _ (Below.refl _ _) rfl
    · refine op_mk rfl fun a W hB hp hq K hK => ?_
      have e2 : a.tmps[2]?.getD undef = (.string s) := hp 2 (by kernel_rfl)
      clear hp hq
      go_simp
      exact hK _ _ (Below.refl _ _) rfl
    · refine op_mk rfl fun a W hB hp hq K hK => ?_
      have e26 : a.tmps[26]?.getD undef = .pointer (some ⟨P, 0, none⟩) := hq 16 26 (by kernel_rfl) (by kernel_rfl)
      have e27 : a.tmps[27]?.getD undef = .int .u32 dir := hq 17 27 (by kernel_rfl) (by kernel_rfl)
      have e28 : a.tmps[28]?.getD undef = .string s := hq 18 28 (by kernel_rfl) (by kernel_rfl)
      have HB := Lib.hid hB
      clear hp hq hB
      go_simp
      refine (t_fresh dir s _ rfl W (hT.below HB.out) hs).mono ?_
      rintro e w' ⟨g, lb, rfl, hv, hb⟩
      exact hK _ _ hb ⟨g, lb, rfl, hv⟩
    · refine op_mk rfl fun a W hB hp hq K hK => ?_
      have e4 : a.tmps[4]?.getD undef = .pointer (some ⟨w.heap.size, 0, none⟩) := hp 4 (by kernel_rfl)
      have e7 : a.tmps[7]?.getD undef = .pointer (some ⟨w.heap.size + 1, 0, none⟩) := hp 7 (by kernel_rfl)
      clear hp hq
      go_simp
      exact hK _ _ (Below.refl _ _) rfl
    · refine op_mk rfl fun a W hB hp hq K hK => ?_
      obtain ⟨g1, l1, q1, h1⟩ : isQ True (namesE [s]) (a.tmps[13]?.getD undef) W := hq 3 13 (by kernel_rfl) (by kernel_rfl)
      obtain ⟨g2, l2, q2, h2⟩ : isQ True (thereE t [dir, ino]) (a.tmps[18]?.getD undef) W := hq 8 18 (by kernel_rfl) (by kernel_rfl)
      obtain ⟨g3, l3, q3, h3⟩ : isQ (∀ i ∈ [dir], (t.n i).isSome = true) (dirsE t [dir]) (a.tmps[22]?.getD undef) W := hq 12 22 (by kernel_rfl) (by kernel_rfl)
      obtain ⟨g4, l4, q4, h4⟩ : isQ ((t.n ino).isSome = true) (fileE' t ino) (a.tmps[25]?.getD undef) W := hq 15 25 (by kernel_rfl) (by kernel_rfl)
      obtain ⟨g5, l5, q5, h5⟩ : isQ ((t.n dir).isSome = true) (freshE' t dir s) (a.tmps[29]?.getD undef) W := hq 19 29 (by kernel_rfl) (by kernel_rfl)
      have q6 : a.tmps[30]?.getD undef = (.func (.func 77) #[] #[.pointer (some ⟨w.heap.size, 0, none⟩), .pointer (some ⟨w.heap.size + 1, 0, none⟩)]) := hq 20 30 (by kernel_rfl) (by kernel_rfl)
      have H1 := Lib.hid h1
      clear h1
      have H2 := Lib.hid h2
      clear h2
      have H3 := Lib.hid h3
      clear h3
      have H4 := Lib.hid h4
      clear h4
      have H5 := Lib.hid h5
      clear h5
      have HB := Lib.hid hB
      clear hp hq hB
      go_simp
      have hb := (Below.refl W.heap.size W).alloc (Nat.le_refl _) (.cells #[.func (.func g1) #[] l1, .func (.func g2) #[] l2, .func (.func g3) #[] l3, .func (.func g4) #[] l4, .func (.func g5) #[] l5, (.func (.func 77) #[] #[.pointer (some ⟨w.heap.size, 0, none⟩), .pointer (some ⟨w.heap.size + 1, 0, none⟩)])] 86)
      have q6' := fun hx => q_link (i := ino) hx rfl (hT.below HB.out) (Nat.lt_of_lt_of_le (by omega) HB.out.size) (Nat.lt_of_lt_of_le (by omega) HB.out.size) (box_at HB.out b4) (box_at HB.out b7)
      exact hK _ _ hb ⟨_, _, _, rfl, rfl, SliceAt.built _ _ _, (link_asked (H1.out trivial) (H2.out trivial) H3.out H4.out H5.out q6').later hb⟩
    · refine op_mk rfl fun a W hB hp hq K hK => ?_
      have e10 : a.tmps[10]?.getD undef = .pointer (some ⟨P, 0, none⟩) := hq 0 10 (by kernel_rfl) (by kernel_rfl)
      obtain ⟨A, c, vs, e31, hl, hA, hq1⟩ : isAsk 6 [namesE [s], thereE t [dir, ino], dirsE t [dir], fileE' t ino, freshE' t dir s, linksE' t ino] (a.tmps[31]?.getD undef) W := hq 21 31 (by kernel_rfl) (by kernel_rfl)
      have HA := Lib.hid hA
      have HQ := Lib.hid hq1
      clear hp hq hA hq1
      go_simp
      refine (t_checkL ⟨P, 0, none⟩ A vs 6 c [namesE [s], thereE t [dir, ino], dirsE t [dir], fileE' t ino, freshE' t dir s, linksE' t ino] _ rfl W hl (by rw [hl]; simp [maxLen]) HA.out HQ.out (by simp)).mono ?_
      rintro e w' ⟨rfl, hb⟩
      exact hK _ _ hb rfl
    · refine op_mk rfl fun a W hB hp hq K hK => ?_
      have e32 : a.tmps[32]?.getD undef = .int .i64 (firstE [namesE [s], thereE t [dir, ino], dirsE t [dir], fileE' t ino, freshE' t dir s, linksE' t ino]) := hq 22 32 (by kernel_rfl) (by kernel_rfl)
      clear hp hq
      go_simp
      exact hK _ _ (Below.refl _ _) rfl
  · intro vs W hB hv
    have f22 : vs 22 = .int .i64 (linkE t dir s ino) := hv 22 (by decide) (by kernel_rfl)
    have f23 : vs 23 = .int .i64 (linkE t dir s ino) := hv 23 (by decide) (by kernel_rfl)
    clear hv
    have hBW : Below w.heap.size w W := ptrans hBw hB
    have hTW : TreeM W F P N y t := h.below hBW
    have d4 := box_at hB b4
    have d7 := box_at hB b7
    clear hB b4 b7 hT hBw
    simp only [putAll, Act.put, List.setIfInBounds_toArray, List.set_cons_succ, List.set_cons_zero, Nat.zero_add, Nat.reduceAdd, f22, f23]
    by_cases he : linkE t dir s ino = 0
    · obtain ⟨xd, xi, z1, z2, z3, z4, _, _⟩ := linkE_zero he
      have hP : Hid (r = 0 ∧ t' = enterT t dir xd s ino xi) := by
        unfold linkP linkT at hr
        rw [if_pos he, z1, z2] at hr
        injection hr with a b
        exact ⟨a.symm, b.symm⟩
      have hne : ino ≠ dir := fun e => by rw [e, z1] at z2; cases z2; exact z4 z3
      have HE := Lib.hid (t_enter dir s ino xd xi W hTW (by omega) z1 z2 hne hs (hlk ino xi z2))
      have HB := Lib.hid (Turn.of_below F hBW)
      rw [he]
      clear hr he z1 z2 z3 z4 hne hTW hBW f22 f23 h
      go_wp2_with (go_at_call 76; refine HE.out.mono ?_; rintro e w4 ⟨rfl, hT4, hU4⟩; have H4 := Lib.hid hT4; have HU4 := Lib.hid hU4; clear hT4 hU4)
      go_ret
      obtain ⟨rfl, rfl⟩ := hP.out
      exact ⟨rfl, _, _, H4.out, HB.out.trans HU4.out⟩
    · have hP : Hid (r = linkE t dir s ino ∧ t' = t) := by
        unfold linkP at hr
        rw [if_neg he] at hr
        injection hr with a b
        exact ⟨a.symm, b.symm⟩
      have HH : Hid (TreeM W F P N y t ∧ Below w.heap.size w W) := ⟨hTW, hBW⟩
      generalize linkE t dir s ino = q at *
      have he' : (q == 0) = false := by simpa using he
      clear hr he hTW hBW f22 f23 d4 d7 h
      go_wp2
      go_ret
      obtain ⟨rfl, rfl⟩ := hP.out
      exact ⟨rfl, _, _, HH.out.1.mono (by omega), Turn.of_below F HH.out.2⟩
end
end Go.Proofs.YtpcjbfhgmcioaaaGreat
