/- The chapter's example: the trees that it goes through. -/
import Derived.Test.YtpcjbfhgmcioaaaGreatRY
import Derived.Laws.StructEq
namespace Go.Proofs.YtpcjbfhgmcioaaaGreat
open Go.RowKit Go.Maps

abbrev sa : ByteArray := { data := #[97] }
abbrev sb : ByteArray := { data := #[98] }
abbrev sf : ByteArray := { data := #[102] }
abbrev sg : ByteArray := { data := #[103] }
theorem name_one (c : UInt8) (h1 : c ≠ 46) (h2 : c ≠ 47) (h3 : c ≠ 0) : pnameB ⟨#[c]⟩ = true := by
  have e : (ByteArray.mk #[c]).size = 1 := rfl
  unfold pnameB pplainTo
  rw [ByteArray.toList_eq, e]
  simp [h1, h2, h3]
theorem names_ok {ss : List ByteArray} (h : ∀ s ∈ ss, pnameB s = true) : namesE ss = 0 := by
  unfold namesE
  rw [if_neg]
  intro hh
  obtain ⟨s, hs, hb⟩ := List.any_eq_true.1 hh
  rw [h s hs] at hb
  cases hb
theorem nm_a : pnameB sa = true := name_one 97 (by decide) (by decide) (by decide)
theorem nm_b : pnameB sb = true := name_one 98 (by decide) (by decide) (by decide)
theorem nm_f : pnameB sf = true := name_one 102 (by decide) (by decide) (by decide)
theorem nm_g : pnameB sg = true := name_one 103 (by decide) (by decide) (by decide)
theorem na : namesE [sa] = 0 := names_ok (by simpa using nm_a)
theorem nf : namesE [sf] = 0 := names_ok (by simpa using nm_f)
theorem ng : namesE [sg] = 0 := names_ok (by simpa using nm_g)
theorem nab : namesE [sa, sb] = 0 := names_ok (by simp; exact ⟨nm_a, nm_b⟩)

def A0 : PT := newT 8
def A1 : PT := makeT A0 1 sa 2 2
def A2 : PT := makeT A1 2 sf 1 3
def A3 : PT := linkT A2 1 sg 3
def x1 : PN := { newN 2 with l := updL (updL (fun _ => none) [97] 2) [103] 3 }
def x2 : PN := { newN 2 with up := 1, l := updL (fun _ => none) [102] 3 }
def x3 : PN := { newN 1 with links := 2 }
theorem A1_eq : A1 = enterT (A0.set 2 (newN 2)) 1 (newN 2) sa 2 (newN 2) := rfl
theorem A0_n (j : Int) : A0.n j = if j = 1 then some (newN 2) else none := rfl
def y1 : PN := { newN 2 with l := updL (fun _ => none) [97] 2 }
def y2 : PN := { newN 2 with up := 1 }
theorem A1_n (j : Int) : A1.n j = if j = 1 then some y1 else if j = 2 then some y2 else none := by
  by_cases h1 : j = 1
  · subst h1; rfl
  · by_cases h2 : j = 2
    · subst h2; rfl
    · rw [A1_eq]
      unfold enterT
      rw [PT.set_n, PT.set_n, PT.set_n, A0_n]
      simp [h1, h2]
theorem A2_eq : A2 = enterT (A1.set 3 (newN 1)) 2 y2 sf 3 (newN 1) := rfl
theorem A2_n (j : Int) : A2.n j = if j = 1 then some y1 else if j = 2 then some x2 else if j = 3 then some { newN 1 with links := 1 } else none := by
  by_cases h1 : j = 1
  · subst h1; rfl
  · by_cases h2 : j = 2
    · subst h2; rfl
    · by_cases h3 : j = 3
      · subst h3; rfl
      · rw [A2_eq]
        unfold enterT
        rw [PT.set_n, PT.set_n, PT.set_n, A1_n]
        simp [h1, h2, h3]
theorem A3_eq : A3 = enterT A2 1 y1 sg 3 { newN 1 with links := 1 } := rfl
theorem A3_n (j : Int) : A3.n j = if j = 1 then some x1 else if j = 2 then some x2 else if j = 3 then some x3 else none := by
  by_cases h1 : j = 1
  · subst h1; rfl
  · by_cases h3 : j = 3
    · subst h3; rfl
    · rw [A3_eq]
      unfold enterT
      rw [PT.set_n, PT.set_n, A2_n]
      simp [h1, h3]
def A4 : PT := leaveT A3 2 x2 sf 3 x3
def z2 : PN := { x2 with l := delL x2.l [102] }
def z3 : PN := { newN 1 with links := 1 }
theorem A4_n (j : Int) : A4.n j = if j = 1 then some x1 else if j = 2 then some z2 else if j = 3 then some z3 else none := by
  by_cases h1 : j = 1
  · subst h1; rfl
  · by_cases h3 : j = 3
    · subst h3; rfl
    · by_cases h2 : j = 2
      · subst h2; rfl
      · unfold A4 leaveT
        rw [PT.set_n, PT.set_n, A3_n]
        simp [h1, h2, h3]

theorem make0 : makeP A0 1 sa 2 2 = ((2, 0), A1) := by
  have h1 : makeE A0 1 sa 2 = 0 := by unfold makeE; rw [na]; rfl
  have h2 : makeAtE A0 1 sa 2 2 = 0 := by unfold makeAtE; rw [na]; rfl
  have h3 : ¬ A0.room < 2 := by decide
  unfold makeP makeQ makeAtP
  rw [if_pos h1, if_neg h3, if_pos h2]
  rfl
theorem make1 : makeP A1 2 sf 1 3 = ((3, 0), A2) := by
  have h1 : makeE A1 2 sf 1 = 0 := by unfold makeE; rw [nf]; rfl
  have h2 : makeAtE A1 2 sf 1 3 = 0 := by unfold makeAtE; rw [nf]; rfl
  have h3 : ¬ A1.room < 3 := by decide
  unfold makeP makeQ makeAtP
  rw [if_pos h1, if_neg h3, if_pos h2]
  rfl
theorem least0 : Least A0 2 := ⟨by decide, by decide, rfl, fun j h1 h2 => by
  have : j = 1 := by omega
  subst this; rfl⟩
theorem least1 : Least A1 3 := ⟨by decide, by decide, rfl, fun j h1 h2 => by
  have : j = 1 ∨ j = 2 := by omega
  rcases this with h | h <;> (subst h; rfl)⟩
theorem link2 : linkP A2 1 sg 3 = (0, A3) := by
  have h1 : linkE A2 1 sg 3 = 0 := by unfold linkE; rw [ng]; rfl
  unfold linkP
  rw [if_pos h1]
  rfl
theorem links2 : LinksOk A2 := by
  intro i x hx
  rw [A2_n] at hx
  split at hx
  · cases hx; decide
  · split at hx
    · cases hx; decide
    · split at hx
      · cases hx; decide
      · cases hx
theorem good3 : GoodP A3 := by
  refine ⟨fun d x k v hd hl => ?_, fun i x hx => ?_⟩
  · rw [A3_n] at hd
    have key : ∀ u, u = 2 ∨ u = 3 → (A3.n u).isSome = true := fun u hu => by rcases hu with h | h <;> (subst h; rfl)
    split at hd
    · rename_i h1
      cases hd
      have hl' : (if k = [103] then some 3 else if k = [97] then some 2 else none) = some v := hl
      split at hl'
      · cases hl'; exact ⟨by omega, by omega, by omega, key _ (.inr rfl)⟩
      · split at hl'
        · cases hl'; exact ⟨by omega, by omega, by omega, key _ (.inl rfl)⟩
        · cases hl'
    · split at hd
      · rename_i h1 h2
        cases hd
        have hl' : (if k = [102] then some 3 else none) = some v := hl
        split at hl'
        · cases hl'; exact ⟨by omega, by omega, by omega, key _ (.inr rfl)⟩
        · cases hl'
      · split at hd
        · cases hd
          cases hl
        · cases hd
  · rw [A3_n] at hx
    split at hx
    · cases hx; decide
    · split at hx
      · cases hx; decide
      · split at hx
        · cases hx; decide
        · cases hx
theorem good4 : GoodP A4 := by
  refine ⟨fun d x k v hd hl => ?_, fun i x hx => ?_⟩
  · rw [A4_n] at hd
    have key : ∀ u, u = 2 ∨ u = 3 → (A4.n u).isSome = true := fun u hu => by rcases hu with h | h <;> (subst h; rfl)
    split at hd
    · rename_i h1
      cases hd
      have hl' : (if k = [103] then some 3 else if k = [97] then some 2 else none) = some v := hl
      split at hl'
      · cases hl'; exact ⟨by omega, by omega, by omega, key _ (.inr rfl)⟩
      · split at hl'
        · cases hl'; exact ⟨by omega, by omega, by omega, key _ (.inl rfl)⟩
        · cases hl'
    · split at hd
      · rename_i h1 h2
        cases hd
        have hl' : (if k = [102] then none else if k = [102] then some 3 else none) = some v := hl
        split at hl'
        · cases hl'
        · cases hl'
      · split at hd
        · cases hd
          cases hl
        · cases hd
  · rw [A4_n] at hx
    split at hx
    · cases hx; decide
    · split at hx
      · cases hx; decide
      · split at hx
        · cases hx; decide
        · cases hx
theorem lookA3 : lookP A3 2 sf = (3, 0) := by
  have h1 : firstE [namesE [sf], thereE A3 [2], dirsE A3 [2]] = 0 := by rw [nf]; rfl
  unfold lookP
  rw [if_neg (by rw [h1]; simp)]
  rfl
theorem unlink3 : dropP A3 2 sf unlinkE = ((3, 0), A4) := by
  unfold dropP
  rw [lookA3]
  rfl
theorem stat4 : statR A4 3 = (statP 3 z3, 0) := rfl
theorem lookA4 : lookP A4 1 sa = (2, 0) := by
  have h1 : firstE [namesE [sa], thereE A4 [1], dirsE A4 [1]] = 0 := by rw [na]; rfl
  unfold lookP
  rw [if_neg (by rw [h1]; simp)]
  rfl
theorem ren4 : firstE [namesE [sa, sb], thereE A4 [1, 2], dirsE A4 [1, 2]] = 0 := by rw [nab]; rfl
theorem ends4 : Ends A4 2 2 := .inr ⟨rfl, .inr ⟨rfl, rfl⟩⟩
theorem below4 : belowP A4 2 2 2 = true := rfl
def A5 : PT := dropT A4 1 x1 sa 2 z2
theorem rmdir4 : dropP A4 1 sa rmdirE = ((2, 0), A5) := by
  have he : emptyB z2.l = true := emptyB_iff.2 fun k => by
    show (if k = [102] then none else if k = [102] then some 3 else none) = none
    split
    · rfl
    · rfl
  have hq : rmdirE z2 = 0 := by unfold rmdirE; rw [he]; rfl
  unfold dropP
  rw [lookA4]
  rw [if_neg (by simp)]
  show (if rmdirE z2 ≠ 0 then ((0, rmdirE z2), A4) else ((2, 0), A5)) = _
  rw [if_neg (by rw [hq]; simp)]
end Go.Proofs.YtpcjbfhgmcioaaaGreat

/- The chapter's example, walked. -/
namespace Go.Proofs.YtpcjbfhgmcioaaaGreat
open Go.RowKit Go.Maps

/-- A tree in memory of the call's own. -/
def Sit (w W : World) (P N : Nat) (t : PT) : Prop := ∃ y F, TreeM W F P N y t ∧ Below w.heap.size w W ∧ ∀ b, F b → w.heap.size ≤ b
theorem Sit.became {w W W' : World} {F : Nat → Prop} {P N : Nat} {t : PT} (hB : Below w.heap.size w W) (hF : ∀ b, F b → w.heap.size ≤ b) (h : Became W W' F P N t) : Sit w W' P N t := by
  obtain ⟨y', F', hT, hu⟩ := h
  exact ⟨y', F', hT, hB.trans (hu.below hF hB.size), fun b hb => (hu.foot b hb).elim (hF b) (fun h => Nat.le_trans hB.size h)⟩
theorem Sit.below {w W W' : World} {P N : Nat} {t : PT} (h : Sit w W P N t) (hB : Below W.heap.size W W') : Sit w W' P N t := by
  obtain ⟨y, F, hT, hb, hF⟩ := h
  exact ⟨y, F, hT.below hB, ptrans hb hB, hF⟩
theorem Sit.out {w W : World} {P N : Nat} {t : PT} (h : Sit w W P N t) : Below w.heap.size w W := by
  obtain ⟨_, _, _, hb, _⟩ := h
  exact hb
theorem sit_new (w : World) : Calls Tryz.prog 9 #[.int .i64 8] w fun e w' => ∃ P, e = .returned (.tuple #[.pointer (some ⟨P, 0, none⟩), .int .i64 0]) ∧ Sit w w' P 1 A0 := by
  refine (t_new 8 w (by omega) (by omega)).mono ?_
  rintro e w' ⟨P, y, F, rfl, hT, hB, hF⟩
  exact ⟨P, rfl, y, F, hT, hB, hF⟩
variable {w W : World} {P N : Nat} {t : PT}
theorem sit_make (dir : Int) (s : ByteArray) (kind m r1 r2 : Int) (t' : PT) (hm : Least t m) (hr : makeP t dir s kind m = ((r1, r2), t')) (h : Sit w W P N t) (hN : N < 900000) (hd : U32 dir) (hs : s.size ≤ maxLen) :
    Calls Tryz.prog 12 #[.pointer (some ⟨P, 0, none⟩), .int .u32 dir, .string s, .int .u8 kind] W fun e w' => e = .returned (.tuple #[.int .u32 r1, .int .i64 r2]) ∧ Sit w w' P (N + 2) t' := by
  obtain ⟨y, F, hT, hB, hF⟩ := h
  refine (t_makeP dir s kind m r1 r2 t' hm hr W hT hN hd hs).mono ?_
  rintro e w' ⟨rfl, h⟩
  exact ⟨rfl, Sit.became hB hF h⟩
theorem sit_link (dir : Int) (s : ByteArray) (ino r : Int) (t' : PT) (hr : linkP t dir s ino = (r, t')) (h : Sit w W P N t) (hN : N < 900000) (hd : U32 dir) (hi : U32 ino) (hs : s.size ≤ maxLen) (hlk : LinksOk t) :
    Calls Tryz.prog 25 #[.pointer (some ⟨P, 0, none⟩), .int .u32 dir, .string s, .int .u32 ino] W fun e w' => e = .returned (.int .i64 r) ∧ Sit w w' P (N + 1) t' := by
  obtain ⟨y, F, hT, hB, hF⟩ := h
  refine (t_linkP dir s ino r t' hr W hT hN hd hi hs hlk).mono ?_
  rintro e w' ⟨rfl, h⟩
  exact ⟨rfl, Sit.became hB hF h⟩
theorem sit_unlink (dir : Int) (s : ByteArray) (r1 r2 : Int) (t' : PT) (hr : dropP t dir s unlinkE = ((r1, r2), t')) (h : Sit w W P N t) (hg : GoodP t) (hd : U32 dir) (hs : s.size ≤ maxLen) :
    Calls Tryz.prog 13 #[.pointer (some ⟨P, 0, none⟩), .int .u32 dir, .string s] W fun e w' => e = .returned (.tuple #[.int .u32 r1, .int .i64 r2]) ∧ Sit w w' P N t' := by
  obtain ⟨y, F, hT, hB, hF⟩ := h
  refine (t_unlinkP dir s r1 r2 t' hr W hT hg hd hs).mono ?_
  rintro e w' ⟨rfl, h⟩
  exact ⟨rfl, Sit.became hB hF h⟩
theorem sit_stat (i : Int) (v : Value) (r : Int) (hr : statR t i = (v, r)) (h : Sit w W P N t) (hi : U32 i) :
    Calls Tryz.prog 26 #[.pointer (some ⟨P, 0, none⟩), .int .u32 i] W fun e w' => e = .returned (.tuple #[v, .int .i64 r]) ∧ Sit w w' P N t := by
  have h0 := h
  obtain ⟨y, F, hT, hB, hF⟩ := h
  refine (t_statP i W hT hi).mono ?_
  rw [hr]
  rintro e w' ⟨rfl, h⟩
  exact ⟨rfl, h0.below h⟩
def SitB (w W : World) (P N : Nat) (t : PT) (b : Nat) (o : Obj) : Prop := ∃ y F, TreeM W F P N y t ∧ Below w.heap.size w W ∧ (∀ b, F b → w.heap.size ≤ b) ∧ ¬ F b ∧ W.heap[b]? = some o
theorem Sit.box (h : Sit w W P N t) (xs : Array Value) (T : TypeId) : SitB w (W.alloc (.cells xs T)) P N t W.heap.size (.cells xs T) := by
  obtain ⟨y, F, hT, hB, hF⟩ := h
  exact ⟨y, F, hT.below (below_a1 W _), hB.trans ((below_a1 W _).mono hB.size), hF, fun hh => by have := hT.lt _ hh; omega, heap_alloc_new W _⟩
theorem SitB.get {b : Nat} {o : Obj} (h : SitB w W P N t b o) : W.heap[b]? = some o ∧ Below w.heap.size w W := by
  obtain ⟨y, F, hT, hB, hF, hn, ho⟩ := h
  exact ⟨ho, hB⟩
theorem sit_rmdir {b : Nat} {o : Obj} (dir : Int) (s : ByteArray) (r1 r2 : Int) (t' : PT) (hr : dropP t dir s rmdirE = ((r1, r2), t')) (h : SitB w W P N t b o) (hg : GoodP t) (hd : U32 dir) (hs : s.size ≤ maxLen) :
    Calls Tryz.prog 27 #[.pointer (some ⟨P, 0, none⟩), .int .u32 dir, .string s] W fun e w' => e = .returned (.tuple #[.int .u32 r1, .int .i64 r2]) ∧ SitB w w' P N t' b o := by
  obtain ⟨y, F, hT, hB, hF, hn, ho⟩ := h
  refine (t_rmdirP dir s r1 r2 t' hr W hT hg hd hs).mono ?_
  rintro e w' ⟨rfl, h⟩
  have hb : b < W.heap.size := (Array.getElem?_eq_some_iff.1 ho).1
  obtain ⟨y', F', hT', hu⟩ := h
  exact ⟨rfl, y', F', hT', hB.trans (hu.below hF hB.size), fun b hb => (hu.foot b hb).elim (hF b) (fun h => Nat.le_trans hB.size h), hu.foot_new hb hn, (hu.block b hb hn).trans ho⟩
theorem sit_loop {B : Nat} {o : Obj} (a : Int) (s : ByteArray) (b : Int) (s2 : ByteArray) (ino : Int) (x : PN) (k : Nat) (h : SitB w W P N t B o) (ha : U32 a) (hb : U32 b) (hs : s.size ≤ maxLen) (hs2 : s2.size ≤ maxLen)
    (he : firstE [namesE [s, s2], thereE t [a, b], dirsE t [a, b]] = 0) (hl : lookP t a s = (ino, 0)) (hx : t.n ino = some x) (hk : (x.kind == 2) = true) (hE : Ends t k b) (hB : belowP t ino k b = true) :
    Calls Tryz.prog 24 #[.pointer (some ⟨P, 0, none⟩), .int .u32 a, .string s, .int .u32 b, .string s2] W fun e w' => e = .returned (.int .i64 183) ∧ SitB w w' P N t B o := by
  obtain ⟨y, F, hT, hb0, hF, hn, ho⟩ := h
  refine (t_renameLoop a s b s2 ino x k W hT ha hb hs hs2 he hl hx hk hE hB).mono ?_
  rintro e w' ⟨rfl, h⟩
  exact ⟨rfl, y, F, hT.below h, hb0.trans (h.mono hb0.size), hF, hn, (h.block B (Array.getElem?_eq_some_iff.1 ho).1).trans ho⟩
def y2' : PN := z2
theorem A4_2 : A4.n 2 = some y2' := rfl
theorem A4_k : (y2'.kind == 2) = true := rfl
theorem u1 : U32 1 := ⟨by decide, by decide⟩
theorem u2 : U32 2 := ⟨by decide, by decide⟩
theorem u3 : U32 3 := ⟨by decide, by decide⟩
attribute [local irreducible] A0 A1 A2 A3 A4 A5 Sit SitB
set_option maxRecDepth 100000 in
set_option maxHeartbeats 1000000 in
theorem t_alive (w : World) : Calls Tryz.prog 7 #[] w fun e w' => e = .returned (.bool true) ∧ Below w.heap.size w w' := by
  go_enter Tryz.func7, Tryz.ntmps7
  go_wp2_with (first
    | (go_at_call 9; first
        | (with_reducible refine (sit_new w).mono ?_; rintro e w1 ⟨P, rfl, h1⟩; have H1 := Lib.hid h1; clear h1)
        | (with_reducible refine (t_newNo 1 _ (.inl (by omega))).mono ?_; rintro e w2 ⟨rfl, rfl⟩))
    | (go_at_call 12; first
        | (with_reducible refine (sit_make 1 sa 2 2 2 0 A1 least0 make0 H1.out (by omega) u1 (by decide)).mono ?_; rintro e w3 ⟨rfl, h⟩; have H3 := Lib.hid h; clear h H1)
        | (with_reducible refine (sit_make 2 sf 1 3 3 0 A2 least1 make1 H3.out (by omega) u2 (by decide)).mono ?_; rintro e w4 ⟨rfl, h⟩; have H4 := Lib.hid h; clear h H3))
    | (go_at_call 25; with_reducible refine (sit_link 1 sg 3 0 A3 link2 H4.out (by omega) u1 u3 (by decide) links2).mono ?_; rintro e w5 ⟨rfl, h⟩; have H5 := Lib.hid h; clear h H4)
    | (go_at_call 13; with_reducible refine (sit_unlink 2 sf 3 0 A4 unlink3 H5.out good3 u2 (by decide)).mono ?_; rintro e w6 ⟨rfl, h⟩; have H6 := Lib.hid h; clear h H5)
    | (go_at_call 26; with_reducible refine (sit_stat 3 (.agg #[.int .u32 3, .int .u8 1, .int .i64 1, .int .u32 0]) 0 stat4 H6.out u3).mono ?_; rintro e w7 ⟨rfl, h⟩; have H7 := Lib.hid (h.box #[.int .u32 3, .int .u8 1, .int .i64 1, .int .u32 0] 54); clear h H6)
    | (go_at_call 24; with_reducible refine (sit_loop 1 sa 2 sb 2 y2' 2 H7.out u1 u2 (by decide) (by decide) ren4 lookA4 A4_2 A4_k ends4 below4).mono ?_; rintro e w8 ⟨rfl, h⟩; have H8 := Lib.hid h; clear h H7)
    | (go_at_call 27; with_reducible refine (sit_rmdir 1 sa 2 0 A5 rmdir4 H8.out good4 u1 (by decide)).mono ?_; rintro e w9 ⟨rfl, h⟩; obtain ⟨ho, hb⟩ := h.get; have HB := Lib.hid hb
       have k0 : w9.cell? ⟨w7.heap.size, 0, none⟩ = some (.int .u32 3) := (by simp [World.cell?, ho])
       have k1 : w9.cell? ⟨w7.heap.size, 1, none⟩ = some (.int .u8 1) := (by simp [World.cell?, ho])
       have k2 : w9.cell? ⟨w7.heap.size, 2, none⟩ = some (.int .i64 1) := (by simp [World.cell?, ho])
       have k3 : w9.cell? ⟨w7.heap.size, 3, none⟩ = some (.int .u32 0) := (by simp [World.cell?, ho])
       clear ho hb h H8))
  go_ret
  exact ⟨rfl, HB.out⟩
end Go.Proofs.YtpcjbfhgmcioaaaGreat

/- The steps that come in, and Long. -/
namespace Go.Proofs.YtpcjbfhgmcioaaaGreat
open Go.RowKit Go.Maps

structure PStep where
  what : Int
  dir : Int
  ino : Int
  name : ByteArray
  toN : ByteArray
  kind : Int
  n : Int
  data : ByteArray
structure StepAt (w : World) (b o : Nat) (s : PStep) : Prop where
  c0 : w.cell? ⟨b, o, none⟩ = some (.int .i64 s.what)
  c1 : w.cell? ⟨b, o + 1, none⟩ = some (.int .u32 s.dir)
  c2 : w.cell? ⟨b, o + 2, none⟩ = some (.int .u32 s.ino)
  c3 : w.cell? ⟨b, o + 3, none⟩ = some (.string s.name)
  c4 : w.cell? ⟨b, o + 4, none⟩ = some (.string s.toN)
  c5 : w.cell? ⟨b, o + 5, none⟩ = some (.int .u8 s.kind)
  c6 : w.cell? ⟨b, o + 6, none⟩ = some (.int .i64 s.n)
  c7 : w.cell? ⟨b, o + 7, none⟩ = some (.string s.data)
theorem StepAt.below {B : Nat} {w w' : World} {b o : Nat} {s : PStep} (h : StepAt w b o s) (hb : Below B w w') (hlt : b < B) : StepAt w' b o s :=
  have key : ∀ j, w'.cell? ⟨b, j, none⟩ = w.cell? ⟨b, j, none⟩ := fun j => hb.cell (p := ⟨b, j, none⟩) hlt
  ⟨(key _).trans h.c0, (key _).trans h.c1, (key _).trans h.c2, (key _).trans h.c3, (key _).trans h.c4, (key _).trans h.c5, (key _).trans h.c6, (key _).trans h.c7⟩
structure StepFits (s : PStep) : Prop where
  dir : U32 s.dir
  ino : U32 s.ino
  name : s.name.size ≤ maxLen
  toN : s.toN.size ≤ maxLen
  kind : 0 ≤ s.kind ∧ s.kind ≤ 255
  data : s.data.size ≤ maxLen
structure Steps (w : World) (A : Option Addr) (n : Nat) (f : Nat → PStep) : Prop where
  at_ : 0 < n → ∃ b o, A = some ⟨b, o, none⟩ ∧ b < w.heap.size ∧ ∀ k, k < n → StepAt w b (o + k * 8) (f k)
  fits : ∀ k, k < n → StepFits (f k)
theorem Steps.below {w w' : World} {A : Option Addr} {n : Nat} {f : Nat → PStep} (h : Steps w A n f) (hb : Below w.heap.size w w') : Steps w' A n f :=
  ⟨fun h0 => by
    obtain ⟨b, o, e, hlt, hs⟩ := h.at_ h0
    exact ⟨b, o, e, Nat.lt_of_lt_of_le hlt hb.size, fun k hk => (hs k hk).below hb hlt⟩, h.fits⟩

def LongQ (n : Nat) (w : World) (e : Ending) (w' : World) : Prop := ∃ b, e = .returned (.bool b) ∧ (b = false → n ≤ 150) ∧ Below w.heap.size w w'
set_option maxRecDepth 100000 in
set_option maxHeartbeats 4000000 in
theorem t_long (A : Option Addr) (n c : Nat) (f : Nat → PStep) (w : World) (hs : Steps w A n f) (hn : n ≤ maxLen) :
    Calls Tryz.prog 6 #[.slice A n c] w (LongQ n w) := by
  unfold maxLen at hn
  have HS := Lib.hid hs
  clear hs
  go_enter Tryz.func6, Tryz.ntmps6
  go_wp2
  go_loopw [3, 4] (fun s i W => ∃ (k : Nat) (x : Int), i = .int .i64 k ∧ s = .int .i64 x ∧ k ≤ n ∧ k ≤ 300 ∧ Below w.heap.size w W) (fun _ i _ => n - (intOf i).toNat)
  case atStart => exact ⟨0, 0, rfl, rfl, Nat.zero_le _, by omega, Below.refl _ _⟩
  case round =>
    obtain ⟨k, x, rfl, rfl, hk, hk3, hB⟩ := hrel
    have HBW := Lib.hid hB
    clear hB
    by_cases he : k = n ∨ k = 300
    · go_wp2
      all_goals go_ret
      all_goals exact ⟨_, rfl, fun hf => by first | (cases hf; done) | omega | (simp at hf; omega), HBW.out⟩
    · have hkn : k < n := by omega
      have hk4 : k < 300 := by omega
      obtain ⟨b, o, rfl, hlt, hc⟩ := HS.out.at_ (by omega)
      have hst := (hc k hkn).below HBW.out hlt
      have c3 := hst.c3
      have c4 := hst.c4
      have c7 := hst.c7
      clear hst hc he
      go_wp2
      go_quiet (fail)
      generalize hw2 : wr.drewN _ = w2
      have HB : Hid (Below w.heap.size w w2) := by rw [← hw2]; exact pbelow_drewN HBW.out _
      clear hw2
      go_wp2
      go_roundw
      case rel => exact ⟨k + 1, _, by go_num, rfl, by omega, by omega, HB.out⟩
      case measure => simp [intOf]; omega
end Go.Proofs.YtpcjbfhgmcioaaaGreat
