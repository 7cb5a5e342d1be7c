/- The chapter's example: the trees that it goes through. -/
import Derived.Test.YtpcjbfhgmcioaaaRY
namespace Go.Proofs.Ytpcjbfhgmcioaaa
open Go.RowKit Go.Maps

abbrev sa : ByteArray := { data := #[97] }
abbrev sb : ByteArray := { data := #[98] }
abbrev sf : ByteArray := { data := #[102] }
abbrev sg : ByteArray := { data := #[103] }
theorem name_one (c : UInt8) (h1 : c ≠ 46) (h2 : c ≠ 47) (h3 : c ≠ 0) : pnameB ⟨#[c]⟩ = true := by
  have e : (ByteArray.mk #[c]).size = 1 := rfl
  unfold pnameB pplainTo
  rw [ByteArray.toList_eq, e]
  simp [h1, h2, h3]
theorem names_ok {ss : List ByteArray} (h : ∀ s ∈ ss, pnameB s = true) : namesE ss = 0 := by
  unfold namesE
  rw [if_neg]
  intro hh
  obtain ⟨s, hs, hb⟩ := List.any_eq_true.1 hh
  rw [h s hs] at hb
  cases hb
theorem nm_a : pnameB sa = true := name_one 97 (by decide) (by decide) (by decide)
theorem nm_b : pnameB sb = true := name_one 98 (by decide) (by decide) (by decide)
theorem nm_f : pnameB sf = true := name_one 102 (by decide) (by decide) (by decide)
theorem nm_g : pnameB sg = true := name_one 103 (by decide) (by decide) (by decide)
theorem na : namesE [sa] = 0 := names_ok (by simpa using nm_a)
theorem nf : namesE [sf] = 0 := names_ok (by simpa using nm_f)
theorem ng : namesE [sg] = 0 := names_ok (by simpa using nm_g)
theorem nab : namesE [sa, sb] = 0 := names_ok (by simp; exact ⟨nm_a, nm_b⟩)

def A0 : PT := newT 8
def A1 : PT := makeT A0 1 sa 2 2
def A2 : PT := makeT A1 2 sf 1 3
def A3 : PT := linkT A2 1 sg 3
def x1 : PN := { newN 2 with l := updL (updL (fun _ => none) [97] 2) [103] 3 }
def x2 : PN := { newN 2 with up := 1, l := updL (fun _ => none) [102] 3 }
def x3 : PN := { newN 1 with links := 2 }
theorem A1_eq : A1 = enterT (A0.set 2 (newN 2)) 1 (newN 2) sa 2 (newN 2) := rfl
theorem A0_n (j : Int) : A0.n j = if j = 1 then some (newN 2) else none := rfl
def y1 : PN := { newN 2 with l := updL (fun _ => none) [97] 2 }
def y2 : PN := { newN 2 with up := 1 }
theorem A1_n (j : Int) : A1.n j = if j = 1 then some y1 else if j = 2 then some y2 else none := by
  by_cases h1 : j = 1
  · subst h1; rfl
  · by_cases h2 : j = 2
    · subst h2; rfl
    · rw [A1_eq]
      unfold enterT
      rw [PT.set_n, PT.set_n, PT.set_n, A0_n]
      simp [h1, h2]
theorem A2_eq : A2 = enterT (A1.set 3 (newN 1)) 2 y2 sf 3 (newN 1) := rfl
theorem A2_n (j : Int) : A2.n j = if j = 1 then some y1 else if j = 2 then some x2 else if j = 3 then some { newN 1 with links := 1 } else none := by
  by_cases h1 : j = 1
  · subst h1; rfl
  · by_cases h2 : j = 2
    · subst h2; rfl
    · by_cases h3 : j = 3
      · subst h3; rfl
      · rw [A2_eq]
        unfold enterT
        rw [PT.set_n, PT.set_n, PT.set_n, A1_n]
        simp [h1, h2, h3]
theorem A3_eq : A3 = enterT A2 1 y1 sg 3 { newN 1 with links := 1 } := rfl
theorem A3_n (j : Int) : A3.n j = if j = 1 then some x1 else if j = 2 then some x2 else if j = 3 then some x3 else none := by
  by_cases h1 : j = 1
  · subst h1; rfl
  · by_cases h3 : j = 3
    · subst h3; rfl
    · rw [A3_eq]
      unfold enterT
      rw [PT.set_n, PT.set_n, A2_n]
      simp [h1, h3]
def A4 : PT := leaveT A3 2 x2 sf 3 x3
def z2 : PN := { x2 with l := delL x2.l [102] }
def z3 : PN := { newN 1 with links := 1 }
theorem A4_n (j : Int) : A4.n j = if j = 1 then some x1 else if j = 2 then some z2 else if j = 3 then some z3 else none := by
  by_cases h1 : j = 1
  · subst h1; rfl
  · by_cases h3 : j = 3
    · subst h3; rfl
    · by_cases h2 : j = 2
      · subst h2; rfl
      · unfold A4 leaveT
        rw [PT.set_n, PT.set_n, A3_n]
        simp [h1, h2, h3]

theorem make0 : makeP A0 1 sa 2 2 = ((2, 0), A1) := by
  have h1 : makeE A0 1 sa 2 = 0 := by unfold makeE; rw [na]; rfl
  have h2 : makeAtE A0 1 sa 2 2 = 0 := by unfold makeAtE; rw [na]; rfl
  have h3 : ¬ A0.room < 2 := by decide
  unfold makeP makeQ makeAtP
  rw [if_pos h1, if_neg h3, if_pos h2]
  rfl
theorem make1 : makeP A1 2 sf 1 3 = ((3, 0), A2) := by
  have h1 : makeE A1 2 sf 1 = 0 := by unfold makeE; rw [nf]; rfl
  have h2 : makeAtE A1 2 sf 1 3 = 0 := by unfold makeAtE; rw [nf]; rfl
  have h3 : ¬ A1.room < 3 := by decide
  unfold makeP makeQ makeAtP
  rw [if_pos h1, if_neg h3, if_pos h2]
  rfl
theorem least0 : Least A0 2 := ⟨by decide, by decide, rfl, fun j h1 h2 => by
  have : j = 1 := by omega
  subst this; rfl⟩
theorem least1 : Least A1 3 := ⟨by decide, by decide, rfl, fun j h1 h2 => by
  have : j = 1 ∨ j = 2 := by omega
  rcases this with h | h <;> (subst h; rfl)⟩
theorem link2 : linkP A2 1 sg 3 = (0, A3) := by
  have h1 : linkE A2 1 sg 3 = 0 := by unfold linkE; rw [ng]; rfl
  unfold linkP
  rw [if_pos h1]
  rfl
theorem links2 : LinksOk A2 := by
  intro i x hx
  rw [A2_n] at hx
  split at hx
  · cases hx; decide
  · split at hx
    · cases hx; decide
    · split at hx
      · cases hx; decide
      · cases hx
theorem good3 : GoodP A3 := by
  refine ⟨fun d x k v hd hl => ?_, fun i x hx => ?_⟩
  · rw [A3_n] at hd
    have key : ∀ u, u = 2 ∨ u = 3 → (A3.n u).isSome = true := fun u hu => by rcases hu with h | h <;> (subst h; rfl)
    split at hd
    · rename_i h1
      cases hd
      have hl' : (if k = [103] then some 3 else if k = [97] then some 2 else none) = some v := hl
      split at hl'
      · cases hl'; exact ⟨by omega, by omega, by omega, key _ (.inr rfl)⟩
      · split at hl'
        · cases hl'; exact ⟨by omega, by omega, by omega, key _ (.inl rfl)⟩
        · cases hl'
    · split at hd
      · rename_i h1 h2
        cases hd
        have hl' : (if k = [102] then some 3 else none) = some v := hl
        split at hl'
        · cases hl'; exact ⟨by omega, by omega, by omega, key _ (.inr rfl)⟩
        · cases hl'
      · split at hd
        · cases hd
          cases hl
        · cases hd
  · rw [A3_n] at hx
    split at hx
    · cases hx; decide
    · split at hx
      · cases hx; decide
      · split at hx
        · cases hx; decide
        · cases hx
theorem good4 : GoodP A4 := by
  refine ⟨fun d x k v hd hl => ?_, fun i x hx => ?_⟩
  · rw [A4_n] at hd
    have key : ∀ u, u = 2 ∨ u = 3 → (A4.n u).isSome = true := fun u hu => by rcases hu with h | h <;> (subst h; rfl)
    split at hd
    · rename_i h1
      cases hd
      have hl' : (if k = [103] then some 3 else if k = [97] then some 2 else none) = some v := hl
      split at hl'
      · cases hl'; exact ⟨by omega, by omega, by omega, key _ (.inr rfl)⟩
      · split at hl'
        · cases hl'; exact ⟨by omega, by omega, by omega, key _ (.inl rfl)⟩
        · cases hl'
    · split at hd
      · rename_i h1 h2
        cases hd
        have hl' : (if k = [102] then none else if k = [102] then some 3 else none) = some v := hl
        split at hl'
        · cases hl'
        · cases hl'
      · split at hd
        · cases hd
          cases hl
        · cases hd
  · rw [A4_n] at hx
    split at hx
    · cases hx; decide
    · split at hx
      · cases hx; decide
      · split at hx
        · cases hx; decide
        · cases hx
theorem lookA3 : lookP A3 2 sf = (3, 0) := by
  have h1 : firstE [namesE [sf], thereE A3 [2], dirsE A3 [2]] = 0 := by rw [nf]; rfl
  unfold lookP
  rw [if_neg (by rw [h1]; simp)]
  rfl
theorem unlink3 : dropP A3 2 sf unlinkE = ((3, 0), A4) := by
  unfold dropP
  rw [lookA3]
  rfl
theorem stat4 : statR A4 3 = (statP 3 z3, 0) := rfl
theorem lookA4 : lookP A4 1 sa = (2, 0) := by
  have h1 : firstE [namesE [sa], thereE A4 [1], dirsE A4 [1]] = 0 := by rw [na]; rfl
  unfold lookP
  rw [if_neg (by rw [h1]; simp)]
  rfl
theorem ren4 : firstE [namesE [sa, sb], thereE A4 [1, 2], dirsE A4 [1, 2]] = 0 := by rw [nab]; rfl
theorem ends4 : Ends A4 2 2 := .inr ⟨rfl, .inr ⟨rfl, rfl⟩⟩
theorem below4 : belowP A4 2 2 2 = true := rfl
def A5 : PT := dropT A4 1 x1 sa 2 z2
theorem rmdir4 : dropP A4 1 sa rmdirE = ((2, 0), A5) := by
  have he : emptyB z2.l = true := emptyB_iff.2 fun k => by
    show (if k = [102] then none else if k = [102] then some 3 else none) = none
    split
    · rfl
    · rfl
  have hq : rmdirE z2 = 0 := by unfold rmdirE; rw [he]; rfl
  unfold dropP
  rw [lookA4]
  rw [if_neg (by simp)]
  show (if rmdirE z2 ≠ 0 then ((0, rmdirE z2), A4) else ((2, 0), A5)) = _
  rw [if_neg (by rw [hq]; simp)]
end Go.Proofs.Ytpcjbfhgmcioaaa
