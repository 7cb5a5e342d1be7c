/- The chapter's example, walked. -/
import Derived.Test.YtpcjbfhgmcioaaaSA
import Derived.Laws.StructEq
namespace Go.Proofs.Ytpcjbfhgmcioaaa
open Go.RowKit Go.Maps

/-- A tree in memory of the call's own. -/
def Sit (w W : World) (P N : Nat) (t : PT) : Prop := ∃ y F, TreeM W F P N y t ∧ Below w.heap.size w W ∧ ∀ b, F b → w.heap.size ≤ b
theorem Sit.became {w W W' : World} {F : Nat → Prop} {P N : Nat} {t : PT} (hB : Below w.heap.size w W) (hF : ∀ b, F b → w.heap.size ≤ b) (h : Became W W' F P N t) : Sit w W' P N t := by
  obtain ⟨y', F', hT, hu⟩ := h
  exact ⟨y', F', hT, hB.trans (hu.below hF hB.size), fun b hb => (hu.foot b hb).elim (hF b) (fun h => Nat.le_trans hB.size h)⟩
theorem Sit.below {w W W' : World} {P N : Nat} {t : PT} (h : Sit w W P N t) (hB : Below W.heap.size W W') : Sit w W' P N t := by
  obtain ⟨y, F, hT, hb, hF⟩ := h
  exact ⟨y, F, hT.below hB, ptrans hb hB, hF⟩
theorem Sit.out {w W : World} {P N : Nat} {t : PT} (h : Sit w W P N t) : Below w.heap.size w W := by
  obtain ⟨_, _, _, hb, _⟩ := h
  exact hb
theorem sit_new (w : World) : Calls Try.prog 6 #[.int .i64 8] w fun e w' => ∃ P, e = .returned (.tuple #[.pointer (some ⟨P, 0, none⟩), .int .i64 0]) ∧ Sit w w' P 1 A0 := by
  refine (t_new 8 w (by omega) (by omega)).mono ?_
  rintro e w' ⟨P, y, F, rfl, hT, hB, hF⟩
  exact ⟨P, rfl, y, F, hT, hB, hF⟩
variable {w W : World} {P N : Nat} {t : PT}
theorem sit_make (dir : Int) (s : ByteArray) (kind m r1 r2 : Int) (t' : PT) (hm : Least t m) (hr : makeP t dir s kind m = ((r1, r2), t')) (h : Sit w W P N t) (hN : N < 900000) (hd : U32 dir) (hs : s.size ≤ maxLen) :
    Calls Try.prog 7 #[.pointer (some ⟨P, 0, none⟩), .int .u32 dir, .string s, .int .u8 kind] W fun e w' => e = .returned (.tuple #[.int .u32 r1, .int .i64 r2]) ∧ Sit w w' P (N + 2) t' := by
  obtain ⟨y, F, hT, hB, hF⟩ := h
  refine (t_makeP dir s kind m r1 r2 t' hm hr W hT hN hd hs).mono ?_
  rintro e w' ⟨rfl, h⟩
  exact ⟨rfl, Sit.became hB hF h⟩
theorem sit_link (dir : Int) (s : ByteArray) (ino r : Int) (t' : PT) (hr : linkP t dir s ino = (r, t')) (h : Sit w W P N t) (hN : N < 900000) (hd : U32 dir) (hi : U32 ino) (hs : s.size ≤ maxLen) (hlk : LinksOk t) :
    Calls Try.prog 12 #[.pointer (some ⟨P, 0, none⟩), .int .u32 dir, .string s, .int .u32 ino] W fun e w' => e = .returned (.int .i64 r) ∧ Sit w w' P (N + 1) t' := by
  obtain ⟨y, F, hT, hB, hF⟩ := h
  refine (t_linkP dir s ino r t' hr W hT hN hd hi hs hlk).mono ?_
  rintro e w' ⟨rfl, h⟩
  exact ⟨rfl, Sit.became hB hF h⟩
theorem sit_unlink (dir : Int) (s : ByteArray) (r1 r2 : Int) (t' : PT) (hr : dropP t dir s unlinkE = ((r1, r2), t')) (h : Sit w W P N t) (hg : GoodP t) (hd : U32 dir) (hs : s.size ≤ maxLen) :
    Calls Try.prog 13 #[.pointer (some ⟨P, 0, none⟩), .int .u32 dir, .string s] W fun e w' => e = .returned (.tuple #[.int .u32 r1, .int .i64 r2]) ∧ Sit w w' P N t' := by
  obtain ⟨y, F, hT, hB, hF⟩ := h
  refine (t_unlinkP dir s r1 r2 t' hr W hT hg hd hs).mono ?_
  rintro e w' ⟨rfl, h⟩
  exact ⟨rfl, Sit.became hB hF h⟩
theorem sit_stat (i : Int) (v : Value) (r : Int) (hr : statR t i = (v, r)) (h : Sit w W P N t) (hi : U32 i) :
    Calls Try.prog 10 #[.pointer (some ⟨P, 0, none⟩), .int .u32 i] W fun e w' => e = .returned (.tuple #[v, .int .i64 r]) ∧ Sit w w' P N t := by
  have h0 := h
  obtain ⟨y, F, hT, hB, hF⟩ := h
  refine (t_statP i W hT hi).mono ?_
  rw [hr]
  rintro e w' ⟨rfl, h⟩
  exact ⟨rfl, h0.below h⟩
def SitB (w W : World) (P N : Nat) (t : PT) (b : Nat) (o : Obj) : Prop := ∃ y F, TreeM W F P N y t ∧ Below w.heap.size w W ∧ (∀ b, F b → w.heap.size ≤ b) ∧ ¬ F b ∧ W.heap[b]? = some o
theorem Sit.box (h : Sit w W P N t) (xs : Array Value) (T : TypeId) : SitB w (W.alloc (.cells xs T)) P N t W.heap.size (.cells xs T) := by
  obtain ⟨y, F, hT, hB, hF⟩ := h
  exact ⟨y, F, hT.below (below_a1 W _), hB.trans ((below_a1 W _).mono hB.size), hF, fun hh => by have := hT.lt _ hh; omega, heap_alloc_new W _⟩
theorem SitB.get {b : Nat} {o : Obj} (h : SitB w W P N t b o) : W.heap[b]? = some o ∧ Below w.heap.size w W := by
  obtain ⟨y, F, hT, hB, hF, hn, ho⟩ := h
  exact ⟨ho, hB⟩
theorem sit_rmdir {b : Nat} {o : Obj} (dir : Int) (s : ByteArray) (r1 r2 : Int) (t' : PT) (hr : dropP t dir s rmdirE = ((r1, r2), t')) (h : SitB w W P N t b o) (hg : GoodP t) (hd : U32 dir) (hs : s.size ≤ maxLen) :
    Calls Try.prog 15 #[.pointer (some ⟨P, 0, none⟩), .int .u32 dir, .string s] W fun e w' => e = .returned (.tuple #[.int .u32 r1, .int .i64 r2]) ∧ SitB w w' P N t' b o := by
  obtain ⟨y, F, hT, hB, hF, hn, ho⟩ := h
  refine (t_rmdirP dir s r1 r2 t' hr W hT hg hd hs).mono ?_
  rintro e w' ⟨rfl, h⟩
  have hb : b < W.heap.size := (Array.getElem?_eq_some_iff.1 ho).1
  obtain ⟨y', F', hT', hu⟩ := h
  exact ⟨rfl, y', F', hT', hB.trans (hu.below hF hB.size), fun b hb => (hu.foot b hb).elim (hF b) (fun h => Nat.le_trans hB.size h), hu.foot_new hb hn, (hu.block b hb hn).trans ho⟩
theorem sit_loop {B : Nat} {o : Obj} (a : Int) (s : ByteArray) (b : Int) (s2 : ByteArray) (ino : Int) (x : PN) (k : Nat) (h : SitB w W P N t B o) (ha : U32 a) (hb : U32 b) (hs : s.size ≤ maxLen) (hs2 : s2.size ≤ maxLen)
    (he : firstE [namesE [s, s2], thereE t [a, b], dirsE t [a, b]] = 0) (hl : lookP t a s = (ino, 0)) (hx : t.n ino = some x) (hk : (x.kind == 2) = true) (hE : Ends t k b) (hB : belowP t ino k b = true) :
    Calls Try.prog 14 #[.pointer (some ⟨P, 0, none⟩), .int .u32 a, .string s, .int .u32 b, .string s2] W fun e w' => e = .returned (.int .i64 183) ∧ SitB w w' P N t B o := by
  obtain ⟨y, F, hT, hb0, hF, hn, ho⟩ := h
  refine (t_renameLoop a s b s2 ino x k W hT ha hb hs hs2 he hl hx hk hE hB).mono ?_
  rintro e w' ⟨rfl, h⟩
  exact ⟨rfl, y, F, hT.below h, hb0.trans (h.mono hb0.size), hF, hn, (h.block B (Array.getElem?_eq_some_iff.1 ho).1).trans ho⟩
def y2' : PN := z2
theorem A4_2 : A4.n 2 = some y2' := rfl
theorem A4_k : (y2'.kind == 2) = true := rfl
theorem u1 : U32 1 := ⟨by decide, by decide⟩
theorem u2 : U32 2 := ⟨by decide, by decide⟩
theorem u3 : U32 3 := ⟨by decide, by decide⟩
attribute [local irreducible] A0 A1 A2 A3 A4 A5 Sit SitB
set_option maxRecDepth 100000 in
set_option maxHeartbeats 1000000 in
theorem t_alive (w : World) : Calls Try.prog 5 #[] w fun e w' => e = .returned (.bool true) ∧ Below w.heap.size w w' := by
  go_enter Try.func5, Try.ntmps5
  go_wp2_with (first
    | (go_at_call 6; first
        | (with_reducible refine (sit_new w).mono ?_; rintro e w1 ⟨P, rfl, h1⟩; have H1 := Lib.hid h1; clear h1)
        | (with_reducible refine (t_newNo 1 _ (.inl (by omega))).mono ?_; rintro e w2 ⟨rfl, rfl⟩))
    | (go_at_call 7; first
        | (with_reducible refine (sit_make 1 sa 2 2 2 0 A1 least0 make0 H1.out (by omega) u1 (by decide)).mono ?_; rintro e w3 ⟨rfl, h⟩; have H3 := Lib.hid h; clear h H1)
        | (with_reducible refine (sit_make 2 sf 1 3 3 0 A2 least1 make1 H3.out (by omega) u2 (by decide)).mono ?_; rintro e w4 ⟨rfl, h⟩; have H4 := Lib.hid h; clear h H3))
    | (go_at_call 12; with_reducible refine (sit_link 1 sg 3 0 A3 link2 H4.out (by omega) u1 u3 (by decide) links2).mono ?_; rintro e w5 ⟨rfl, h⟩; have H5 := Lib.hid h; clear h H4)
    | (go_at_call 13; with_reducible refine (sit_unlink 2 sf 3 0 A4 unlink3 H5.out good3 u2 (by decide)).mono ?_; rintro e w6 ⟨rfl, h⟩; have H6 := Lib.hid h; clear h H5)
    | (go_at_call 10; with_reducible refine (sit_stat 3 (.agg #[.int .u32 3, .int .u8 1, .int .i64 1, .int .u32 0]) 0 stat4 H6.out u3).mono ?_; rintro e w7 ⟨rfl, h⟩; have H7 := Lib.hid (h.box #[.int .u32 3, .int .u8 1, .int .i64 1, .int .u32 0] 38); clear h H6)
    | (go_at_call 14; with_reducible refine (sit_loop 1 sa 2 sb 2 y2' 2 H7.out u1 u2 (by decide) (by decide) ren4 lookA4 A4_2 A4_k ends4 below4).mono ?_; rintro e w8 ⟨rfl, h⟩; have H8 := Lib.hid h; clear h H7)
    | (go_at_call 15; with_reducible refine (sit_rmdir 1 sa 2 0 A5 rmdir4 H8.out good4 u1 (by decide)).mono ?_; rintro e w9 ⟨rfl, h⟩; obtain ⟨ho, hb⟩ := h.get; have HB := Lib.hid hb
       have k0 : w9.cell? ⟨w7.heap.size, 0, none⟩ = some (.int .u32 3) := (by simp [World.cell?, ho])
       have k1 : w9.cell? ⟨w7.heap.size, 1, none⟩ = some (.int .u8 1) := (by simp [World.cell?, ho])
       have k2 : w9.cell? ⟨w7.heap.size, 2, none⟩ = some (.int .i64 1) := (by simp [World.cell?, ho])
       have k3 : w9.cell? ⟨w7.heap.size, 3, none⟩ = some (.int .u32 0) := (by simp [World.cell?, ho])
       clear ho hb h H8))
  go_ret
  exact ⟨rfl, HB.out⟩
end Go.Proofs.Ytpcjbfhgmcioaaa
