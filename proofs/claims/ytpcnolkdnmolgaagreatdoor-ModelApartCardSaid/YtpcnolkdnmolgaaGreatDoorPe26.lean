/- ModelApart is proved: for whatever steps the statement's Go function returns true, and its argument reads as it did. The one condition is the given one: the listed package variable reads as its text lays it; the card ties that to the program's text. -/
import Derived.Test.YtpcnolkdnmolgaaGreatDoorPe13
import Derived.Test.YtpcnolkdnmolgaaGreatDoorPe15
import Derived.Test.YtpcnolkdnmolgaaGreatDoorPe18
import Derived.Test.YtpcnolkdnmolgaaGreatDoorPe25
import Derived.Test.YtpcnolkdnmolgaaGreatDoorRows
import Derived.MakeChecks
import Derived.LaidLaws
import Derived.LaidHandle
import Derived.LaidMore
import Derived.OpenShut
import Derived.Stop.Joined
import Derived.Test.YtpcnolkdnmolgaaGreatDoorCards
import Derived.Test.YtpcnolkdnmolgaaGreatDoorTie
import Derived.SevenTiedAt
namespace Go.Proofs.YtpcnolkdnmolgaaGreatDoor
section
open Go.RowKit Go.Maps
def S21At (w : World) (A : Option Addr) (l : List (Int × Cx)) : Prop := l ≠ [] → ∃ b o, A = some ⟨b, o, none⟩ ∧ b < w.heap.size ∧ ∀ (k : Nat) (s : Int × Cx), l[k]? = some s → w.cell? ⟨b, o + k * 10, none⟩ = some (.int .i64 s.1) ∧ ∀ (j : Nat) (v : Value), (callCells s.2)[j]? = some v → w.cell? ⟨b, o + k * 10 + 1 + j, none⟩ = some v
theorem S21At.below {w w' : World} {A : Option Addr} {l : List (Int × Cx)} (h : S21At w A l) (hb : Below w.heap.size w w') : S21At w' A l := fun hn => by
 obtain ⟨b, o, h1, h2, h3⟩ := h hn
 have hc : ∀ q, w'.cell? ⟨b, q, none⟩ = w.cell? ⟨b, q, none⟩ := fun q => World.cell?_of_block (a := ⟨b, q, none⟩) (hb.block b h2)
 refine ⟨b, o, h1, Nat.lt_of_lt_of_le h2 hb.size, fun k s hk => ?_⟩
 obtain ⟨a1, a2⟩ := h3 k s hk
 exact ⟨(hc _).trans a1, fun j v hv => (hc _).trans (a2 j v hv)⟩
def LongM (n : Nat) (w : World) (e : Ending) (w' : World) : Prop := ∃ b : Bool, e = .returned (.bool b) ∧ (b = false → n ≤ 120) ∧ Below w.heap.size w w'
theorem LongM.get {n : Nat} {w w' : World} {e : Ending} (h : LongM n w e w') : ∃ b : Bool, e = .returned (.bool b) ∧ (b = false → n ≤ 120) ∧ Below w.heap.size w w' := h
theorem LongM.of {n : Nat} {w w' : World} {b : Bool} (h : b = false → n ≤ 120) (hb : Below w.heap.size w w') : LongM n w (.returned (.bool b)) w' := ⟨b, rfl, h, hb⟩
set_option maxRecDepth 100000 in
theorem t_long20 (x : Cx) (w : World) : Calls Tryz.prog 37 #[callV x] w fun e w' => (∃ b : Bool, e = .returned (.bool b)) ∧ Below w.heap.size w w' := by
 obtain ⟨act, p1, p2, fd, pg, sz, dt⟩ := x
 show Calls Tryz.prog 37 #[.agg #[.int .u8 act, .string p1, .string p2, .int .i64 fd, .int .i64 pg, .int .u32 sz, .string dt]] w _
 go_enter Tryz.func37, Tryz.ntmps37
 go_wp2
 go_ret
 exact ⟨⟨_, rfl⟩, (Below.refl _ _).alloc (Nat.le_refl _) _⟩
theorem s21_get {l : List (Int × Cx)} {k : Nat} (h : k < l.length) : ∃ s, l[k]? = some s := ⟨_, List.getElem?_eq_getElem h⟩
def isI : Ph := fun v _ => ∃ x : Int, v = .int .i64 x
set_option maxRecDepth 100000 in
set_option maxHeartbeats 4000000 in
theorem t_long21 (A : Option Addr) (n c : Nat) (l : List (Int × Cx)) (w : World) (hl : S21At w A l) (hn : l.length = n) (hn2 : n ≤ maxLen) :
  Calls Tryz.prog 8 #[.slice A n c] w (LongM n w) := by
 have HL := zz hl
 have HN := zz hn
 unfold maxLen at hn2
 clear hl hn
 go_enter Tryz.func8, Tryz.ntmps8
 go_wp2
 go_loopw [3, 4] (fun v3 v4 wr => ∃ (i : Nat) (x : Int), v3 = .int .i64 x ∧ v4 = .int .i64 (i : Int) ∧ i ≤ n ∧ i ≤ 300 ∧ Hid (Below w.heap.size w wr)) (fun _ v4 _ => n - (intOf v4).toNat)
 case atStart => exact ⟨0, 0, rfl, rfl, Nat.zero_le _, Nat.zero_le _, Below.refl _ _⟩
 case round =>
  obtain ⟨k, x, rfl, rfl, hk, hk2, HW⟩ := hrel
  by_cases he : k < n ∧ k < 300
  · obtain ⟨he, he2⟩ := he
    obtain ⟨s, hs⟩ := s21_get (l := l) (k := k) (by rw [HN.out]; exact he)
    obtain ⟨core, act, p1, p2, fd, pg, sz, dt⟩ := s
    obtain ⟨b, o, rfl, hb, hc⟩ := (HL.out.below HW.out) (fun e => by rw [e] at hs; simp at hs)
    obtain ⟨g0, g1⟩ := hc k _ hs
    have f0 := g1 0 _ rfl
    rw [Nat.add_zero] at f0
    have f1 := g1 1 _ rfl
    have f2 := g1 2 _ rfl
    have f3 := g1 3 _ rfl
    have f4 := g1 4 _ rfl
    have f5 := g1 5 _ rfl
    have f6 := g1 6 _ rfl
    dsimp only at g0 f0 f1 f2 f3 f4 f5 f6
    clear hc hs g1
    have hT := fun W => t_long20 ⟨act, p1, p2, fd, pg, sz, dt⟩ W
    go_wp2_with (go_at_call 37; (with_reducible refine (hT _).mono ?_); rintro e w2 ⟨⟨bb, rfl⟩, hb2⟩
                 have H2 := zz (ptrans HW.out hb2)
                 have q1 := (World.cell?_of_block (a := ⟨b, o + k * 10 + 1 + 1, none⟩) (hb2.block b hb)).trans f1
                 have q2 := (World.cell?_of_block (a := ⟨b, o + k * 10 + 1 + 2, none⟩) (hb2.block b hb)).trans f2
                 have q6 := (World.cell?_of_block (a := ⟨b, o + k * 10 + 1 + 6, none⟩) (hb2.block b hb)).trans f6
                 have hbl2 := Nat.lt_of_lt_of_le hb hb2.size
                 clear hb2
                 cases bb)
    · have HBL := zz (show b < w2.heap.size from hbl2)
      refine wp_region_st (fun _ W => Below w2.heap.size w2 W) (fun W W2 => Below W.heap.size W W2) (fun _ _ => True) [] (phi [isV (.int .i64 x), isV (.slice (some ⟨b, o, none⟩) n c), isV (.int .i64 (k : Int)), isV (.pointer (some ⟨b, o + k * 10, none⟩)), isV (.pointer (some ⟨b, o + k * 10 + 1, none⟩)), isV (.pointer (some ⟨b, o + k * 10 + 1 + 1, none⟩)), isV (.string p1), isV (.int .i64 (p1.size : Int)), isI, isV (.slice (some ⟨b, o, none⟩) n c), isV (.int .i64 (k : Int)), isV (.pointer (some ⟨b, o + k * 10, none⟩)), isV (.pointer (some ⟨b, o + k * 10 + 1, none⟩)), isV (.pointer (some ⟨b, o + k * 10 + 1 + 2, none⟩)), isV (.string p2), isV (.int .i64 (p2.size : Int)), isI, isV (.slice (some ⟨b, o, none⟩) n c), isV (.int .i64 (k : Int)), isV (.pointer (some ⟨b, o + k * 10, none⟩)), isV (.pointer (some ⟨b, o + k * 10 + 1, none⟩)), isV (.pointer (some ⟨b, o + k * 10 + 1 + 6, none⟩)), isV (.string dt), isV (.int .i64 (dt.size : Int)), isI, isI]) (by kernel_rfl) (by kernel_rfl) (by kernel_rfl) (by kernel_rfl) (by kernel_rfl) (below_drew _) (fun _ _ _ h hb => ptrans h hb) (fun _ _ _ => trivial) ?_ ?_ ?_
      · refine stays_phiR ?_
        simp only [List.forall_mem_cons]
        exact ⟨kv, kv, kv, kv, kv, kv, kv, kv, fun _ _ _ hh _ => hh, kv, kv, kv, kv, kv, kv, kv, fun _ _ _ hh _ => hh, kv, kv, kv, kv, kv, kv, kv, fun _ _ _ hh _ => hh, fun _ _ _ hh _ => hh, fun _ h => absurd h (by simp)⟩
      · refine ⟨?_, ?_, ?_, ?_, ?_, ?_, ?_, ?_, ?_, ?_, ?_, ?_, ?_, ?_, ?_, ?_, ?_, ?_, ?_, ?_, ?_, ?_, ?_, ?_, ?_, ?_, trivial⟩
        · refine opS_mk rfl rfl fun aa W2 nJ hJ hp hq K hK => ?_
          have e3 : aa.tmps[3]?.getD undef = .int .i64 x := hp 3 (by kernel_rfl)
          clear hp hq
          go_simp
          exact hK _ _ (Below.refl _ _) rfl
        · refine opS_mk rfl rfl fun aa W2 nJ hJ hp hq K hK => ?_
          have e0 : aa.tmps[0]?.getD undef = .slice (some ⟨b, o, none⟩) n c := hp 0 (by kernel_rfl)
          clear hp hq
          go_simp
          exact hK _ _ (Below.refl _ _) rfl
        · refine opS_mk rfl rfl fun aa W2 nJ hJ hp hq K hK => ?_
          have e4 : aa.tmps[4]?.getD undef = .int .i64 (k : Int) := hp 4 (by kernel_rfl)
          clear hp hq
          go_simp
          exact hK _ _ (Below.refl _ _) rfl
        · refine opS_mk rfl rfl fun aa W2 nJ hJ hp hq K hK => ?_
          have e22 : aa.tmps[22]?.getD undef = .slice (some ⟨b, o, none⟩) n c := hq 1 _ (by kernel_rfl) rfl
          have e23 : aa.tmps[23]?.getD undef = .int .i64 (k : Int) := hq 2 _ (by kernel_rfl) rfl
          clear hp hq
          go_simp
          exact hK _ _ (Below.refl _ _) rfl
        · refine opS_mk rfl rfl fun aa W2 nJ hJ hp hq K hK => ?_
          have e24 : aa.tmps[24]?.getD undef = .pointer (some ⟨b, o + k * 10, none⟩) := hq 3 _ (by kernel_rfl) rfl
          clear hp hq
          go_simp
          exact hK _ _ (Below.refl _ _) rfl
        · refine opS_mk rfl rfl fun aa W2 nJ hJ hp hq K hK => ?_
          have e25 : aa.tmps[25]?.getD undef = .pointer (some ⟨b, o + k * 10 + 1, none⟩) := hq 4 _ (by kernel_rfl) rfl
          clear hp hq
          go_simp
          exact hK _ _ (Below.refl _ _) rfl
        · refine opS_mk rfl rfl fun aa W2 nJ hJ hp hq K hK => ?_
          have e26 : aa.tmps[26]?.getD undef = .pointer (some ⟨b, o + k * 10 + 1 + 1, none⟩) := hq 5 _ (by kernel_rfl) rfl
          have hB : Below w2.heap.size w2 W2 := hJ
          have cc := (World.cell?_of_block (a := ⟨b, o + k * 10 + 1 + 1, none⟩) (hB.block b HBL.out)).trans q1
          clear hp hq
          go_simp
          exact hK _ _ (Below.refl _ _) rfl
        · refine opS_mk rfl rfl fun aa W2 nJ hJ hp hq K hK => ?_
          have e27 : aa.tmps[27]?.getD undef = .string p1 := hq 6 _ (by kernel_rfl) rfl
          clear hp hq
          go_simp
          exact hK _ _ (Below.refl _ _) rfl
        · refine opS_mk rfl rfl fun aa W2 nJ hJ hp hq K hK => ?_
          have e21 : aa.tmps[21]?.getD undef = .int .i64 x := hq 0 _ (by kernel_rfl) rfl
          have e28 : aa.tmps[28]?.getD undef = .int .i64 (p1.size : Int) := hq 7 _ (by kernel_rfl) rfl
          clear hp hq
          go_simp
          exact hK _ _ (Below.refl _ _) ⟨_, rfl⟩
        · refine opS_mk rfl rfl fun aa W2 nJ hJ hp hq K hK => ?_
          have e0 : aa.tmps[0]?.getD undef = .slice (some ⟨b, o, none⟩) n c := hp 0 (by kernel_rfl)
          clear hp hq
          go_simp
          exact hK _ _ (Below.refl _ _) rfl
        · refine opS_mk rfl rfl fun aa W2 nJ hJ hp hq K hK => ?_
          have e4 : aa.tmps[4]?.getD undef = .int .i64 (k : Int) := hp 4 (by kernel_rfl)
          clear hp hq
          go_simp
          exact hK _ _ (Below.refl _ _) rfl
        · refine opS_mk rfl rfl fun aa W2 nJ hJ hp hq K hK => ?_
          have e30 : aa.tmps[30]?.getD undef = .slice (some ⟨b, o, none⟩) n c := hq 9 _ (by kernel_rfl) rfl
          have e31 : aa.tmps[31]?.getD undef = .int .i64 (k : Int) := hq 10 _ (by kernel_rfl) rfl
          clear hp hq
          go_simp
          exact hK _ _ (Below.refl _ _) rfl
        · refine opS_mk rfl rfl fun aa W2 nJ hJ hp hq K hK => ?_
          have e32 : aa.tmps[32]?.getD undef = .pointer (some ⟨b, o + k * 10, none⟩) := hq 11 _ (by kernel_rfl) rfl
          clear hp hq
          go_simp
          exact hK _ _ (Below.refl _ _) rfl
        · refine opS_mk rfl rfl fun aa W2 nJ hJ hp hq K hK => ?_
          have e33 : aa.tmps[33]?.getD undef = .pointer (some ⟨b, o + k * 10 + 1, none⟩) := hq 12 _ (by kernel_rfl) rfl
          clear hp hq
          go_simp
          exact hK _ _ (Below.refl _ _) rfl
        · refine opS_mk rfl rfl fun aa W2 nJ hJ hp hq K hK => ?_
          have e34 : aa.tmps[34]?.getD undef = .pointer (some ⟨b, o + k * 10 + 1 + 2, none⟩) := hq 13 _ (by kernel_rfl) rfl
          have hB : Below w2.heap.size w2 W2 := hJ
          have cc := (World.cell?_of_block (a := ⟨b, o + k * 10 + 1 + 2, none⟩) (hB.block b HBL.out)).trans q2
          clear hp hq
          go_simp
          exact hK _ _ (Below.refl _ _) rfl
        · refine opS_mk rfl rfl fun aa W2 nJ hJ hp hq K hK => ?_
          have e35 : aa.tmps[35]?.getD undef = .string p2 := hq 14 _ (by kernel_rfl) rfl
          clear hp hq
          go_simp
          exact hK _ _ (Below.refl _ _) rfl
        · refine opS_mk rfl rfl fun aa W2 nJ hJ hp hq K hK => ?_
          obtain ⟨y29, e29⟩ : isI (aa.tmps[29]?.getD undef) W2 := hq 8 _ (by kernel_rfl) rfl
          have e36 : aa.tmps[36]?.getD undef = .int .i64 (p2.size : Int) := hq 15 _ (by kernel_rfl) rfl
          clear hp hq
          go_simp
          exact hK _ _ (Below.refl _ _) ⟨_, rfl⟩
        · refine opS_mk rfl rfl fun aa W2 nJ hJ hp hq K hK => ?_
          have e0 : aa.tmps[0]?.getD undef = .slice (some ⟨b, o, none⟩) n c := hp 0 (by kernel_rfl)
          clear hp hq
          go_simp
          exact hK _ _ (Below.refl _ _) rfl
        · refine opS_mk rfl rfl fun aa W2 nJ hJ hp hq K hK => ?_
          have e4 : aa.tmps[4]?.getD undef = .int .i64 (k : Int) := hp 4 (by kernel_rfl)
          clear hp hq
          go_simp
          exact hK _ _ (Below.refl _ _) rfl
        · refine opS_mk rfl rfl fun aa W2 nJ hJ hp hq K hK => ?_
          have e38 : aa.tmps[38]?.getD undef = .slice (some ⟨b, o, none⟩) n c := hq 17 _ (by kernel_rfl) rfl
          have e39 : aa.tmps[39]?.getD undef = .int .i64 (k : Int) := hq 18 _ (by kernel_rfl) rfl
          clear hp hq
          go_simp
          exact hK _ _ (Below.refl _ _) rfl
        · refine opS_mk rfl rfl fun aa W2 nJ hJ hp hq K hK => ?_
          have e40 : aa.tmps[40]?.getD undef = .pointer (some ⟨b, o + k * 10, none⟩) := hq 19 _ (by kernel_rfl) rfl
          clear hp hq
          go_simp
          exact hK _ _ (Below.refl _ _) rfl
        · refine opS_mk rfl rfl fun aa W2 nJ hJ hp hq K hK => ?_
          have e41 : aa.tmps[41]?.getD undef = .pointer (some ⟨b, o + k * 10 + 1, none⟩) := hq 20 _ (by kernel_rfl) rfl
          clear hp hq
          go_simp
          exact hK _ _ (Below.refl _ _) rfl
        · refine opS_mk rfl rfl fun aa W2 nJ hJ hp hq K hK => ?_
          have e42 : aa.tmps[42]?.getD undef = .pointer (some ⟨b, o + k * 10 + 1 + 6, none⟩) := hq 21 _ (by kernel_rfl) rfl
          have hB : Below w2.heap.size w2 W2 := hJ
          have cc := (World.cell?_of_block (a := ⟨b, o + k * 10 + 1 + 6, none⟩) (hB.block b HBL.out)).trans q6
          clear hp hq
          go_simp
          exact hK _ _ (Below.refl _ _) rfl
        · refine opS_mk rfl rfl fun aa W2 nJ hJ hp hq K hK => ?_
          have e43 : aa.tmps[43]?.getD undef = .string dt := hq 22 _ (by kernel_rfl) rfl
          clear hp hq
          go_simp
          exact hK _ _ (Below.refl _ _) rfl
        · refine opS_mk rfl rfl fun aa W2 nJ hJ hp hq K hK => ?_
          obtain ⟨y37, e37⟩ : isI (aa.tmps[37]?.getD undef) W2 := hq 16 _ (by kernel_rfl) rfl
          have e44 : aa.tmps[44]?.getD undef = .int .i64 (dt.size : Int) := hq 23 _ (by kernel_rfl) rfl
          clear hp hq
          go_simp
          exact hK _ _ (Below.refl _ _) ⟨_, rfl⟩
        · refine opS_mk rfl rfl fun aa W2 nJ hJ hp hq K hK => ?_
          obtain ⟨y45, e45⟩ : isI (aa.tmps[45]?.getD undef) W2 := hq 24 _ (by kernel_rfl) rfl
          clear hp hq
          go_simp
          exact hK _ _ (Below.refl _ _) ⟨_, rfl⟩
      · intro vs W9 hJ9 hv9 _
        obtain ⟨z, v25⟩ : isI (vs 25) W9 := hv9 25 _ rfl rfl
        have H3 := zz (ptrans H2.out hJ9)
        clear hJ9 hv9
        simp only [putAll, Act.put, List.setIfInBounds_toArray, List.set_cons_succ, List.set_cons_zero, Nat.zero_add, Nat.reduceAdd, v25]
        go_wp2
        go_roundw
        case rel => exact ⟨k + 1, z, rfl, by go_num, he, he2, H3⟩
        case measure => simp only [intOf]; omega
    · go_ret
      exact LongM.of (fun h => by cases h) H2.out
  · by_cases hin : k < n
    · have h300 : ¬ k < 300 := fun e => he ⟨hin, e⟩
      have h120 : (120 : Int) < n := by omega
      go_wp2
      go_ret
      exact LongM.of (fun h => by first | cases h | (simp at h; omega)) HW.out
    · by_cases h120 : (120 : Int) < n
      · go_wp2
        go_ret
        exact LongM.of (fun h => by first | cases h | (simp at h; omega)) HW.out
      · go_wp2
        go_ret
        exact LongM.of (fun _ => by omega) HW.out
end

section
open Go.RowKit Go.Maps
theorem low_bit (x : Int) : bits BinOp.and IntKind.i64 x 1 = 0 ∨ bits BinOp.and IntKind.i64 x 1 = 1 := by
 have h : bits BinOp.and IntKind.i64 x 1 = IntKind.i64.wrap (((BitVec.ofInt 64 x &&& BitVec.ofInt 64 1).toNat : Nat) : Int) := rfl
 rw [h, BitVec.toNat_and, show (BitVec.ofInt 64 1).toNat = 1 from by decide, Nat.and_one_is_mod]
 rcases Nat.mod_two_eq_zero_or_one (BitVec.ofInt 64 x).toNat with e | e <;> rw [e] <;> decide
section
variable {m : MD} {x : Cx} {core : Int}
theorem do_n (h : m.Ok) (hx : x.Fits) : (doM m core x).2.n = m.n := (deed_do h core x hx.size).2.1
theorem do_of (h : m.Ok) (hx : x.Fits) (c fd : Int) (hk : c ≠ core ∨ (x.act ≠ 1 ∧ x.act ≠ 2 ∧ x.act ≠ 13)) : ofT (doM m core x).2.T (doM m core x).2.n c fd = ofT m.T m.n c fd := by
 rw [do_n h hx]
 unfold ofT
 by_cases hc : 0 ≤ c ∧ c < m.n ∧ 0 ≤ fd ∧ fd ≤ 15
 · rw [if_pos hc, if_pos hc]
   refine do_T core x _ ?_
   rcases hk with h1 | h1
   · left
     omega
   · exact .inr h1
 · rw [if_neg hc, if_neg hc]
end
def ApAt (w : World) (P Pt Pf : Nat) (k : Nat) (W : World) : Prop := ∃ m, MOwn w.heap.size w P Pt Pf (1 + 2 * k) m [] W ∧ m.n = 2
def ApTwo (w : World) (P Pt Pf P2 Pt2 Pf2 N : Nat) (m m2 : MD) (W : World) : Prop := MPair w.heap.size w P Pt Pf P2 Pt2 Pf2 N m m2 [] W
theorem ApTwo.mem {w W : World} {P Pt Pf P2 Pt2 Pf2 N : Nat} {m m2 : MD} (h : ApTwo w P Pt Pf P2 Pt2 Pf2 N m m2 W) : Below w.heap.size w W := MPair.mem h
theorem two_open1 {w W : World} {P Pt Pf P2 Pt2 Pf2 N : Nat} {m m2 : MD} (h : ApTwo w P Pt Pf P2 Pt2 Pf2 N m m2 W) (hn : m.n ≤ 8) (c fd : Int) :
  Calls Tryz.prog 13 #[.pointer (some ⟨P, 0, none⟩), .int .i64 c, .int .i64 fd] W fun e w' => e = .returned (.tuple #[.int .u32 (ofT m.T m.n c fd), .bool (ofT m.T m.n c fd != 0)]) ∧ W = w' := by
 obtain ⟨y, F, hM⟩ := (MPair.fst h).mod
 exact t_openFd W hM hn c fd
theorem two_open2 {w W : World} {P Pt Pf P2 Pt2 Pf2 N : Nat} {m m2 : MD} (h : ApTwo w P Pt Pf P2 Pt2 Pf2 N m m2 W) (hn : m2.n ≤ 8) (c fd : Int) :
  Calls Tryz.prog 13 #[.pointer (some ⟨P2, 0, none⟩), .int .i64 c, .int .i64 fd] W fun e w' => e = .returned (.tuple #[.int .u32 (ofT m2.T m2.n c fd), .bool (ofT m2.T m2.n c fd != 0)]) ∧ W = w' := by
 obtain ⟨y, F, hM⟩ := (MPair.snd h).mod
 exact t_openFd W hM hn c fd
theorem ApAt.mem {w W : World} {P Pt Pf k : Nat} (h : ApAt w P Pt Pf k W) : Below w.heap.size w W := by
 obtain ⟨m, hm, _⟩ := h
 exact hm.mem
theorem S21At.get {w : World} {A : Option Addr} {l : List (Int × Cx)} {k : Nat} {core act fd pg sz : Int} {p1 p2 dt : ByteArray} (h : S21At w A l) (hs : l[k]? = some (core, ⟨act, p1, p2, fd, pg, sz, dt⟩)) : ∃ b o, A = some ⟨b, o, none⟩ ∧ ∀ W, Below w.heap.size w W → b < W.heap.size ∧ W.cell? ⟨b, o + k * 10, none⟩ = some (.int .i64 core) ∧ W.cell? ⟨b, o + k * 10 + 1, none⟩ = some (.int .u8 act) ∧ W.cell? ⟨b, o + k * 10 + 1 + 1, none⟩ = some (.string p1) ∧ W.cell? ⟨b, o + k * 10 + 1 + 2, none⟩ = some (.string p2) ∧ W.cell? ⟨b, o + k * 10 + 1 + 3, none⟩ = some (.int .i64 fd) ∧ W.cell? ⟨b, o + k * 10 + 1 + 4, none⟩ = some (.int .i64 pg) ∧ W.cell? ⟨b, o + k * 10 + 1 + 5, none⟩ = some (.int .u32 sz) ∧ W.cell? ⟨b, o + k * 10 + 1 + 6, none⟩ = some (.string dt) := by
 obtain ⟨b, o, rfl, h1, h2⟩ := h (fun e => by rw [e] at hs; simp at hs)
 refine ⟨b, o, rfl, fun W hb => ?_⟩
 have hc : ∀ q, W.cell? ⟨b, q, none⟩ = w.cell? ⟨b, q, none⟩ := fun q => World.cell?_of_block (a := ⟨b, q, none⟩) (hb.block b h1)
 obtain ⟨a1, a2⟩ := h2 k _ hs
 exact ⟨Nat.lt_of_lt_of_le h1 hb.size, (hc _).trans a1, (hc _).trans (a2 0 _ rfl), (hc _).trans (a2 1 _ rfl), (hc _).trans (a2 2 _ rfl), (hc _).trans (a2 3 _ rfl), (hc _).trans (a2 4 _ rfl), (hc _).trans (a2 5 _ rfl), (hc _).trans (a2 6 _ rfl)⟩
set_option maxRecDepth 100000 in
set_option maxHeartbeats 8000000 in
theorem t_modelApart (A : Option Addr) (n c : Nat) (l : List (Int × Cx)) (w : World) (hl : S21At w A l) (hn : l.length = n) (hn2 : n ≤ maxLen) (hf : ∀ s ∈ l, Cx.Fits s.2) (hk : KindsAt w) :
  Calls Tryz.prog 3 #[.slice A n c] w fun e w' => e = .returned (.bool true) ∧ Below w.heap.size w w' := by
 have HL := zz hl
 have HN := zz hn
 have HF := zz hf
 have HKW := zz hk
 have HLG := zz (t_long21 A n c l w hl hn hn2)
 have HB0 := zz hk.pos
 clear hl hn hn2 hf hk
 go_enter Tryz.func3, Tryz.ntmps3
 go_wp2_with (first
  | (go_at_call 8; (with_reducible refine HLG.out.mono ?_); rintro e w1 hlg
     obtain ⟨bb, rfl, hb1, hB1⟩ := hlg.get
     have H1 := zz hB1
     have HB1 := zz hb1
     clear hlg hb1 hB1
     cases bb)
  | (go_at_call 9; (with_reducible refine (t_alive21 _ (HKW.out.below H1.out HKW.out.pos)).mono ?_); rintro e w9 ⟨rfl, hb9⟩)
  | (go_at_call 10; (with_reducible refine (t_newM 12 2 _ (by decide) (by decide) (by decide) (by decide)).mono ?_); rintro e w2 ⟨P, Pt, Pf, rfl, y, F, hM, hO, hF2, hs, hB⟩
     have HA0 : Hid (ApAt w P Pt Pf 0 w2) := ⟨_, ⟨y, F, hM, hO, fun b h => Nat.le_trans H1.out.size (hF2 b h), Nat.le_trans H1.out.size hs, ptrans H1.out hB, KeptL.nil⟩, rfl⟩
     clear hM hO hF2 hs hB))
 · go_loopw [5] (fun v wr => ∃ i : Nat, v = .int .i64 (i : Int) ∧ i ≤ n ∧ Hid (ApAt w P Pt Pf i wr)) (fun v _ => n - (intOf v).toNat)
   case atStart => exact ⟨0, rfl, Nat.zero_le _, HA0.out⟩
   case round =>
    clear HA0
    obtain ⟨k, rfl, hk, HA⟩ := hrel
    by_cases he : k = n
    · subst he
      go_wp2_with (go_at_call 9; (with_reducible refine (t_alive21 _ (HKW.out.below HA.out.mem HKW.out.pos)).mono ?_); rintro e w9 ⟨rfl, hb9⟩)
      go_ret
      exact ⟨rfl, ptrans HA.out.mem hb9⟩
    · have hkn : k < n := by omega
      have h120 : n ≤ 120 := HB1.out trivial
      obtain ⟨s, hs⟩ := s21_get (l := l) (k := k) (by rw [HN.out]; exact hkn)
      have HX := zz (HF.out s (List.mem_of_getElem? hs))
      obtain ⟨core, act, p1, p2, fd, pg, sz, dt⟩ := s
      obtain ⟨x, hx⟩ : ∃ x : Cx, x = ⟨act, p1, p2, fd, pg, sz, dt⟩ := ⟨_, rfl⟩
      have HXF : Hid x.Fits := by rw [hx]; exact HX
      have HV : Hid (callV x = .agg #[.int .u8 act, .string p1, .string p2, .int .i64 fd, .int .i64 pg, .int .u32 sz, .string dt]) := by rw [hx]; exact rfl
      have HXA : Hid (x.act = act) := by rw [hx]; exact rfl
      obtain ⟨m, hm, hm2⟩ := HA.out
      obtain ⟨b, o, rfl, hc⟩ := HL.out.get hs
      obtain ⟨hb, g0, f0, f1, f2, f3, f4, f5, f6⟩ := hc wr hm.mem
      obtain ⟨c1, hcb⟩ : ∃ c1, bits BinOp.and IntKind.i64 core 1 = c1 := ⟨_, rfl⟩
      have hcl : 0 ≤ c1 ∧ c1 ≤ 1 := by rcases low_bit core with e | e <;> omega
      obtain ⟨hcl1, hcl2⟩ := hcl
      have HCB := zz hcb
      have HC := zz hc
      have HCP := zz (show Calls Tryz.prog 11 #[.pointer (some ⟨P, 0, none⟩)] wr fun e w' => ∃ P2 Pt2 Pf2, e = .returned (.pointer (some ⟨P2, 0, none⟩)) ∧ ApTwo w P Pt Pf P2 Pt2 Pf2 (1 + 2 * k) m m w' from own_copyM hm (by omega))
      have HDO := zz (show ∀ W P2 Pt2 Pf2, ApTwo w P Pt Pf P2 Pt2 Pf2 (1 + 2 * k) m m W → Calls Tryz.prog 12 #[.pointer (some ⟨P, 0, none⟩), .int .i64 c1, .agg #[.int .u8 act, .string p1, .string p2, .int .i64 fd, .int .i64 pg, .int .u32 sz, .string dt]] W fun e w' => (∃ v, e = .returned v) ∧ ApTwo w P Pt Pf P2 Pt2 Pf2 (1 + 2 * k + 2) (doM m c1 x).2 m w' from fun W P2 Pt2 Pf2 h => HV.out ▸ (pair_do x HXF.out c1 h HKW.out HB0.out (by omega)).mono fun e w' ⟨⟨v, h1, _⟩, h2⟩ => ⟨⟨v, h1⟩, h2⟩)
      have HMO := zz hm.ok
      have HM2 := zz hm2
      clear hc hs hm hm2 HA HX hcb hx HV
      go_wp2_with (first
       | (go_at_call 11; (with_reducible refine HCP.out.mono ?_); rintro e w3 ⟨P2, Pt2, Pf2, rfl, hT⟩
          obtain ⟨hb, g0, f0, f1, f2, f3, f4, f5, f6⟩ := HC.out w3 hT.mem
          have HT3 := zz hT
          try rw [HCB.out]
          clear hT)
       | (go_at_call 12; (with_reducible refine (HDO.out _ _ _ _ HT3.out).mono ?_); rintro e w4 ⟨⟨vr, rfl⟩, hT⟩
          obtain ⟨hb, g0, f0, f1, f2, f3, f4, f5, f6⟩ := HC.out w4 hT.mem
          have HT4 := zz hT
          clear hT))
      clear f0 f1 f2 f3 f4 f5 f6 g0 hb
      obtain ⟨m', hm'⟩ : ∃ m', m' = (doM m c1 x).2 := ⟨_, rfl⟩
      rw [← hm'] at HT4
      have hna : ∀ fd, ofT m'.T m'.n (1 - c1) fd = ofT m.T m.n (1 - c1) fd := fun fd => by rw [hm']; exact do_of HMO.out HXF.out _ _ (.inl (by omega))
      have hnb : ∀ fd, ofT m'.T m'.n c1 fd = ofT m.T m.n c1 fd ∨ act = 1 ∨ act = 2 ∨ act = 13 := fun fd => by
       rw [hm', ← HXA.out]
       by_cases h1 : x.act = 1
       · exact .inr (.inl h1)
       · by_cases h2 : x.act = 2
         · exact .inr (.inr (.inl h2))
         · by_cases h3 : x.act = 13
           · exact .inr (.inr (.inr h3))
           · exact .inl (do_of HMO.out HXF.out _ _ (.inr ⟨h1, h2, h3⟩))
      have hn2 : m'.n = 2 := by rw [hm', do_n HMO.out HXF.out]; exact HM2.out
      have HNA := zz hna
      have HNB := zz hnb
      have HN2 := zz hn2
      clear hm' hna hnb hn2 HCP HDO HT3 HXF HXA
      go_loopw [8] (fun v W => ∃ q : Nat, v = .int .i64 (q : Int) ∧ q ≤ 16 ∧ Hid (ApTwo w P Pt Pf P2 Pt2 Pf2 (1 + 2 * k + 2) m' m W)) (fun v _ => 16 - (intOf v).toNat)
      case atStart => exact ⟨0, rfl, by omega, HT4⟩
      case round =>
       clear HT4
       obtain ⟨q, rfl, hq, HT⟩ := hrel
       by_cases hq2 : q = 16
       · subst hq2
         go_wp2
         refine ⟨⟨k + 1, by go_num, hkn, ?_⟩, ?_⟩
         · refine ⟨m', ?_, HN2.out⟩
           rw [show 1 + 2 * (k + 1) = 1 + 2 * k + 2 by omega]
           exact MPair.fst HT.out
         · simp [intOf]; omega
       · have hq3 : q < 16 := by omega
         obtain ⟨zo, hzo⟩ : ∃ zo, zo = ofT m.T m.n (1 - c1) q := ⟨_, rfl⟩
         obtain ⟨z1, hz1⟩ : ∃ z1, z1 = ofT m'.T m'.n c1 q := ⟨_, rfl⟩
         obtain ⟨z2, hz2⟩ : ∃ z2, z2 = ofT m.T m.n c1 q := ⟨_, rfl⟩
         have hz : z1 = z2 ∨ act = 1 ∨ act = 2 ∨ act = 13 := by rw [hz1, hz2]; exact HNB.out q
         have HO1 := zz (two_open1 HT.out (by rw [HN2.out]; decide) (1 - c1) q)
         rw [HNA.out q, ← hzo] at HO1
         have HO2 := zz (two_open2 HT.out (by rw [HM2.out]; decide) (1 - c1) q)
         rw [← hzo] at HO2
         have HO3 := zz (two_open1 HT.out (by rw [HN2.out]; decide) c1 q)
         rw [← hz1] at HO3
         have HO4 := zz (two_open2 HT.out (by rw [HM2.out]; decide) c1 q)
         rw [← hz2] at HO4
         obtain ⟨hb, g0, f0, -⟩ := HC.out wr HT.out.mem
         have HZ := zz hz
         clear hzo hz1 hz2 hz HNA HNB HN2 HM2
         by_cases hzz : z1 = z2
         · subst hzz
           go_wp2_with (first
            | (go_at_call 13; (with_reducible refine HO1.out.mono ?_); rintro e w5 ⟨rfl, rfl⟩)
            | (go_at_call 13; (with_reducible refine HO2.out.mono ?_); rintro e w5 ⟨rfl, rfl⟩)
            | (go_at_call 13; (with_reducible refine HO3.out.mono ?_); rintro e w5 ⟨rfl, rfl⟩)
            | (go_at_call 13; (with_reducible refine HO4.out.mono ?_); rintro e w5 ⟨rfl, rfl⟩))
           refine ⟨⟨q + 1, by go_num, by omega, HT⟩, by simp [intOf]; omega⟩
         · have hz3 : act = 1 ∨ act = 2 ∨ act = 13 := by
            rcases HZ.out with e | e
            · exact absurd e hzz
            · exact e
           clear HZ
           rcases hz3 with rfl | rfl | rfl
           · go_wp2_with (first
              | (go_at_call 13; (with_reducible refine HO1.out.mono ?_); rintro e w5 ⟨rfl, rfl⟩)
              | (go_at_call 13; (with_reducible refine HO2.out.mono ?_); rintro e w5 ⟨rfl, rfl⟩)
              | (go_at_call 13; (with_reducible refine HO3.out.mono ?_); rintro e w5 ⟨rfl, rfl⟩)
              | (go_at_call 13; (with_reducible refine HO4.out.mono ?_); rintro e w5 ⟨rfl, rfl⟩))
             refine ⟨⟨q + 1, by go_num, by omega, HT⟩, by simp [intOf]; omega⟩
           · go_wp2_with (first
              | (go_at_call 13; (with_reducible refine HO1.out.mono ?_); rintro e w5 ⟨rfl, rfl⟩)
              | (go_at_call 13; (with_reducible refine HO2.out.mono ?_); rintro e w5 ⟨rfl, rfl⟩)
              | (go_at_call 13; (with_reducible refine HO3.out.mono ?_); rintro e w5 ⟨rfl, rfl⟩)
              | (go_at_call 13; (with_reducible refine HO4.out.mono ?_); rintro e w5 ⟨rfl, rfl⟩))
             refine ⟨⟨q + 1, by go_num, by omega, HT⟩, by simp [intOf]; omega⟩
           · go_wp2_with (first
              | (go_at_call 13; (with_reducible refine HO1.out.mono ?_); rintro e w5 ⟨rfl, rfl⟩)
              | (go_at_call 13; (with_reducible refine HO2.out.mono ?_); rintro e w5 ⟨rfl, rfl⟩)
              | (go_at_call 13; (with_reducible refine HO3.out.mono ?_); rintro e w5 ⟨rfl, rfl⟩)
              | (go_at_call 13; (with_reducible refine HO4.out.mono ?_); rintro e w5 ⟨rfl, rfl⟩))
             refine ⟨⟨q + 1, by go_num, by omega, HT⟩, by simp [intOf]; omega⟩
 · go_ret
   exact ⟨rfl, ptrans H1.out hb9⟩
end

section
open Go.ChangeShapes Go.WideShapes Go.ChangeAt Go.RowKit
abbrev laidK : List (String × DataW Unit) := [("lunette/call.kinds", Rows.laid_lunette_call_kinds)]
theorem cells_kind : Tryz.prog.cellsOf 190 = 2 := by kernel_rfl
theorem cells7_u8 : Tryz.prog.cellsOf 5 = 1 := by kernel_rfl
theorem cells7_u32 : Tryz.prog.cellsOf 29 = 1 := by kernel_rfl
theorem cells7_int : Tryz.prog.cellsOf 3 = 1 := by kernel_rfl
theorem cells7_s : Tryz.prog.cellsOf 9 = 1 := by kernel_rfl
theorem cells_call : Tryz.prog.cellsOf 31 = 7 := by kernel_rfl
theorem cells_step21 : Tryz.prog.cellsOf 33 = 10 := by kernel_rfl
theorem at_cell7 {H : Type} {enc : TypeId × Value → H} {w : World} {base n q : Nat} {spare : Nat → Bool} {held : Bool} {T : TypeId} {xs : List (DataW H × List MemPlace)} {cs : List Value} (hc : Tryz.prog.cellsOf T = 1)
  (h : DataW.trod enc Tryz.prog w base spare held n T ((cs.drop q).take (Tryz.prog.cellsOf T)) = xs[q]?) (c : Value) (hq : cs[q]? = some c) (hx : q < xs.length) : ∃ y, DataW.trod enc Tryz.prog w base spare held n T [c] = some y := by
 obtain ⟨h1, rfl⟩ := List.getElem?_eq_some_iff.1 hq
 rw [hc, List.drop_eq_getElem_cons h1, List.take_succ_cons, List.take_zero, List.getElem?_eq_getElem hx] at h
 exact ⟨_, h⟩
theorem at_cell_in {H : Type} {enc : TypeId × Value → H} {w : World} {base n q p : Nat} {spare : Nat → Bool} {held : Bool} {T : TypeId} {xs : List (DataW H × List MemPlace)} {cs : List Value} (hc : Tryz.prog.cellsOf T = 1)
  (h : DataW.trod enc Tryz.prog w base spare held n T ((cs.drop p).take (Tryz.prog.cellsOf T)) = xs[q]?) (c : Value) (hq : cs[p]? = some c) (hx : q < xs.length) : DataW.trod enc Tryz.prog w base spare held n T [c] = some xs[q] := by
 obtain ⟨h1, rfl⟩ := List.getElem?_eq_some_iff.1 hq
 rw [hc, List.drop_eq_getElem_cons h1, List.take_succ_cons, List.take_zero, List.getElem?_eq_getElem hx] at h
 exact h
def kindData : List (DataW Unit) := match (Rows.laid_lunette_call_kinds : DataW Unit) with | .agg l => l | _ => []
theorem kind_at (k : Nat) (hk : k < 16) : ∃ s, kindData[k]? = some (.agg [s, .lit (.int .i64 (hasN k))]) := by
 match k, hk with
 | 0, _ => exact ⟨_, rfl⟩
 | 1, _ => exact ⟨_, rfl⟩
 | 2, _ => exact ⟨_, rfl⟩
 | 3, _ => exact ⟨_, rfl⟩
 | 4, _ => exact ⟨_, rfl⟩
 | 5, _ => exact ⟨_, rfl⟩
 | 6, _ => exact ⟨_, rfl⟩
 | 7, _ => exact ⟨_, rfl⟩
 | 8, _ => exact ⟨_, rfl⟩
 | 9, _ => exact ⟨_, rfl⟩
 | 10, _ => exact ⟨_, rfl⟩
 | 11, _ => exact ⟨_, rfl⟩
 | 12, _ => exact ⟨_, rfl⟩
 | 13, _ => exact ⟨_, rfl⟩
 | 14, _ => exact ⟨_, rfl⟩
 | 15, _ => exact ⟨_, rfl⟩
 | k + 16, h => omega
theorem kind_data : (Rows.laid_lunette_call_kinds : DataW Unit) = .agg kindData := rfl
set_option maxRecDepth 100000 in
theorem kinds_of_laid {W : World} (h : laidMetH Tryz.prog laidK W) : KindsAt W := by
 rw [Go.MakeChecks.laidMetH_plain _ _ _ (by kernel_rfl)] at h
 obtain ⟨ps, ⟨g, t, cs, fuel, p, q, hg, ht, hvar, hd, _, _⟩, _⟩ := h
 obtain rfl : g = 0 := (Option.some.inj ((show Tryz.prog.globalNamed "lunette/call.kinds" = some 0 by kernel_rfl).symm.trans hg)).symm
 obtain rfl : t = 191 := (Option.some.inj ((show (Tryz.prog.globals[0]?).map (·.type) = some 191 by kernel_rfl).symm.trans ht)).symm
 obtain ⟨xs, m, _, hx, hl, hlen, hk⟩ := DataW.trod_array Tryz.underlying191 hd
 rw [cells_kind] at hk
 have hx1 : kindData = xs.map (·.1) := by
  have := congrArg Prod.fst hx
  rw [kind_data] at this
  injection this
 have hcell : ∀ off, W.cell? ⟨0, off, none⟩ = cs[off]? := fun off => by
  unfold World.var? at hvar
  rw [show Tryz.prog.globalNamed "lunette/call.kinds" = some 0 by kernel_rfl] at hvar
  simp only [Option.bind_some] at hvar
  split at hvar
  · rename_i cs' t' fr' hh
    simp only [Option.some.injEq] at hvar
    subst hvar
    simp [World.cell?, hh]
  · cases hvar
 intro k hk16
 obtain ⟨s, hs⟩ := kind_at k hk16
 rw [hx1, List.getElem?_map] at hs
 have hkl : k < xs.length := by rw [hlen]; exact hk16
 rw [List.getElem?_eq_getElem hkl] at hs
 simp only [Option.map_some, Option.some.injEq] at hs
 have hi := hk k hk16
 rw [List.getElem?_eq_getElem hkl] at hi
 obtain ⟨ys, m2, _, hy, hl2, hlen2, hk2⟩ := DataW.trod_struct Tryz.underlying190 hi
 rw [cells_kind] at hl2
 have hy1 : [s, .lit (.int .i64 (hasN k))] = ys.map (·.1) := by
  have := congrArg Prod.fst hy
  rw [hs] at this
  injection this
 have hl3 : ((cs.toList.drop (k * 2)).take 2)[1]? = cs[k * 2 + 1]? := by
  rw [List.getElem?_take_of_lt (by omega), List.getElem?_drop, Array.getElem?_toList]
 have h1 : 1 < ((cs.toList.drop (k * 2)).take 2).length := by rw [hl2]; omega
 rw [List.getElem?_eq_getElem h1] at hl3
 have hf := hk2 1 _ rfl
 have ht := at_cell_in cells7_int hf _ (List.getElem?_eq_getElem h1) (by rw [hlen2]; decide)
 obtain ⟨n, e1, e2, _⟩ := DataW.trod_int Tryz.underlying3 ht
 have e3 : (ys.map (·.1))[1]? = some (.lit (.int .i64 (hasN k))) := by rw [← hy1]; rfl
 rw [List.getElem?_map, List.getElem?_eq_getElem (by rw [hlen2]; decide), e2] at e3
 simp only [Option.map_some, Option.some.injEq, DataW.lit.injEq, Lit.int.injEq, true_and] at e3
 simp only [List.cons.injEq, and_true] at e1
 rw [hcell, ← hl3, e1, e3]
set_option maxRecDepth 100000 in
theorem call_trod {H : Type} {enc : TypeId × Value → H} {w : World} {base n : Nat} {spare : Nat → Bool} {held : Bool} {cs : List Value} {x : DataW H × List MemPlace} (hf : DataW.trod enc Tryz.prog w base spare held n 31 cs = some x) :
  ∃ r : Cx, cs = callCells r ∧ r.Fits := by
 obtain ⟨xs, m, _, _, hl, hlen, hk⟩ := DataW.trod_struct Tryz.underlying31 hf
 rw [cells_call] at hl
 match cs, hl with
 | [c0, c1, c2, c3, c4, c5, c6], _ =>
  obtain ⟨y0, t0⟩ := at_cell7 (cs := [c0, c1, c2, c3, c4, c5, c6]) cells7_u8 (hk 0 _ rfl) c0 rfl (by rw [hlen]; decide)
  obtain ⟨y1, t1⟩ := at_cell7 (cs := [c0, c1, c2, c3, c4, c5, c6]) cells7_s (hk 1 _ rfl) c1 rfl (by rw [hlen]; decide)
  obtain ⟨y2, t2⟩ := at_cell7 (cs := [c0, c1, c2, c3, c4, c5, c6]) cells7_s (hk 2 _ rfl) c2 rfl (by rw [hlen]; decide)
  obtain ⟨y3, t3⟩ := at_cell7 (cs := [c0, c1, c2, c3, c4, c5, c6]) cells7_int (hk 3 _ rfl) c3 rfl (by rw [hlen]; decide)
  obtain ⟨y4, t4⟩ := at_cell7 (cs := [c0, c1, c2, c3, c4, c5, c6]) cells7_int (hk 4 _ rfl) c4 rfl (by rw [hlen]; decide)
  obtain ⟨y5, t5⟩ := at_cell7 (cs := [c0, c1, c2, c3, c4, c5, c6]) cells7_u32 (hk 5 _ rfl) c5 rfl (by rw [hlen]; decide)
  obtain ⟨y6, t6⟩ := at_cell7 (cs := [c0, c1, c2, c3, c4, c5, c6]) cells7_s (hk 6 _ rfl) c6 rfl (by rw [hlen]; decide)
  obtain ⟨x0, e0, _, w0⟩ := DataW.trod_int Tryz.underlying5 t0
  obtain ⟨x1, e1, _, w1⟩ := DataW.trod_string Tryz.underlying9 t1
  obtain ⟨x2, e2, _, w2⟩ := DataW.trod_string Tryz.underlying9 t2
  obtain ⟨x3, e3, _, w3⟩ := DataW.trod_int Tryz.underlying3 t3
  obtain ⟨x4, e4, _, w4⟩ := DataW.trod_int Tryz.underlying3 t4
  obtain ⟨x5, e5, _, w5⟩ := DataW.trod_int Tryz.underlying29 t5
  obtain ⟨x6, e6, _, w6⟩ := DataW.trod_string Tryz.underlying9 t6
  simp only [List.cons.injEq, and_true] at e0 e1 e2 e3 e4 e5 e6
  subst e0; subst e1; subst e2; subst e3; subst e4; subst e5; subst e6
  have r0 : 0 ≤ x0 ∧ x0 ≤ 255 := by simpa [Lit.wf, IntKind.min, IntKind.max, IntKind.signed, IntKind.bits] using w0
  have r5 : 0 ≤ x5 ∧ x5 ≤ 4294967295 := by simpa [Lit.wf, IntKind.min, IntKind.max, IntKind.signed, IntKind.bits] using w5
  exact ⟨⟨x0, x1, x2, x3, x4, x5, x6⟩, rfl, ⟨⟨x0.toNat, by show x0 = _; omega, by omega⟩, w1, w2, w6, r5.1⟩⟩
set_option maxRecDepth 100000 in
theorem step21_trod {H : Type} {enc : TypeId × Value → H} {w : World} {base n : Nat} {spare : Nat → Bool} {held : Bool} {cs : List Value} {x : DataW H × List MemPlace} (hf : DataW.trod enc Tryz.prog w base spare held n 33 cs = some x) :
  ∃ (s : Int × Cx) (u v : Value), cs = .int .i64 s.1 :: (callCells s.2 ++ [u, v]) ∧ s.2.Fits := by
 obtain ⟨xs, m, _, _, hl, hlen, hk⟩ := DataW.trod_struct Tryz.underlying33 hf
 rw [cells_step21] at hl
 match cs, hl with
 | [a0, c0, c1, c2, c3, c4, c5, c6, a1, a2], _ =>
  obtain ⟨y0, t0⟩ := at_cell7 (cs := [a0, c0, c1, c2, c3, c4, c5, c6, a1, a2]) cells7_int (hk 0 _ rfl) a0 rfl (by rw [hlen]; decide)
  have h1 := hk 1 _ rfl
  have h1' : DataW.trod enc Tryz.prog w base spare held m 31 [c0, c1, c2, c3, c4, c5, c6] = xs[1]? := by
   rw [← h1]
   show _ = DataW.trod enc Tryz.prog w base spare held m 31 (([a0, c0, c1, c2, c3, c4, c5, c6, a1, a2].drop 1).take (Tryz.prog.cellsOf 31))
   rw [cells_call]
   rfl
  rw [List.getElem?_eq_getElem (by rw [hlen]; decide)] at h1'
  obtain ⟨r, hr, rok⟩ := call_trod h1'
  obtain ⟨x0, e0, _, w0⟩ := DataW.trod_int Tryz.underlying3 t0
  simp only [List.cons.injEq, and_true] at e0
  subst e0
  refine ⟨(x0, r), a1, a2, ?_, rok⟩
  show _ = Value.int .i64 x0 :: (callCells r ++ [a1, a2])
  rw [← hr]
  rfl
set_option maxRecDepth 100000 in
theorem steps21_of {H : Type} {enc : TypeId × Value → H} {W : World} {sp : Nat → Bool} {held : Bool} {v : Value} {d : DataW H} {p : List MemPlace} (hv : ∃ a len cap, v = .slice a len cap) (h : DataW.Trod enc Tryz.prog W 0 sp held 22 v d p) :
  ∃ (A : Option Addr) (n c : Nat) (l : List (Int × Cx)), v = .slice A n c ∧ n ≤ maxLen ∧ l.length = n ∧ S21At W A l ∧ ∀ s ∈ l, Cx.Fits s.2 := by
 obtain ⟨a0, len, cap, rfl⟩ := hv
 obtain ⟨fuel, hf⟩ := h
 rcases Go.Deep.open_slice Tryz.underlying22 hf with ⟨h0, _⟩ | ⟨a, len', cap', m, n, D, Pl, h0, _, hl, hm, hmm, _, hi⟩
 · simp [Value.cells] at h0
   obtain ⟨rfl, rfl, rfl⟩ := h0
   exact ⟨none, 0, 0, [], rfl, Nat.zero_le _, rfl, fun h => absurd rfl h, fun s hs => by simp at hs⟩
 · simp [Value.cells] at h0
   obtain ⟨rfl, rfl, rfl⟩ := h0
   have hall : ∀ i, i < len → ∃ s : Int × Cx, (W.cell? (a.add (i * 10)) = some (.int .i64 s.1) ∧ ∀ j v, (callCells s.2)[j]? = some v → W.cell? (a.add (i * 10 + (1 + j))) = some v) ∧ s.2.Fits := by
    intro i hlt
    obtain ⟨cs', hc, ht'⟩ := hi i (by rw [hmm]; split <;> omega)
    rw [cells_step21] at hc
    obtain ⟨s, u, v, hs, h1⟩ := step21_trod ht'
    obtain ⟨_, hlen, hat⟩ := World.cells?_some hc
    have hcell : ∀ j, j < 10 → W.cell? (a.add (i * 10 + j)) = cs'[j]? := fun j hj => by
     have := hat j hj
     rw [Go.Deep.add_add] at this
     exact this
    refine ⟨s, ⟨?_, fun j v hv => ?_⟩, h1⟩
    · have := hcell 0 (by omega)
      rw [Nat.add_zero] at this
      rw [this, hs]
      rfl
    · have hj : j < 7 := (List.getElem?_eq_some_iff.1 hv).1
      rw [hcell (1 + j) (by omega), hs, Nat.add_comm 1 j, List.getElem?_cons_succ, List.getElem?_append_left (by show j < 7; omega), hv]
   let f : Nat → Int × Cx := fun i => if h : i < len then Classical.choose (hall i h) else (0, ⟨0, .empty, .empty, 0, 0, 0, .empty⟩)
   have hspec : ∀ i, (h : i < len) → (W.cell? (a.add (i * 10)) = some (.int .i64 (f i).1) ∧ ∀ j v, (callCells (f i).2)[j]? = some v → W.cell? (a.add (i * 10 + (1 + j))) = some v) ∧ (f i).2.Fits := by
    intro i h
    have := Classical.choose_spec (hall i h)
    simp only [f, dif_pos h]
    exact this
   refine ⟨_, _, _, (List.range len).map f, rfl, Nat.le_trans hl hm, by simp, fun hpos => ?_, fun s hs => ?_⟩
   · have hlen : 0 < len := by
      rcases Nat.eq_zero_or_pos len with h | h
      · subst h
        exact absurd rfl hpos
      · exact h
     have h0 := (hspec 0 hlen).1.1
     obtain ⟨ab, ao, asp⟩ := a
     have hsn : asp = none := by
      cases asp with
      | none => rfl
      | some s =>
       exfalso
       simp [World.cell?, Addr.add] at h0
       split at h0 <;> cases h0
     subst hsn
     refine ⟨ab, ao, rfl, ?_, fun k s hk => ?_⟩
     · simp only [add_flat] at h0
       exact World.block_lt_of_cell? W _ h0
     · rw [List.getElem?_map] at hk
       have hkl : k < len := by
        by_cases h : k < len
        · exact h
        · rw [List.getElem?_eq_none (by simpa using h)] at hk; cases hk
       rw [List.getElem?_range hkl] at hk
       simp only [Option.map_some, Option.some.injEq] at hk
       subst hk
       have := (hspec k hkl).1
       simp only [add_flat, ← Nat.add_assoc] at this
       exact this
   · obtain ⟨i, hi, rfl⟩ := List.mem_map.1 hs
     exact (hspec i (by simpa using hi)).2
end

section
open Go Go.ChangeShapes Go.WideShapes Go.ChangeAt Go.RowKit
theorem door_met (os : Os) (args : Array Value) : laidMetH Tryz.prog laidK ((World.doorLaid Tryz.prog 400 os).forCall (fun _ _ => 0) ⟨#[], args, []⟩).memory :=
 laidMetH_of_parts3 (fuel := 8) (laidMet_of_run' 8 (by kernel_rfl) (by kernel_rfl)) (by kernel_rfl) (by kernel_rfl)
set_option maxRecDepth 100000 in
theorem lifted_modelApart (os : Os) (started : os.Started) (H : Type) (enc : TypeId × Value → H) :
  ReturnsInHanded {} Tryz.checked os 3 .any (fun w args => (Rows.modelApartSpec.pre enc Tryz.prog Tryz.f3 [] false w args ∧ laidMetH Tryz.prog laidK w) ∧ sizedMet enc Tryz.prog Tryz.f3 (OpenSpec.ofChange Rows.modelApartSpec) false w args)
   (Rows.modelApartSpec.post enc Tryz.prog Tryz.f3 false true false false) := by
 refine returnsInHanded_of_change_and (C := Tryz.checked) (X := fun w _ => laidMetH Tryz.prog laidK w) (fun _ _ _ hh h => h.of_heap hh) own started (by kernel_rfl) Tryz.func3
  (ChangeSpec.witness_shaped (enc := enc) (C := Tryz.checked) (os := os) (X := fun w _ => laidMetH Tryz.prog laidK w) false (World.doorLaid Tryz.prog 400 os) #[.slice none 0 0] 8 rfl (World.shaped_of_RefB (by kernel_rfl) (by kernel_rfl)) (by kernel_rfl) (by kernel_rfl) (by kernel_rfl) (door_met os _)) ?_
 intro W base args ds gs before hval0 hW _ _ hX _
 have hval : ∀ (j : Nat) t v, Tryz.f3.params[j]? = some t → args[j]? = some v → Value.okWide Tryz.prog W .any base t v := hval0
 have hW' := hW
 obtain ⟨p, q, hA0, hV, rfl, _, _⟩ := hW
 have hA : DataW.TrodAll enc Tryz.prog W 0 (fun _ => true) true Tryz.f3.params.toList args.toList ds p := hA0
 rw [Tryz.params3] at hA hval
 obtain ⟨v0, vs0, d0, ds0, p0, q0, hargs, rfl, rfl, h0, r0⟩ := trodAll_cons hA
 obtain ⟨rfl, rfl, rfl⟩ := trodAll_nil r0
 obtain rfl : args = #[v0] := by cases args; simp_all
 obtain ⟨rfl, rfl⟩ := trodVars_none hV
 obtain ⟨A, n, c, l, rfl, hn, hl, hs, hf⟩ := steps21_of (okWide_slice Tryz.underlying22 (hval 0 22 v0 rfl rfl)) h0
 refine (t_modelApart A n c l W hs hl hn hf (kinds_of_laid hX)).mono fun e W' ⟨he, hb⟩ => ?_
 exact ⟨_, he, law_post laidOut (by kernel_rfl) rfl (by kernel_rfl) Tryz.underlying4 hW' rfl hb⟩
theorem modelApart_row : Rows.ModelApartSaid :=
 OpenClaim.holds_of_wide 3 Tryz.f3 rfl rfl rfl rfl rfl rfl rfl ⟨rfl, rfl, rfl, rfl, rfl⟩ rfl rfl rfl rfl rfl (by kernel_rfl) Tryz.func3 (by kernel_rfl)
  (of_decide_eq_true (by kernel_rfl)) (by unfold Func.isWrapper; first | (rw [if_pos (by decide +kernel)]; kernel_rfl) | (rw [if_neg (by decide +kernel)]; exact ⟨rfl, rfl⟩))
  (fun os started H enc _ => lifted_modelApart os started H enc)
theorem modelApart_holds : Rows.ModelApartCardSaid :=
 Claim7.holds_tied_plain_at .later [] [.data] true Rows.modelApartCard.stood.harness true
  modelApart_row (fun _ h => by cases h) (by kernel_rfl) (fun _ h => by cases h) modelApart_row_tie rfl ⟨rfl, rfl⟩ (by kernel_rfl) rfl
  (fun f fn hf hfn => by
   obtain rfl : f = 3 := Option.some.inj ((show Tryz.prog.funcNamed "lunette/lunettelaw21.ModelApart" = some 3 by kernel_rfl).symm.trans hf) |>.symm
   obtain rfl : fn = Tryz.f3 := (Option.some.inj (Tryz.func3.symm.trans hfn)).symm
   refine ⟨by kernel_rfl, fun j t ht => ?_⟩
   rw [Tryz.params3] at ht
   have hm : t ∈ [22] := List.mem_of_getElem? (i := j) (by rw [← ht]; exact (List.getElem?_toArray ..).symm)
   have hall : ∀ t ∈ [22], Tryz.prog.wantsStandIn t = false := by
    intro t h
    simp only [List.mem_cons, List.not_mem_nil, or_false] at h
    rcases h with rfl
    kernel_rfl
   exact hall t hm)
  (by kernel_rfl)
#print axioms modelApart_holds
end
end Go.Proofs.YtpcnolkdnmolgaaGreatDoor
