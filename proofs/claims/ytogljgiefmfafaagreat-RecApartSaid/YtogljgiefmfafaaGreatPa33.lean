/- RecApart is proved: for every room, every row of records and every two records, the statement's Go function returns true, and its arguments read as they did. No condition. -/
import Derived.Test.YtogljgiefmfafaaGreatPa26
import Derived.Test.YtogljgiefmfafaaGreatPa32
namespace Go.Proofs.YtogljgiefmfafaaGreat
open Go.ChangeShapes Go.WideShapes Go.ChangeAt Go.RowKit Go.Maps
def PlayedR (B : Nat) (w1 : World) (P k : Nat) (w : World) : Prop := ∃ t, Own B w1 P (1 + 2 * k) t w ∧ HeldK (k : Int) t
theorem rec_cells {w : World} {B : Nat} {r : R} (h : w.heap[B]? = some (.cells (cellsR r) 50 (0, 0))) : w.cell? ⟨B, 0, none⟩ = some (.int .u64 r.stamp) ∧ w.cell? ⟨B, 1, none⟩ = some (.int .u8 r.act) ∧ w.cell? ⟨B, 2, none⟩ = some (.int .u32 r.dir) ∧ w.cell? ⟨B, 3, none⟩ = some (.string r.name) ∧ w.cell? ⟨B, 4, none⟩ = some (.int .u32 r.ino) ∧ w.cell? ⟨B, 5, none⟩ = some (.int .u8 r.kind) ∧ w.cell? ⟨B, 6, none⟩ = some (.int .u32 r.dir2) ∧ w.cell? ⟨B, 7, none⟩ = some (.string r.name2) ∧ w.cell? ⟨B, 8, none⟩ = some (.int .u32 r.old) ∧ w.cell? ⟨B, 9, none⟩ = some (.int .u32 r.size) ∧ w.cell? ⟨B, 10, none⟩ = some (.int .i64 r.page) ∧ w.cell? ⟨B, 11, none⟩ = some (.string r.data) := by
  have f := fun i v hv => rec_cell0 h i v hv
  exact ⟨f 0 _ rfl, f 1 _ rfl, f 2 _ rfl, f 3 _ rfl, f 4 _ rfl, f 5 _ rfl, f 6 _ rfl, f 7 _ rfl, f 8 _ rfl, f 9 _ rfl, f 10 _ rfl, f 11 _ rfl⟩
def PairSt (B : Nat) (w1 : World) (P P2 N : Nat) (f : Nat → PT) (t2 : PT) (k : Nat) (W : World) : Prop := Pair B w1 P P2 (N + 2 * k) (f k) t2 W
def seq3 (x y z : PT) : Nat → PT | 0 => x | 1 => y | _ => z
set_option maxRecDepth 100000 in
set_option maxHeartbeats 16000000 in
theorem t_recApart (m : Int) (A : Option Addr) (n c : Nat) (l : List R) (a b : R) (ha : a.Texts) (hb : b.Texts) (w : World) (hl : RecsAt w A l) (hn : l.length = n) (hn2 : n ≤ maxLen) :
    Calls Tryz.prog 6 #[.int .i64 m, .slice A n c, a.val, b.val] w fun e w' => e = .returned (.bool true) ∧ Below w.heap.size w w' := by
  have hb0 : Below w.heap.size w ((w.alloc (.cells (cellsR a) 50)).alloc (.cells (cellsR b) 50)) := ptrans (below_a1' w _) (below_a1' _ _)
  have hra : ((w.alloc (.cells (cellsR a) 50)).alloc (.cells (cellsR b) 50)).heap[w.heap.size]? = some (.cells (cellsR a) 50 (0, 0)) := by
    rw [(below_a1' (w.alloc (.cells (cellsR a) 50)) _).block _ (by simp)]
    exact heap_alloc_new _ _
  have hrb : ((w.alloc (.cells (cellsR a) 50)).alloc (.cells (cellsR b) 50)).heap[w.heap.size + 1]? = some (.cells (cellsR b) 50 (0, 0)) := by
    have := heap_alloc_new (w.alloc (.cells (cellsR a) 50)) (.cells (cellsR b) 50)
    simpa using this
  have HRA := Lib.hid (fun W (h : Below ((w.alloc (.cells (cellsR a) 50)).alloc (.cells (cellsR b) 50)).heap.size ((w.alloc (.cells (cellsR a) 50)).alloc (.cells (cellsR b) 50)) W) => rec_cells (r := a) (w := W) (B := w.heap.size) ((h.block _ (lt_heap hra)).trans hra))
  have HRB := Lib.hid (fun W (h : Below ((w.alloc (.cells (cellsR a) 50)).alloc (.cells (cellsR b) 50)).heap.size ((w.alloc (.cells (cellsR a) 50)).alloc (.cells (cellsR b) 50)) W) => rec_cells (r := b) (w := W) (B := w.heap.size + 1) ((h.block _ (lt_heap hrb)).trans hrb))
  have HM := Lib.hid (t_manyR A n c l ((w.alloc (.cells (cellsR a) 50)).alloc (.cells (cellsR b) 50)) (hl.below hb0) hn hn2)
  have HB0 := Lib.hid hb0
  have HL := Lib.hid hl
  have HN := Lib.hid hn
  have HLa := Lib.hid (fun w => t_longR a w)
  have HLb := Lib.hid (fun w => t_longR b w)
  have HMe := Lib.hid (fun w => t_meet a b ha.ok ha.name ha.name2 hb.ok hb.name hb.name2 w)
  have HA := Lib.hid ha
  have HB := Lib.hid hb
  obtain ⟨mt, hmt⟩ : ∃ x, meetB a b = x := ⟨_, rfl⟩
  rw [hmt] at HMe
  have HMT := Lib.hid hmt
  clear hl hn ha hb hmt hn2 hra hrb hb0
  unfold R.val at HMe ⊢
  by_cases h2 : 2 ≤ m ∧ m ≤ 256
  · have HNew := Lib.hid (fun w => own_new m w h2.1 h2.2)
    clear h2
    go_enter Tryz.func6, Tryz.ntmps6
    all_goals (go_wp2_with (first
      | (go_at_call 22; with_reducible refine HM.out.mono ?_; rintro e w1 hq; obtain ⟨bm, rfl, hb, h1⟩ := hq.get; clear hq; have HB1 := Lib.hid h1; have HBM := Lib.hid hb; obtain ⟨a0, a1, a2, a3, a4, a5, a6, a7, a8, a9, a10, a11⟩ := HRA.out _ h1; obtain ⟨b0, b1, b2, b3, b4, b5, b6, b7, b8, b9, b10, b11⟩ := HRB.out _ h1; clear h1 hb; cases bm)
      | (go_at_call 29; first
        | (with_reducible refine (HLa.out _).mono ?_; rintro e w2 ⟨⟨bl2, rfl⟩, hb⟩; have HB2 := Lib.hid (ptrans HB1.out hb); clear a0 a1 a2 a3 a4 a5 a6 a7 a8 a9 a10 a11 b0 b1 b2 b3 b4 b5 b6 b7 b8 b9 b10 b11; obtain ⟨a0, a1, a2, a3, a4, a5, a6, a7, a8, a9, a10, a11⟩ := HRA.out _ HB2.out; obtain ⟨b0, b1, b2, b3, b4, b5, b6, b7, b8, b9, b10, b11⟩ := HRB.out _ HB2.out; clear hb; cases bl2)
        | (with_reducible refine (HLb.out _).mono ?_; rintro e w3 ⟨⟨bl3, rfl⟩, hb⟩; have HB3 := Lib.hid (ptrans HB2.out hb); clear a0 a1 a2 a3 a4 a5 a6 a7 a8 a9 a10 a11 b0 b1 b2 b3 b4 b5 b6 b7 b8 b9 b10 b11; obtain ⟨a0, a1, a2, a3, a4, a5, a6, a7, a8, a9, a10, a11⟩ := HRA.out _ HB3.out; obtain ⟨b0, b1, b2, b3, b4, b5, b6, b7, b8, b9, b10, b11⟩ := HRB.out _ HB3.out; clear hb; cases bl3))
      | (go_at_call 30; with_reducible refine (HMe.out _).mono ?_; rintro e w4 ⟨rfl, hb⟩; have HB4 := Lib.hid (ptrans HB3.out hb); clear a0 a1 a2 a3 a4 a5 a6 a7 a8 a9 a10 a11 b0 b1 b2 b3 b4 b5 b6 b7 b8 b9 b10 b11; obtain ⟨a0, a1, a2, a3, a4, a5, a6, a7, a8, a9, a10, a11⟩ := HRA.out _ HB4.out; obtain ⟨b0, b1, b2, b3, b4, b5, b6, b7, b8, b9, b10, b11⟩ := HRB.out _ HB4.out; clear hb; cases mt)
      | (go_at_call 23; with_reducible refine (t_alive22 _).mono ?_; rintro e w9 ⟨rfl, hb⟩; have H9 := Lib.hid hb; clear hb)
      | (go_at_call 16; with_reducible refine (HNew.out _).mono ?_; rintro e w5 ⟨P, rfl, hb⟩; have HG := Lib.hid hb; clear a0 a1 a2 a3 a4 a5 a6 a7 a8 a9 a10 a11 b0 b1 b2 b3 b4 b5 b6 b7 b8 b9 b10 b11; obtain ⟨a0, a1, a2, a3, a4, a5, a6, a7, a8, a9, a10, a11⟩ := HRA.out _ (ptrans HB4.out HG.out.mem); obtain ⟨b0, b1, b2, b3, b4, b5, b6, b7, b8, b9, b10, b11⟩ := HRB.out _ (ptrans HB4.out HG.out.mem); clear hb)))
    all_goals first
      | (go_ret; exact ⟨rfl, ptrans HB0.out (ptrans HB4.out H9.out)⟩; done)
      | (go_ret; exact ⟨rfl, ptrans HB0.out (ptrans HB3.out H9.out)⟩; done)
      | (go_ret; exact ⟨rfl, ptrans HB0.out (ptrans HB2.out H9.out)⟩; done)
      | (go_ret; exact ⟨rfl, ptrans HB0.out (ptrans HB1.out H9.out)⟩; done)
      | skip
    have hn80 : n ≤ 80 := HBM.out (by simp)
    clear HM HBM HMe HLa HLb HNew HB1 HB2 HB3 a0 a1 a2 a3 a4 a5 a6 a7 a8 a9 a10 a11 b0 b1 b2 b3 b4 b5 b6 b7 b8 b9 b10 b11
    go_loopw [11] (fun v wr => ∃ k : Nat, v = .int .i64 (k : Int) ∧ k ≤ n ∧ Hid (PlayedR w4.heap.size w4 P k wr)) (fun v _ => n - (intOf v).toNat)
    case atStart => exact ⟨0, rfl, Nat.zero_le _, _, HG.out, heldK_newT _⟩
    case round =>
      clear HG
      obtain ⟨k, rfl, hk, HP⟩ := hrel
      obtain ⟨t, hg, hK⟩ := HP.out
      have HG := Lib.hid hg
      have HK := Lib.hid hK
      clear hg hK HP
      by_cases he : k = n
      · subst he
        obtain ⟨f, t1, hf⟩ : ∃ f t1, playA t a = (f, t1) := ⟨_, _, rfl⟩
        obtain ⟨g, t2, hg⟩ : ∃ g t2, playA t1 b = (g, t2) := ⟨_, _, rfl⟩
        obtain ⟨h, u1, hh⟩ : ∃ h u1, playA t b = (h, u1) := ⟨_, _, rfl⟩
        obtain ⟨i, u2, hi⟩ : ∃ i u2, playA u1 a = (i, u2) := ⟨_, _, rfl⟩
        obtain ⟨q1, q2, q3⟩ := apart_play HG.out.well HA.out.ok HB.out.ok HMT.out
        rw [hf, hh] at q1 q2 q3
        simp only at q1 q2 q3
        rw [hi] at q1 q3
        rw [hg] at q2 q3
        simp only at q1 q2 q3
        subst q1
        subst q2
        subst q3
        have k1 : HeldK (k + 1 : Int) t1 := by have := HK.out.playA_ (Int.natCast_nonneg k) a; rw [hf] at this; exact this
        have k2 : HeldK (k + 1 : Int) u1 := by have := HK.out.playA_ (Int.natCast_nonneg k) b; rw [hh] at this; exact this
        have g1 : ∀ P2 W, PairSt w4.heap.size w4 P P2 (1 + 2 * k) (seq3 t t1 u2) t 0 W → Calls Tryz.prog 27 #[.pointer (some ⟨P, 0, none⟩), a.val] W fun e w' => e = .returned (.int .i64 i) ∧ PairSt w4.heap.size w4 P P2 (1 + 2 * k) (seq3 t t1 u2) t 1 w' := fun P2 W hp => pair_rec a HA.out i t1 hf hp (HK.out.mono (by omega)) (by omega)
        have g2 : ∀ P2 W, PairSt w4.heap.size w4 P P2 (1 + 2 * k) (seq3 t t1 u2) t 1 W → Calls Tryz.prog 27 #[.pointer (some ⟨P, 0, none⟩), b.val] W fun e w' => e = .returned (.int .i64 g) ∧ PairSt w4.heap.size w4 P P2 (1 + 2 * k) (seq3 t t1 u2) t 2 w' := fun P2 W hp => pair_rec b HB.out g u2 hg hp (k1.mono (by omega)) (by omega)
        have g3 : ∀ P2 W, PairSt w4.heap.size w4 P2 P (1 + 2 * k + 4) (seq3 t u1 u2) u2 0 W → Calls Tryz.prog 27 #[.pointer (some ⟨P2, 0, none⟩), b.val] W fun e w' => e = .returned (.int .i64 g) ∧ PairSt w4.heap.size w4 P2 P (1 + 2 * k + 4) (seq3 t u1 u2) u2 1 w' := fun P2 W hp => pair_rec b HB.out g u1 hh hp (HK.out.mono (by omega)) (by omega)
        have g4 : ∀ P2 W, PairSt w4.heap.size w4 P2 P (1 + 2 * k + 4) (seq3 t u1 u2) u2 1 W → Calls Tryz.prog 27 #[.pointer (some ⟨P2, 0, none⟩), a.val] W fun e w' => e = .returned (.int .i64 i) ∧ PairSt w4.heap.size w4 P2 P (1 + 2 * k + 4) (seq3 t u1 u2) u2 2 w' := fun P2 W hp => pair_rec a HA.out i u2 hi hp (k2.mono (by omega)) (by omega)
        unfold R.val at g1 g2 g3 g4
        have H1 := Lib.hid g1
        have H2 := Lib.hid g2
        have H3 := Lib.hid g3
        have H4 := Lib.hid g4
        clear g1 g2 g3 g4 hf hg hh hi k1 k2
        have hii : (i == i) = true := by simp
        have hgg : (g == g) = true := by simp
        go_wp2_with (go_at_call 31; with_reducible refine (own_copy HG.out (by omega)).mono ?_; rintro e x1 ⟨P2, rfl, hb⟩; have J1 := Lib.hid hb; clear hb)
        refine wp_region_st (fun k3 W => PairSt w4.heap.size w4 P P2 (1 + 2 * k) (seq3 t t1 u2) t k3 W) RelB (fun _ _ => True) [2, 5] (phi [isV (.pointer (some ⟨P, 0, none⟩)), isV (a.val), isV (.int .i64 i), isV (.pointer (some ⟨P, 0, none⟩)), isV (b.val), isV (.int .i64 g), isV (.int .i64 i), isV (.int .i64 g)]) (by kernel_rfl) (by kernel_rfl) (by kernel_rfl) (by kernel_rfl) (by kernel_rfl) (Pair.below J1.out (below_drew _)) (fun _ _ _ hj hb => Pair.below hj hb) (fun _ _ _ => trivial) ?_ ?_ ?_
        · refine stays_phiR ?_
          simp only [List.forall_mem_cons]
          exact ⟨fun _ _ _ h _ => h, fun _ _ _ h _ => h, fun _ _ _ h _ => h, fun _ _ _ h _ => h, fun _ _ _ h _ => h, fun _ _ _ h _ => h, fun _ _ _ h _ => h, fun _ _ _ h _ => h, fun _ h => absurd h (by simp)⟩
        · refine ⟨?_, ?_, ?_, ?_, ?_, ?_, ?_, ?_, trivial⟩
          · refine opS_mk rfl rfl fun aa W2 nJ hJ hp hq K hK => ?_
            have e9 : aa.tmps[9]?.getD undef = .pointer (some ⟨P, 0, none⟩) := hp 9 (by kernel_rfl)
            clear hp hq
            clear hJ
            go_simp
            exact hK _ _ (RelB.refl _) rfl
          · refine opS_mk rfl rfl fun aa W2 nJ hJ hp hq K hK => ?_
            have e6 : aa.tmps[6]?.getD undef = .pointer (some ⟨w.heap.size, 0, none⟩) := hp 6 (by kernel_rfl)
            obtain ⟨a0, a1, a2, a3, a4, a5, a6, a7, a8, a9, a10, a11⟩ := HRA.out _ (ptrans HB4.out (Pair.mem hJ))
            clear hJ
            clear hp hq
            go_simp
            exact hK _ _ (RelB.refl _) rfl
          · refine opS_at (m := 0) rfl rfl fun aa W2 hJ hp hq K hK => ?_
            have e61 : aa.tmps[61]?.getD undef = .pointer (some ⟨P, 0, none⟩) := hq 0 _ (by kernel_rfl) rfl
            have e62 : aa.tmps[62]?.getD undef = a.val := hq 1 _ (by kernel_rfl) rfl
            unfold R.val at e62
            have HJ := Lib.hid hJ
            clear hJ
            clear hp hq
            go_simp
            refine (H1.out P2 W2 HJ.out).mono ?_
            rintro e w3 ⟨rfl, h3⟩
            exact hK _ _ trivial h3 rfl
          · refine opS_mk rfl rfl fun aa W2 nJ hJ hp hq K hK => ?_
            have e9 : aa.tmps[9]?.getD undef = .pointer (some ⟨P, 0, none⟩) := hp 9 (by kernel_rfl)
            clear hp hq
            clear hJ
            go_simp
            exact hK _ _ (RelB.refl _) rfl
          · refine opS_mk rfl rfl fun aa W2 nJ hJ hp hq K hK => ?_
            have e7 : aa.tmps[7]?.getD undef = .pointer (some ⟨w.heap.size + 1, 0, none⟩) := hp 7 (by kernel_rfl)
            obtain ⟨b0, b1, b2, b3, b4, b5, b6, b7, b8, b9, b10, b11⟩ := HRB.out _ (ptrans HB4.out (Pair.mem hJ))
            clear hJ
            clear hp hq
            go_simp
            exact hK _ _ (RelB.refl _) rfl
          · refine opS_at (m := 1) rfl rfl fun aa W2 hJ hp hq K hK => ?_
            have e64 : aa.tmps[64]?.getD undef = .pointer (some ⟨P, 0, none⟩) := hq 3 _ (by kernel_rfl) rfl
            have e65 : aa.tmps[65]?.getD undef = b.val := hq 4 _ (by kernel_rfl) rfl
            unfold R.val at e65
            have HJ := Lib.hid hJ
            clear hJ
            clear hp hq
            go_simp
            refine (H2.out P2 W2 HJ.out).mono ?_
            rintro e w3 ⟨rfl, h3⟩
            exact hK _ _ trivial h3 rfl
          · refine opS_mk rfl rfl fun aa W2 nJ hJ hp hq K hK => ?_
            have e63 : aa.tmps[63]?.getD undef = .int .i64 i := hq 2 _ (by kernel_rfl) rfl
            clear hp hq
            clear hJ
            go_simp
            exact hK _ _ (RelB.refl _) rfl
          · refine opS_mk rfl rfl fun aa W2 nJ hJ hp hq K hK => ?_
            have e66 : aa.tmps[66]?.getD undef = .int .i64 g := hq 5 _ (by kernel_rfl) rfl
            clear hp hq
            clear hJ
            go_simp
            exact hK _ _ (RelB.refl _) rfl
        · intro vs W9 hJ9 hv9 _
          have J3 : Hid (Pair w4.heap.size w4 P P2 (1 + 2 * k + 4) u2 t W9) := hJ9
          have v6 : vs 6 = .int .i64 i := hv9 6 _ rfl rfl
          have v7 : vs 7 = .int .i64 g := hv9 7 _ rfl rfl
          clear hJ9 hv9
          simp only [putAll, Act.put, List.setIfInBounds_toArray, List.set_cons_succ, List.set_cons_zero, Nat.zero_add, Nat.reduceAdd, v6, v7]
          go_wp2
          refine wp_region_st (fun k3 W => PairSt w4.heap.size w4 P2 P (1 + 2 * k + 4) (seq3 t u1 u2) u2 k3 W) RelB (fun _ _ => True) [2, 5] (phi [isV (.pointer (some ⟨P2, 0, none⟩)), isV (b.val), isV (.int .i64 g), isV (.pointer (some ⟨P2, 0, none⟩)), isV (a.val), isV (.int .i64 i), isV (.int .i64 g), isV (.int .i64 i)]) (by kernel_rfl) (by kernel_rfl) (by kernel_rfl) (by kernel_rfl) (by kernel_rfl) (Pair.below (Pair.swap J3.out) (below_drew _)) (fun _ _ _ hj hb => Pair.below hj hb) (fun _ _ _ => trivial) ?_ ?_ ?_
          · refine stays_phiR ?_
            simp only [List.forall_mem_cons]
            exact ⟨fun _ _ _ h _ => h, fun _ _ _ h _ => h, fun _ _ _ h _ => h, fun _ _ _ h _ => h, fun _ _ _ h _ => h, fun _ _ _ h _ => h, fun _ _ _ h _ => h, fun _ _ _ h _ => h, fun _ h => absurd h (by simp)⟩
          · refine ⟨?_, ?_, ?_, ?_, ?_, ?_, ?_, ?_, trivial⟩
            · refine opS_mk rfl rfl fun aa W2 nJ hJ hp hq K hK => ?_
              have e12 : aa.tmps[12]?.getD undef = .pointer (some ⟨P2, 0, none⟩) := hp 12 (by kernel_rfl)
              clear hp hq
              clear hJ
              go_simp
              exact hK _ _ (RelB.refl _) rfl
            · refine opS_mk rfl rfl fun aa W2 nJ hJ hp hq K hK => ?_
              have e7 : aa.tmps[7]?.getD undef = .pointer (some ⟨w.heap.size + 1, 0, none⟩) := hp 7 (by kernel_rfl)
              obtain ⟨b0, b1, b2, b3, b4, b5, b6, b7, b8, b9, b10, b11⟩ := HRB.out _ (ptrans HB4.out (Pair.mem hJ))
              clear hJ
              clear hp hq
              go_simp
              exact hK _ _ (RelB.refl _) rfl
            · refine opS_at (m := 0) rfl rfl fun aa W2 hJ hp hq K hK => ?_
              have e67 : aa.tmps[67]?.getD undef = .pointer (some ⟨P2, 0, none⟩) := hq 0 _ (by kernel_rfl) rfl
              have e68 : aa.tmps[68]?.getD undef = b.val := hq 1 _ (by kernel_rfl) rfl
              unfold R.val at e68
              have HJ := Lib.hid hJ
              clear hJ
              clear hp hq
              go_simp
              refine (H3.out P2 W2 HJ.out).mono ?_
              rintro e w3 ⟨rfl, h3⟩
              exact hK _ _ trivial h3 rfl
            · refine opS_mk rfl rfl fun aa W2 nJ hJ hp hq K hK => ?_
              have e12 : aa.tmps[12]?.getD undef = .pointer (some ⟨P2, 0, none⟩) := hp 12 (by kernel_rfl)
              clear hp hq
              clear hJ
              go_simp
              exact hK _ _ (RelB.refl _) rfl
            · refine opS_mk rfl rfl fun aa W2 nJ hJ hp hq K hK => ?_
              have e6 : aa.tmps[6]?.getD undef = .pointer (some ⟨w.heap.size, 0, none⟩) := hp 6 (by kernel_rfl)
              obtain ⟨a0, a1, a2, a3, a4, a5, a6, a7, a8, a9, a10, a11⟩ := HRA.out _ (ptrans HB4.out (Pair.mem hJ))
              clear hJ
              clear hp hq
              go_simp
              exact hK _ _ (RelB.refl _) rfl
            · refine opS_at (m := 1) rfl rfl fun aa W2 hJ hp hq K hK => ?_
              have e70 : aa.tmps[70]?.getD undef = .pointer (some ⟨P2, 0, none⟩) := hq 3 _ (by kernel_rfl) rfl
              have e71 : aa.tmps[71]?.getD undef = a.val := hq 4 _ (by kernel_rfl) rfl
              unfold R.val at e71
              have HJ := Lib.hid hJ
              clear hJ
              clear hp hq
              go_simp
              refine (H4.out P2 W2 HJ.out).mono ?_
              rintro e w3 ⟨rfl, h3⟩
              exact hK _ _ trivial h3 rfl
            · refine opS_mk rfl rfl fun aa W2 nJ hJ hp hq K hK => ?_
              have e69 : aa.tmps[69]?.getD undef = .int .i64 g := hq 2 _ (by kernel_rfl) rfl
              clear hp hq
              clear hJ
              go_simp
              exact hK _ _ (RelB.refl _) rfl
            · refine opS_mk rfl rfl fun aa W2 nJ hJ hp hq K hK => ?_
              have e72 : aa.tmps[72]?.getD undef = .int .i64 i := hq 5 _ (by kernel_rfl) rfl
              clear hp hq
              clear hJ
              go_simp
              exact hK _ _ (RelB.refl _) rfl
          · intro vs W9 hJ9 hv9 _
            have J5 : Hid (Pair w4.heap.size w4 P P2 (1 + 2 * k + 4 + 4) u2 u2 W9) := Pair.swap hJ9
            have v6 : vs 6 = .int .i64 g := hv9 6 _ rfl rfl
            have v7 : vs 7 = .int .i64 i := hv9 7 _ rfl rfl
            clear hJ9 hv9
            simp only [putAll, Act.put, List.setIfInBounds_toArray, List.set_cons_succ, List.set_cons_zero, Nat.zero_add, Nat.reduceAdd, v6, v7]
            go_wp2_with (first
              | (go_at_call 12; with_reducible refine (pair_alike J5.out (by omega)).mono ?_; rintro e x6 ⟨rfl, hb⟩; have J6 := Lib.hid hb; clear hb)
              | (go_at_call 23; with_reducible refine (t_alive22 _).mono ?_; rintro e x7 ⟨rfl, hb⟩; have J7 := Lib.hid (ptrans (ptrans HB4.out J6.out.mem) hb); clear hb))
            go_ret
            exact ⟨rfl, ptrans HB0.out J7.out⟩
      · have hkn : k < n := by omega
        have hx := rAt_at (l := l) (k := k) (by rw [HN.out]; exact hkn)
        obtain ⟨r, hr⟩ : ∃ r, r = rAt l k := ⟨_, rfl⟩
        rw [← hr] at hx
        have hrt := (HL.out.ok r (List.mem_of_getElem? hx)).texts
        obtain ⟨bb, o, rfl, _, hc⟩ := (HL.out.below (ptrans HB0.out (ptrans HB4.out HG.out.mem))).at_ (fun e => by rw [e] at hx; simp at hx)
        have f6 := hc k r hx
        have r0 := f6 0 _ rfl
        rw [Nat.add_zero] at r0
        have r1 := f6 1 _ rfl
        have r2 := f6 2 _ rfl
        have r3 := f6 3 _ rfl
        have r4 := f6 4 _ rfl
        have r5 := f6 5 _ rfl
        have r6 := f6 6 _ rfl
        have r7 := f6 7 _ rfl
        have r8 := f6 8 _ rfl
        have r9 := f6 9 _ rfl
        have r10 := f6 10 _ rfl
        have r11 := f6 11 _ rfl
        obtain ⟨f, t1, hf⟩ : ∃ f t1, playA t r = (f, t1) := ⟨_, _, rfl⟩
        have k1 : HeldK (k + 1 : Int) t1 := by have := HK.out.playA_ (Int.natCast_nonneg k) r; rw [hf] at this; exact this
        have g1 := own_rec r hrt f t1 hf HG.out (HK.out.mono (by omega)) (by omega)
        unfold R.val at g1
        have H1 := Lib.hid g1
        have HK1 := Lib.hid k1
        clear hc hx f6 hr hrt g1 hf k1 he
        go_wp2_with (go_at_call 27; (with_reducible refine H1.out.mono ?_); rintro e x2 ⟨rfl, hb⟩; have J2 := Lib.hid hb; clear hb)
        go_roundw
        case rel => exact ⟨k + 1, by go_num, by omega, t1, J2.out, by have := HK1.out; exact_mod_cast this⟩
        case measure => simp [intOf]; omega
  · have HG := Lib.hid (show m < 2 ∨ 256 < m by omega)
    clear h2
    go_enter Tryz.func6, Tryz.ntmps6
    all_goals (go_wp2_with (first
      | (go_at_call 22; with_reducible refine HM.out.mono ?_; rintro e w1 hq; obtain ⟨bm, rfl, hb, h1⟩ := hq.get; clear hq; have HB1 := Lib.hid h1; have HBM := Lib.hid hb; obtain ⟨a0, a1, a2, a3, a4, a5, a6, a7, a8, a9, a10, a11⟩ := HRA.out _ h1; obtain ⟨b0, b1, b2, b3, b4, b5, b6, b7, b8, b9, b10, b11⟩ := HRB.out _ h1; clear h1 hb; cases bm)
      | (go_at_call 29; first
        | (with_reducible refine (HLa.out _).mono ?_; rintro e w2 ⟨⟨bl2, rfl⟩, hb⟩; have HB2 := Lib.hid (ptrans HB1.out hb); clear a0 a1 a2 a3 a4 a5 a6 a7 a8 a9 a10 a11 b0 b1 b2 b3 b4 b5 b6 b7 b8 b9 b10 b11; obtain ⟨a0, a1, a2, a3, a4, a5, a6, a7, a8, a9, a10, a11⟩ := HRA.out _ HB2.out; obtain ⟨b0, b1, b2, b3, b4, b5, b6, b7, b8, b9, b10, b11⟩ := HRB.out _ HB2.out; clear hb; cases bl2)
        | (with_reducible refine (HLb.out _).mono ?_; rintro e w3 ⟨⟨bl3, rfl⟩, hb⟩; have HB3 := Lib.hid (ptrans HB2.out hb); clear a0 a1 a2 a3 a4 a5 a6 a7 a8 a9 a10 a11 b0 b1 b2 b3 b4 b5 b6 b7 b8 b9 b10 b11; obtain ⟨a0, a1, a2, a3, a4, a5, a6, a7, a8, a9, a10, a11⟩ := HRA.out _ HB3.out; obtain ⟨b0, b1, b2, b3, b4, b5, b6, b7, b8, b9, b10, b11⟩ := HRB.out _ HB3.out; clear hb; cases bl3))
      | (go_at_call 30; with_reducible refine (HMe.out _).mono ?_; rintro e w4 ⟨rfl, hb⟩; have HB4 := Lib.hid (ptrans HB3.out hb); clear a0 a1 a2 a3 a4 a5 a6 a7 a8 a9 a10 a11 b0 b1 b2 b3 b4 b5 b6 b7 b8 b9 b10 b11; obtain ⟨a0, a1, a2, a3, a4, a5, a6, a7, a8, a9, a10, a11⟩ := HRA.out _ HB4.out; obtain ⟨b0, b1, b2, b3, b4, b5, b6, b7, b8, b9, b10, b11⟩ := HRB.out _ HB4.out; clear hb; cases mt)
      | (go_at_call 23; with_reducible refine (t_alive22 _).mono ?_; rintro e w9 ⟨rfl, hb⟩; have H9 := Lib.hid hb; clear hb)
      | (go_at_call 16; with_reducible refine (t_newNo _ _ HG.out).mono ?_; rintro e w5 ⟨rfl, rfl⟩)))
    all_goals first
      | (go_ret; exact ⟨rfl, ptrans HB0.out (ptrans HB4.out H9.out)⟩; done)
      | (go_ret; exact ⟨rfl, ptrans HB0.out (ptrans HB3.out H9.out)⟩; done)
      | (go_ret; exact ⟨rfl, ptrans HB0.out (ptrans HB2.out H9.out)⟩; done)
      | (go_ret; exact ⟨rfl, ptrans HB0.out (ptrans HB1.out H9.out)⟩; done)
      | skip
set_option maxRecDepth 100000 in
theorem lifted_recApart (os : Os) (started : os.Started) (H : Type) (enc : TypeId × Value → H) :
    ReturnsInHanded {} Tryz.checked os 6 .any (Rows.recApartSpec.pre6 enc Tryz.prog Tryz.f6 Rows.recApartRow.domain false) (Rows.recApartSpec.post enc Tryz.prog Tryz.f6 false true false false) := by
  refine returnsInHanded_of_change (C := Tryz.checked) own started (by kernel_rfl) Tryz.func6
    (ChangeSpec.witness6 (enc := enc) (C := Tryz.checked) false ⟨#[], #[.int .i64 0, .slice none 0 0, .agg #[.int .u64 0, .int .u8 0, .int .u32 0, .string ⟨#[]⟩, .int .u32 0, .int .u8 0, .int .u32 0, .string ⟨#[]⟩, .int .u32 0, .int .u32 0, .int .i64 0, .string ⟨#[]⟩], .agg #[.int .u64 0, .int .u8 0, .int .u32 0, .string ⟨#[]⟩, .int .u32 0, .int .u8 0, .int .u32 0, .string ⟨#[]⟩, .int .u32 0, .int .u32 0, .int .i64 0, .string ⟨#[]⟩]], []⟩ 8 (by kernel_rfl) (by kernel_rfl) (by kernel_rfl) (by kernel_rfl)) ?_
  intro W base args ds gs before hval0 hW _ _
  have hval : ∀ (j : Nat) t v, Tryz.f6.params[j]? = some t → args[j]? = some v → Value.okWide Tryz.prog W .any base t v := hval0
  have hW' := hW
  obtain ⟨p, q, hA0, hV, rfl, _, _⟩ := hW
  have hA : DataW.TrodAll enc Tryz.prog W 0 (fun _ => true) true Tryz.f6.params.toList args.toList ds p := hA0
  rw [Tryz.params6] at hA hval
  obtain ⟨v0, v1, v2, v3, d0, d1, d2, d3, p0, p1, p2, p3, rfl, rfl, rfl, h0, h1, h2, h3⟩ := trodAll_four hA
  obtain ⟨rfl, rfl⟩ := trodVars_none hV
  obtain ⟨m, rfl, rfl, rfl, _⟩ := open_int Tryz.underlying3 (hval 0 3 v0 rfl rfl) h0
  obtain ⟨A, n, c, l, rfl, _, k2, k3, k4⟩ := recs_of (okWide_slice Tryz.underlying22 (hval 1 22 v1 rfl rfl)) h1
  obtain ⟨a, rfl, ao, a1, a2, a3⟩ := rec_open (hval 2 50 v2 rfl rfl) h2
  obtain ⟨b, rfl, bo, b1, b2, b3⟩ := rec_open (hval 3 50 v3 rfl rfl) h3
  refine (t_recApart m A n c l a b ⟨ao, a1, a2, a3⟩ ⟨bo, b1, b2, b3⟩ W k4 k3 k2).mono fun e W' ⟨he, hb⟩ => ?_
  exact ⟨_, he, law_post laidOut (by kernel_rfl) rfl (by kernel_rfl) Tryz.underlying4 hW' rfl hb⟩
theorem recApart_holds : Rows.RecApartSaid :=
  OpenClaim.holds_of_wide 6 Tryz.f6 rfl rfl rfl rfl rfl rfl rfl ⟨rfl, rfl, rfl, rfl, rfl⟩ rfl rfl rfl rfl rfl (by kernel_rfl) Tryz.func6 (by kernel_rfl)
    (of_decide_eq_true (by kernel_rfl)) (by unfold Func.isWrapper; first | (rw [if_pos (by decide +kernel)]; kernel_rfl) | (rw [if_neg (by decide +kernel)]; exact ⟨rfl, rfl⟩))
    (fun os started H enc _ => lifted_recApart os started H enc)
#print axioms recApart_holds
end Go.Proofs.YtogljgiefmfafaaGreat
