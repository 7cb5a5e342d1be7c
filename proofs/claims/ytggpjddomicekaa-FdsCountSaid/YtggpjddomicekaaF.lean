/- FdsCount. -/
import Derived.Test.YtggpjddomicekaaP
import Derived.Deep.DeepCutAuto
import Derived.Deep.CutBlock
import Derived.Deep.AppendLies
import Derived.Deep.RegionHeld3
import Derived.Maps.OwnSet
namespace Go.Proofs.Ytggpjddomicekaa
open Go.RowKit Go.Maps

/-- The steps that came in. -/
structure Steps (w : World) (A : Option Addr) (n : Nat) (f : Nat → Int × Int × Int × Int) : Prop where
  at_ : 0 < n → ∃ b o, A = some ⟨b, o, none⟩ ∧ b < w.heap.size ∧ ∀ k, k < n →
    w.cell? ⟨b, o + k * 4, none⟩ = some (.int .i64 (f k).1) ∧ w.cell? ⟨b, o + k * 4 + 1, none⟩ = some (.int .i64 (f k).2.1) ∧ w.cell? ⟨b, o + k * 4 + 2, none⟩ = some (.int .i64 (f k).2.2.1) ∧ w.cell? ⟨b, o + k * 4 + 3, none⟩ = some (.int .u32 (f k).2.2.2)
  ino : ∀ k, 0 ≤ (f k).2.2.2 ∧ (f k).2.2.2 ≤ 4294967295

theorem grown_of_below {w w' : World} (h : Below w.heap.size w w') (row : Option Nat) : w.grownBy w' row := ⟨h.os, h.tape, h.output, h.size, fun i hi _ => h.block i hi⟩
theorem cell_far {w w' : World} {row : Option Nat} (h : w.grownBy w' row) {p : Addr} {v : Value} (hc : w.cell? p = some v) (hl : p.block < w.heap.size) (hne : some p.block ≠ row) : w'.cell? p = some v := (World.cell?_of_block (h.block p.block hl hne)).trans hc
theorem Tab.grown {w w' : World} {b : Nat} {T : Nat → Int} {n : Int} {row : Option Nat} (h : Tab w b T n) (hg : w.grownBy w' row) (hne : some b ≠ row) : Tab w' b T n := h.kept (hg.block b h.lt hne)
theorem law29 : Keyed Try.prog 29 := int_keyed Try.underlying29
theorem zero3 (w : World) : (zeroValue 3).run Try.prog w = .ok (.int .i64 0) w := by kernel_rfl

theorem list_sl (b : Nat) (c n : Int) (T : Nat → Int) (w : World) (L : Nat) (hL : (rowOf T n c).length = L) (hT : Tab w b T n) (hn : n ≤ 8) :
    Calls Try.prog 7 #[.pointer (some ⟨b, 0, none⟩), .int .i64 c] w fun e W' => ∃ a cap, e = .returned (.slice a L cap) ∧ W'.ownsRow w.heap.size 39 2 (.slice a L cap) L (cellsOf (rowOf T n c)) ∧ Below w.heap.size w W' :=
  (list_any b c n T w hT hn).mono fun e W' ⟨v, h1, h2, h3⟩ => by
    rw [hL] at h2
    rcases h2.2 with ⟨h, h0⟩ | ⟨g, cap, _, h, _⟩
    · subst h; subst h0; exact ⟨_, _, h1, h2, h3⟩
    · subst h; exact ⟨_, _, h1, h2, h3⟩

/-- What holds at the last test. -/
def HeldS (w : World) (S m : Nat) (T : Nat → Int) (D : DataW Unit) (W : World) : Prop :=
  Tab W w.heap.size T 3 ∧ W.ownsMap Try.prog 29 (plainElem Try.prog 3) (w.heap.size + 1) m D ∧ Below w.heap.size w W ∧ S < W.heap.size
theorem look_held {w : World} {S m : Nat} {T : Nat → Int} {D : DataW Unit} {W : World} (h : HeldS w S m T D W) (hC : Counts D T) {ii : Int} (hw : (Lit.int .u32 ii).wf = true) :
    (Instr.lookup 28 (.map (some (w.heap.size + 1))) (.int .u32 ii) false).run Try.prog W = .ok (.int .i64 (cq (isOf ii) T 48 : Nat)) W := by
  obtain ⟨c, hrun, hat, _⟩ := h.2.1.lookup_int law29 Try.underlying28 Try.underlying3 (zero3 W) (keyOf_int_mk Try.underlying29 hw)
  rw [hC ii hw] at hat
  obtain rfl : c = (cq (isOf ii) T 48 : Nat) := by simpa using hat.symm
  exact hrun
theorem opens_held {w : World} {S m : Nat} {T : Nat → Int} {D : DataW Unit} {W : World} (h : HeldS w S m T D W) (hC : Counts D T) {ii : Int} (hw : (Lit.int .u32 ii).wf = true) (hc : W.cell? ⟨S, 3, none⟩ = some (.int .u32 ii)) :
    Calls Try.prog 10 #[.pointer (some ⟨w.heap.size, 0, none⟩), .int .u32 ii] W fun e W' => e = .returned (.int .i64 (cq (isOf ii) T 48 : Nat)) ∧
      (W'.cell? ⟨S, 3, none⟩ = some (.int .u32 ii) ∧ (Instr.lookup 28 (.map (some (w.heap.size + 1))) (.int .u32 ii) false).run Try.prog W' = .ok (.int .i64 (cq (isOf ii) T 48 : Nat)) W' ∧ HeldS w S m T D W') := by
  refine (opens_any w.heap.size 3 ii T W h.1 (by decide) (by decide)).mono ?_
  rintro e W' ⟨rfl, hB⟩
  have h' : HeldS w S m T D W' := ⟨h.1.below hB h.1.lt, h.2.1.kept (grown_of_below hB none) (by simp), h.2.2.1.trans (hB.mono h.2.2.1.size), Nat.lt_of_lt_of_le h.2.2.2 hB.size⟩
  refine ⟨?_, (hB.cell (p := ⟨S, 3, none⟩) h.2.2.2).trans hc, look_held h' hC hw, h'⟩
  rw [show ((3 : Int).toNat) = 3 from rfl, hitsTo_cq T 3 ii 3 (by decide)]
theorem HeldS.drew {w : World} {S m : Nat} {T : Nat → Int} {D : DataW Unit} {W : World} (h : HeldS w S m T D W) : HeldS w S m T D W.drew :=
  ⟨h.1.kept rfl, h.2.1, h.2.2.1.drew, h.2.2.2⟩

set_option maxRecDepth 100000 in
set_option maxHeartbeats 16000000 in
theorem count_any (A : Option Addr) (n c : Nat) (f : Nat → Int × Int × Int × Int) (w : World) (hs : Steps w A n f) (hn : n ≤ maxLen) :
    Calls Try.prog 3 #[.slice A n c] w fun e w' => e = .returned (.bool true) ∧ Below w.heap.size w w' := by
  unfold maxLen at hn
  by_cases hlong : 200 < n
  · go_enter Try.func3, Try.ntmps3
    go_wp2_with (go_at_call 4; refine (alive_any _).mono ?_; rintro e w' ⟨rfl, hB⟩)
    go_ret
    exact ⟨rfl, hB⟩
  · have hn2 : n ≤ 200 := by omega
    clear hlong
    have hmm := @run_makeMap Try.prog
    go_enter Try.func3, Try.ntmps3
    go_wp2_with (go_at_call 5; refine (new_ok 3 (by decide) (by decide) _).mono ?_; rintro e w' ⟨rfl, rfl⟩)
    have hT0 := (Tab.new w 3).alloc (.map #[] 0)
    have hM0 := World.ownsMap_made (w.alloc (.cells (z48.setIfInBounds 128 (.int .i64 3)) 48)) Try.prog 29 (plainElem (H := Unit) Try.prog 3)
    have hB0 := ((Below.refl w.heap.size w).alloc (Nat.le_refl _) (.cells (z48.setIfInBounds 128 (.int .i64 3)) 48)).alloc (by simp) (.map #[] 0)
    rw [World.size_alloc] at hM0
    generalize (w.alloc (.cells (z48.setIfInBounds 128 (.int .i64 3)) 48)).alloc (.map #[] 0) = W0 at *
    go_loopw [6] (fun i W => ∃ (k m : Nat) (T : Nat → Int) (D : DataW Unit), i = .int .i64 k ∧ k ≤ n ∧ m ≤ k ∧ Tab W w.heap.size T 3 ∧ Inos T ∧ W.ownsMap Try.prog 29 (plainElem Try.prog 3) (w.heap.size + 1) m D ∧ Counts D T ∧ Below w.heap.size w W) (fun i _ => n - (intOf i).toNat)
    case atStart => exact ⟨0, 0, fun _ => 0, .map [], rfl, Nat.zero_le _, Nat.le_refl _, hT0, fun i => by simp, hM0, Counts.start, hB0⟩
    case round =>
      obtain ⟨k, m, T, D, rfl, hk, hmk, hT, hI, hM, hC, hB⟩ := hrel
      clear hmm hT0 hM0 hB0
      by_cases he : k = n
      · subst he
        go_wp2_with (go_at_call 4; refine (alive_any _).mono ?_; rintro e w' ⟨rfl, hBa⟩)
        go_ret
        exact ⟨rfl, hB.trans (hBa.mono hB.size)⟩
      · have hlt : k < n := by omega
        obtain ⟨ab, ao, rfl, hab, hcells⟩ := hs.at_ (by omega)
        obtain ⟨c0, c1, c2, c3⟩ := hcells k hlt
        have d0 := (hB.cell (p := ⟨ab, ao + k * 4, none⟩) hab).trans c0
        have d1 := (hB.cell (p := ⟨ab, ao + k * 4 + 1, none⟩) hab).trans c1
        have d2 := (hB.cell (p := ⟨ab, ao + k * 4 + 2, none⟩) hab).trans c2
        have d3 := (hB.cell (p := ⟨ab, ao + k * 4 + 3, none⟩) hab).trans c3
        have hi0 := hs.ino k
        clear hcells c0 c1 c2 c3 he
        generalize (f k).1 = dd at *
        generalize (f k).2.1 = cc at *
        generalize (f k).2.2.1 = ff at *
        generalize (f k).2.2.2 = ii at *
        go_upto_block 2 with fail
        obtain ⟨W1, hW1⟩ : ∃ W1, wr.alloc (.cells #[.int .i64 dd, .int .i64 cc, .int .i64 ff, .int .u32 ii] 31) = W1 := ⟨_, rfl⟩
        obtain ⟨S, hS⟩ : ∃ S, wr.heap.size = S := ⟨_, rfl⟩
        have hSb := hB.size
        have e0 : W1.cell? ⟨S, 0, none⟩ = some (.int .i64 dd) := by rw [← hW1, ← hS]; simp [World.cell?_alloc_new]
        have e1 : W1.cell? ⟨S, 1, none⟩ = some (.int .i64 cc) := by rw [← hW1, ← hS]; simp [World.cell?_alloc_new]
        have e2 : W1.cell? ⟨S, 2, none⟩ = some (.int .i64 ff) := by rw [← hW1, ← hS]; simp [World.cell?_alloc_new]
        have e3 : W1.cell? ⟨S, 3, none⟩ = some (.int .u32 ii) := by rw [← hW1, ← hS]; simp [World.cell?_alloc_new]
        have eS : S < W1.heap.size := by rw [← hW1, ← hS]; simp
        have hT1 : Tab W1 w.heap.size T 3 := by rw [← hW1]; exact hT.alloc _
        have hM1 : W1.ownsMap Try.prog 29 (plainElem Try.prog 3) (w.heap.size + 1) m D := by rw [← hW1]; exact hM.alloc _
        have hB1 : Below w.heap.size w W1 := by rw [← hW1]; exact hB.alloc hB.size _
        have hSM : w.heap.size + 1 < S := by rw [← hS]; exact hM.lt
        rw [hW1, hS]
        rw [hS] at hSb
        clear hW1 hS hT hM hB d0 d1 d2 d3 wr
        go_cut [] (fun wx => (∃ (m' : Nat) (T' : Nat → Int) (D' : DataW Unit), m' ≤ k + 1 ∧ Tab wx w.heap.size T' 3 ∧ Inos T' ∧ wx.ownsMap Try.prog 29 (plainElem Try.prog 3) (w.heap.size + 1) m' D' ∧ Counts D' T' ∧ Below w.heap.size w wx) ∧ wx.cell? ⟨S, 3, none⟩ = some (.int .u32 ii) ∧ S < wx.heap.size)
        case first =>
          have same : (∃ (m' : Nat) (T' : Nat → Int) (D' : DataW Unit), m' ≤ k + 1 ∧ Tab W1 w.heap.size T' 3 ∧ Inos T' ∧ W1.ownsMap Try.prog 29 (plainElem Try.prog 3) (w.heap.size + 1) m' D' ∧ Counts D' T' ∧ Below w.heap.size w W1) ∧ W1.cell? ⟨S, 3, none⟩ = some (.int .u32 ii) ∧ S < W1.heap.size :=
            ⟨⟨m, T, D, by omega, hT1, hI, hM1, hC, hB1⟩, e3, eS⟩
          have hid := Lib.hid same
          clear same
          by_cases hd0 : dd = 0
          · have hd0' : (dd == 0) = true := by simpa using hd0
            clear hd0
            by_cases hok : 0 ≤ cc ∧ cc < 3 ∧ ii ≠ 0
            · obtain ⟨h0, h3, hi⟩ := hok
              obtain ⟨cN, rfl⟩ : ∃ cN : Nat, cc = cN := ⟨cc.toNat, by omega⟩
              have hi' : (ii == 0) = false := by simpa using hi
              have hrw : rowOf T 3 cN = opens T cN 16 := rowOf_nat T 3 cN h3
              rcases first_free T cN 16 with ⟨fd, hfd, hz, hlt2⟩ | hfull
              · have hup : Inos (upd T (cN * 16 + fd) ii) := hI.upd _ hi0.1 hi0.2
                have hg : (opens (upd T (cN * 16 + fd) ii) cN 16)[fd]? = some (fd, ii) := by
                  have := opens_get (upd T (cN * 16 + fd) ii) cN fd hfd (fun i hi2 => by
                    unfold upd; split
                    · exact hi
                    · exact hlt2 i (by omega))
                  rw [this]; simp [upd]
                have hfl : fd < (opens (upd T (cN * 16 + fd) ii) cN 16).length := (List.getElem?_eq_some_iff.1 hg).1
                have HC := Lib.hid (cellsOf_get _ _ _ hg)
                have HR := Lib.hid (rowOf_nat (upd T (cN * 16 + fd) ii) 3 cN h3)
                have hcnt := cq_upd (isOf ii) T (cN * 16 + fd) ii 48 (by omega)
                have hoth : ∀ j, j ≠ ii → cq (isOf j) (upd T (cN * 16 + fd) ii) 48 = cq (isOf j) T 48 := fun j hj => by
                  have := cq_upd (isOf j) T (cN * 16 + fd) ii 48 (by omega)
                  rw [hz] at this
                  have x1 : isOf j 0 = false := by simp only [isOf, decide_eq_false_iff_not]; omega
                  have x2 : isOf j ii = false := by simp only [isOf, decide_eq_false_iff_not]; omega
                  rw [x1, x2] at this
                  simpa using this
                rw [hz] at hcnt
                have x1 : isOf ii 0 = false := by simp only [isOf, decide_eq_false_iff_not]; omega
                have x2 : isOf ii ii = true := by simp [isOf, hi]
                rw [x1, x2] at hcnt
                have Hcnt := Lib.hid hcnt
                have Hoth := Lib.hid hoth
                have Hz := Lib.hid hz
                have Hlt2 := Lib.hid hlt2
                have hTz : (upd T (cN * 16 + fd) ii (cN * 16 + fd) != 0) = true := by simp [upd, hi]
                have hTv : upd T (cN * 16 + fd) ii (cN * 16 + fd) = ii := by simp [upd]
                have HTz := Lib.hid hTz
                have HTv := Lib.hid hTv
                have Hi := Lib.hid hi
                clear hcnt hoth hz hlt2 x1 x2 hTz hTv hg hrw hid hi
                have hBlt := hT1.lt
                go_wp2_with fail
                refine (open_tab w.heap.size cN fd ii T 3 W1 hT1 h3 hfd (by decide) hi' Hz.out Hlt2.out).mono ?_
                rintro e w2 ⟨rfl, hT2, hg2, hz2⟩
                have eS2 : S < w2.heap.size := by rw [hz2]; exact eS
                have hM2 := hM1.kept hg2 (by simp)
                have f1 := cell_far hg2 e1 eS (by simp; omega)
                have f3 := cell_far hg2 e3 eS (by simp; omega)
                have hB2 := hB1.grown hg2 hB1.size (by rintro k ⟨rfl⟩; exact Nat.le_refl _)
                have hM1t := (hM1.tidy law29).isMap
                clear hz2 e0 e1 e2 e3 hT1 hM1
                have hwf : (Lit.int .u32 ii).wf = true := by simp [Lit.wf, IntKind.min, IntKind.max, IntKind.signed, IntKind.bits]; omega
                have Hwf := Lib.hid hwf
                clear hwf
                have hcb := cq_le (isOf ii) T 48
                have wfn : (Lit.int .i64 (((cq (isOf ii) T 48 : Nat) : Int) + 1)).wf = true := WalkArith.wf_i64 (by omega)
                have Hwn := Lib.hid wfn
                clear wfn
                go_wp2_with (first
                  | (at_lookup; refine wpList_lookup_own_int _ rfl _ _ 28 rfl 29 3 .i64 law29 Try.underlying28 Try.underlying3 (zero3 _) (w.heap.size + 1) m _ rfl hM2 _ _ rfl (keyOf_int_mk Try.underlying29 Hwf.out) ?_; intro cnt hat hwc; obtain rfl : cnt = (cq (isOf ii) T 48 : Nat) := (by have := hC ii Hwf.out; rw [hat] at this; simpa using this); clear hat hwc)
                  | (at_mapUpdate; refine wpList_mapUpdate_own _ rfl _ _ _ 28 rfl 29 3 law29 Try.underlying28 _ (w.heap.size + 1) m _ rfl hM2 (by unfold maxLen; omega) _ _ _ rfl rfl (keyOf_int_mk Try.underlying29 Hwf.out) _ [] (plainElem_int Try.underlying3 Hwn.out) ?_; intro w3 hM3 hg3
                     have hT3 := hT2.grown hg3 (by simp)
                     have g1 := cell_far hg3 f1 eS2 (by simp; omega)
                     have g3 := cell_far hg3 f3 eS2 (by simp; omega)
                     have hB3 := hB2.grown hg3 hB2.size (by rintro k ⟨rfl⟩; omega)
                     have eS3 : S < w3.heap.size := Nat.lt_of_lt_of_le eS2 hg3.size
                     clear f1 f3 hM2 hT2 hB2 hg2 hg3))
                have hof := of_yes w.heap.size cN fd _ 3 w3 hT3 h3 hfd (by decide)
                rw [HTz.out, HTv.out] at hof
                go_wp2_with fail
                refine hof.mono ?_
                rintro e w4 ⟨rfl, rfl⟩
                go_wp2_with fail
                obtain ⟨L, hL⟩ : ∃ L, (rowOf (upd T (cN * 16 + fd) ii) 3 cN).length = L := ⟨_, rfl⟩
                have hls := list_sl w.heap.size cN 3 _ w3 L hL hT3 (by decide)
                rw [HR.out] at hls hL
                have hLf : fd < L := by rw [← hL]; exact hfl
                clear hL hfl
                refine hls.mono ?_
                rintro e w5 ⟨ra, rcap, rfl, hrow, hB5⟩
                obtain ⟨g, cap2, hrv, _, _⟩ := hrow.form (by omega)
                obtain ⟨rfl, rfl⟩ : ra = some ⟨g, 0, none⟩ ∧ rcap = cap2 := by simpa using hrv
                clear hrv hls
                have hcell := hrow.cells (g := g) rfl (fd * 2) _ HC.out
                rw [show ((⟨g, 0, none⟩ : Addr).add (fd * 2)) = ⟨g, fd * 2, none⟩ from by rw [Addr.add_mid]; simp] at hcell
                have k3 := (hB5.cell (p := ⟨S, 3, none⟩) eS3).trans g3
                have hT5 := hT3.below hB5 hT3.lt
                have hM5 := hM3.kept (grown_of_below hB5 none) (by simp)
                have hB6 := hB3.trans (hB5.mono hB3.size)
                have eS5 : S < w5.heap.size := Nat.lt_of_lt_of_le eS3 hB5.size
                clear g1 g3 hrow hT3 hM3 hB3 hB5
                clear hof
                have y1 : decide ((fd : Int) < 0) = false := by simp
                have y2 : decide (L ≤ fd) = false := by simp; omega
                go_wp2_with fail
                go_meet
                case rel =>
                  refine ⟨⟨m + 1, _, _, by omega, hT5, hup, hM5, ?_, hB6⟩, k3, eS5⟩
                  refine hC.put hM1t _ _ _ _ ?_ Hoth.out
                  have := Hcnt.out
                  simp at this
                  omega
              · have hlen : (rowOf T 3 cN).length = 16 := by rw [hrw, opens_full_length T cN 16 hfull]
                have Hf := Lib.hid hfull
                have Hl := Lib.hid hlen
                clear hfull hrw hlen
                go_wp2_with (first | (go_at_call 6; refine (open_full w.heap.size cN ii T 3 _ hT1 h3 (by decide) hi' Hf.out).mono ?_; rintro e w' ⟨rfl, rfl⟩) | (go_at_call 7; refine (list_sl w.heap.size cN 3 T W1 16 Hl.out hT1 (by decide)).mono ?_; rintro e w' ⟨a, cap, rfl, _, hBl⟩))
                go_meet
                case rel =>
                  obtain ⟨⟨m', T', D', q1, q2, q3, q4, q5, q6⟩, q7, q8⟩ := hid.out
                  have hB2 := q6.trans (hBl.mono q6.size)
                  exact ⟨⟨m', T', D', q1, q2.below hBl q2.lt, q3, q4.kept (grown_of_below hBl none) (by simp), q5, hB2⟩, (hBl.cell (p := ⟨S, 3, none⟩) q8).trans q7, Nat.lt_of_lt_of_le q8 hBl.size⟩
            · go_wp2_with (go_at_call 6; refine (open_arg w.heap.size cc ii 3 _ hT1.cores hok).mono ?_; rintro e w' ⟨rfl, rfl⟩)
              go_meet
              case rel => exact hid.out
          · have hd0' : (dd == 0) = false := by simpa using hd0
            by_cases hd1 : dd = 1
            · have hd1' : (dd == 1) = true := by simpa using hd1
              clear hd0 hd1
              by_cases hok : 0 ≤ cc ∧ cc < 3 ∧ 0 ≤ ff ∧ ff ≤ 15
              · obtain ⟨h0, h3, h4, h5⟩ := hok
                obtain ⟨cN, rfl⟩ : ∃ cN : Nat, cc = cN := ⟨cc.toNat, by omega⟩
                obtain ⟨fN, rfl⟩ : ∃ fN : Nat, ff = fN := ⟨ff.toNat, by omega⟩
                have hof := of_yes w.heap.size cN fN T 3 W1 hT1 h3 (by omega) (by decide)
                by_cases hz : T (cN * 16 + fN) = 0
                · have hcl := close_free w.heap.size cN fN T 3 W1 hT1 h3 (by omega) (by decide) hz
                  rw [hz] at hof
                  have hz2 : ((0 : Int) != 0) = false := rfl
                  rw [hz2] at hof
                  have Hof := Lib.hid hof
                  have Hcl := Lib.hid hcl
                  clear hof hcl hz hz2
                  go_wp2_with (first | (go_at_call 8; refine Hof.out.mono ?_; rintro e w' ⟨rfl, rfl⟩) | (go_at_call 9; refine Hcl.out.mono ?_; rintro e w' ⟨rfl, rfl⟩))
                  go_meet
                  case rel => exact hid.out
                · have hzt : (T (cN * 16 + fN) != 0) = true := by simpa using hz
                  have hcl := close_tab w.heap.size cN fN T 3 W1 hT1 h3 (by omega) (by decide) hz
                  rw [hzt] at hof
                  have hvr := hI (cN * 16 + fN)
                  have hup : Inos (upd T (cN * 16 + fN) 0) := hI.upd _ (by omega) (by omega)
                  have hcnt := cq_upd (isOf (T (cN * 16 + fN))) T (cN * 16 + fN) 0 48 (by omega)
                  have hoth : ∀ j, j ≠ T (cN * 16 + fN) → cq (isOf j) (upd T (cN * 16 + fN) 0) 48 = cq (isOf j) T 48 := fun j hj => by
                    have := cq_upd (isOf j) T (cN * 16 + fN) 0 48 (by omega)
                    have x1 : isOf j 0 = false := by simp only [isOf, decide_eq_false_iff_not]; omega
                    have x2 : isOf j (T (cN * 16 + fN)) = false := by simp only [isOf, decide_eq_false_iff_not]; omega
                    rw [x1, x2] at this
                    simpa using this
                  have x1 : isOf (T (cN * 16 + fN)) 0 = false := by simp only [isOf, decide_eq_false_iff_not]; omega
                  have x2 : isOf (T (cN * 16 + fN)) (T (cN * 16 + fN)) = true := by simp [isOf, hz]
                  rw [x1, x2] at hcnt
                  have hwf : (Lit.int .u32 (T (cN * 16 + fN))).wf = true := by simp [Lit.wf, IntKind.min, IntKind.max, IntKind.signed, IntKind.bits]; omega
                  have hpos := cq_pos (isOf (T (cN * 16 + fN))) T 48 (cN * 16 + fN) (by omega) x2
                  have hcb := cq_le (isOf (T (cN * 16 + fN))) T 48
                  have hM1t := (hM1.tidy law29).isMap
                  have hBlt := hT1.lt
                  have hCk := hC _ hwf
                  clear x1 x2 hz hzt
                  generalize hv : T (cN * 16 + fN) = v at *
                  have Hcnt := Lib.hid hcnt
                  have Hoth := Lib.hid hoth
                  have Hof := Lib.hid hof
                  have Hcl := Lib.hid hcl
                  have Hwf := Lib.hid hwf
                  have HCk := Lib.hid hCk
                  have Hup := Lib.hid hup
                  have Hpos := Lib.hid hpos
                  have wfn : (Lit.int .i64 (((cq (isOf v) T 48 : Nat) : Int) - 1)).wf = true := WalkArith.wf_i64 (by omega)
                  have Hwn := Lib.hid wfn
                  clear hcnt hoth hof hcl hwf hCk hup hpos wfn hid hv
                  go_wp2_with (first
                    | (go_at_call 8; refine Hof.out.mono ?_; rintro e w' ⟨rfl, rfl⟩)
                    | (go_at_call 9; refine Hcl.out.mono ?_; rintro e w2 ⟨rfl, hT2, hg2, hz2⟩
                       have eS2 : S < w2.heap.size := by rw [hz2]; exact eS
                       have hM2 := hM1.kept hg2 (by simp)
                       have f3 := cell_far hg2 e3 eS (by simp; omega)
                       have hB2 := hB1.grown hg2 hB1.size (by rintro k ⟨rfl⟩; exact Nat.le_refl _)
                       clear hz2 e0 e1 e2 e3 hT1 hM1 hg2)
                    | (at_lookup; refine wpList_lookup_own_int _ rfl _ _ 28 rfl 29 3 .i64 law29 Try.underlying28 Try.underlying3 (zero3 _) (w.heap.size + 1) m _ rfl hM2 _ _ rfl (keyOf_int_mk Try.underlying29 Hwf.out) ?_; intro cnt hat hwc; obtain rfl : cnt = (cq (isOf v) T 48 : Nat) := (by have := HCk.out; rw [hat] at this; simpa using this); clear hat hwc)
                    | (at_mapUpdate; refine wpList_mapUpdate_own _ rfl _ _ _ 28 rfl 29 3 law29 Try.underlying28 _ (w.heap.size + 1) m _ rfl hM2 (by unfold maxLen; omega) _ _ _ rfl rfl (keyOf_int_mk Try.underlying29 Hwf.out) _ [] (plainElem_int Try.underlying3 Hwn.out) ?_; intro w3 hM3 hg3
                       have hT3 := hT2.grown hg3 (by simp)
                       have g3 := cell_far hg3 f3 eS2 (by simp; omega)
                       have hB3 := hB2.grown hg3 hB2.size (by rintro k ⟨rfl⟩; omega)
                       have eS3 : S < w3.heap.size := Nat.lt_of_lt_of_le eS2 hg3.size
                       clear f3 hM2 hT2 hB2 hg3))
                  go_meet
                  case rel =>
                    refine ⟨⟨m + 1, _, _, by omega, hT3, Hup.out, hM3, ?_, hB3⟩, g3, eS3⟩
                    refine hC.put hM1t _ _ _ _ ?_ Hoth.out
                    have h1 := Hcnt.out
                    have h2 := Hpos.out
                    simp at h1
                    omega
              · have Hof := Lib.hid (of_no w.heap.size cc ff 3 W1 hT1.cores hok)
                have Hcl := Lib.hid (close_no w.heap.size cc ff 3 W1 hT1.cores hok)
                clear hok
                go_wp2_with (first | (go_at_call 8; refine Hof.out.mono ?_; rintro e w' ⟨rfl, rfl⟩) | (go_at_call 9; refine Hcl.out.mono ?_; rintro e w' ⟨rfl, rfl⟩))
                go_meet
                case rel => exact hid.out
            · have hd1' : (dd == 1) = false := by simpa using hd1
              clear hd0 hd1
              go_wp2_with fail
              go_meet
              case rel => exact hid.out
        case rest =>
          obtain ⟨⟨m', T', D', hm', hT', hI', hM', hC', hB'⟩, hc3, hcS⟩ := hcut
          clear e0 e1 e2 e3 eS hT1 hM1 hB1 hC hI hab
          go_wp2_with fail
          go_loopw [17, 18] (fun t17 t18 wx => ∃ j : Nat, j ≤ 3 ∧ t18 = .int .i64 j ∧ t17 = .int .i64 (cq isOpen T' (j * 16) : Nat) ∧ Tab wx w.heap.size T' 3 ∧ wx.ownsMap Try.prog 29 (plainElem Try.prog 3) (w.heap.size + 1) m' D' ∧ Below w.heap.size w wx ∧ wx.cell? ⟨S, 3, none⟩ = some (.int .u32 ii) ∧ S < wx.heap.size) (fun _ i _ => 4 - (intOf i).toNat)
          case atStart => exact ⟨0, by omega, rfl, rfl, hT', hM', hB', hc3, hcS⟩
          case round =>
            obtain ⟨j, hj, rfl, rfl, hTj, hMj, hBj, hcj, hSj⟩ := hrel
            have hcb := cq_le isOpen T' (j * 16)
            by_cases hj3 : j = 3
            · subst hj3
              simp only [Nat.reduceMul, Int.cast_ofNat_Int]
              go_wp2_with (at_range; refine wpList_range_own _ rfl _ 28 rfl 29 3 law29 Try.underlying28 _ (w.heap.size + 1) m' D' rfl hMj ?_; intro w0 hrg0 hg0 hs0; have hT0 := hTj.grown hg0 (by simp); have hB0 := hBj.grown hg0 hBj.size (by simp); have hc0 := cell_far hg0 hcj hSj (by simp); have hS0 : S < w0.heap.size := Nat.lt_of_lt_of_le hSj hg0.size; clear hTj hMj hBj hcj)
              have hrB : w.heap.size ≤ wr.heap.size := by omega
              obtain ⟨r, hr⟩ : ∃ r, wr.heap.size = r := ⟨_, rfl⟩
              rw [hr] at hrg0 hSj hrB ⊢
              clear hg0 hs0 hr wr
              go_frame
              go_loopw [19] (fun t19 wx => ∃ (left : Lit → Bool) (cnt : Nat), t19 = .int .i64 (sumGone T' left : Nat) ∧ wx.ranges Try.prog 29 (plainElem Try.prog 3) (w.heap.size + 1) r m' D' left cnt ∧ Tab wx w.heap.size T' 3 ∧ Below w.heap.size w wx ∧ wx.cell? ⟨S, 3, none⟩ = some (.int .u32 ii) ∧ S < wx.heap.size) (fun _ wx => wx.rangeLeft (w.heap.size + 1) r)
              case atStart => exact ⟨_, _, by rw [sumGone_start hC' hI']; rfl, hrg0, hT0, hB0, hc0, hS0⟩
              case round =>
                obtain ⟨left, cnt, rfl, hrg, hTx, hBx, hcx, hSx⟩ := hrel
                have hsl := sumGone_le T' left
                go_wp2_with (at_next; refine wpList_next_ranges_ii _ rfl _ rfl 29 3 .u32 .i64 law29 Try.underlying29 Try.underlying3 (w.heap.size + 1) r m' _ _ _ rfl hrg ?_ ?_)
                · intro _ hl0
                  have hse := Lib.hid (sumGone_end T' left hl0)
                  clear hl0
                  have hH : HeldS w S m' T' D' wr := ⟨hTx, hrg.owns, hBx, hSx⟩
                  have hwf : (Lit.int .u32 ii).wf = true := by simp [Lit.wf, IntKind.min, IntKind.max, IntKind.signed, IntKind.bits]; omega
                  have hSt : wr.drew.cell? ⟨S, 3, none⟩ = some (.int .u32 ii) ∧ (Instr.lookup 28 (.map (some (w.heap.size + 1))) (.int .u32 ii) false).run Try.prog wr.drew = .ok (.int .i64 (cq (isOf ii) T' 48 : Nat)) wr.drew ∧ HeldS w S m' T' D' wr.drew := ⟨hcx, look_held hH.drew hC' hwf, hH.drew⟩
                  have HSt := Lib.hid hSt
                  clear hSt hH
                  have HC := Lib.hid hC'
                  have Hwf := Lib.hid hwf
                  rw [hse.out]
                  clear hrg hTx hBx hSx hse hsl hC' hwf hrg0 hT0 hB0 hc0 hS0 hcb
                  go_wp2_with fail
                  go_region_held3 (fun w' => w'.cell? ⟨S, 3, none⟩ = some (.int .u32 ii) ∧ (Instr.lookup 28 (.map (some (w.heap.size + 1))) (.int .u32 ii) false).run Try.prog w' = .ok (.int .i64 (cq (isOf ii) T' 48 : Nat)) w' ∧ HeldS w S m' T' D' w')
                    (first | exact hnext | exact HSt.out)
                    (first | (go_at_call 10; refine (opens_held (w := w) (S := S) (m := m') (T := T') (D := D') HSt.out.2.2 HC.out Hwf.out HSt.out.1).mono ?_; rintro e w' ⟨rfl, hnext⟩))
                  all_goals
                    have Hn := Lib.hid hnext
                    clear hnext
                    go_wp2_with fail
                    go_roundw
                    case rel =>
                      obtain ⟨_, _, q1, q2, q3, q4⟩ := Hn.out
                      exact ⟨k + 1, m', T', D', by go_num, by omega, hm', q1, hI', q2, HC.out, q3⟩
                    case measure => simp [intOf]; omega
                · intro x c w1 cnt1 hwx hwc hlx hat hrg1 hlt1 hg1 hs1 hen
                  have hck : c = (cq (isOf x) T' 48 : Nat) := by have := hC' x hwx; rw [hat] at this; simpa using this
                  have hstep := Lib.hid (sumGone_step T' left x hlx)
                  have hsb := sumGone_le T' (fun z => left z && !z.sameKey (.int .u32 x))
                  subst hck
                  have hsb2 : sumGone T' left + cq (isOf x) T' 48 ≤ 48 := by rw [← hstep.out]; exact hsb
                  clear hwx hwc hlx hat hsb
                  have hT1 := hTx.grown hg1 (by simp; omega)
                  have hB1 := hBx.grown hg1 hBx.size (by rintro k ⟨rfl⟩; omega)
                  have hc1 := cell_far hg1 hcx hSx (by simp; omega)
                  have hS1 : S < w1.heap.size := Nat.lt_of_lt_of_le hSx hg1.size
                  clear hg1 hs1
                  go_wp2_with fail
                  go_roundw
                  case rel =>
                    refine ⟨_, cnt1, ?_, hrg1, hT1, hB1, hc1, hS1⟩
                    rw [hstep.out]; go_num
                  case measure => rw [hrg1.left_eq, hrg.left_eq]; exact hlt1
            · have hj3' : j < 3 := by omega
              have hrl := rowOf_length T' 3 j
              have hsum := Lib.hid (lengths_cq T' 3 j (by omega))
              obtain ⟨L, hL⟩ : ∃ L, (rowOf T' 3 j).length = L := ⟨_, rfl⟩
              have Hls := Lib.hid (list_sl w.heap.size j 3 T' wr L hL hTj (by decide))
              rw [hL] at hrl hsum
              clear hj3 hL
              go_wp2_with (go_at_call 7; refine Hls.out.mono ?_; rintro e w5 ⟨ra, rcap, rfl, _, hB5⟩)
              go_roundw
              case rel =>
                refine ⟨j + 1, by omega, by go_num, ?_, hTj.below hB5 hTj.lt, hMj.kept (grown_of_below hB5 none) (by simp), hBj.trans (hB5.mono hBj.size), (hB5.cell (p := ⟨S, 3, none⟩) hSj).trans hcj, Nat.lt_of_lt_of_le hSj hB5.size⟩
                rw [← hsum.out]; go_num
              case measure => simp [intOf]; omega
end Go.Proofs.Ytggpjddomicekaa
