/- link, unlink. -/
import Derived.Test.YtnnidgjfjgkdpaaB
import Derived.Maps.OwnSet
import Derived.DeepKeys4
import Derived.Deep.RegionHeld3
namespace Go.Proofs.Ytnnidgjfjgkdpaa
open Go.RowKit Go.Maps

theorem laidOut : laidOutB Try.prog = true := by kernel_rfl
theorem law48 : Keyed Try.prog 48 := Keyed.of_law (deep_law_laid laidOut (m := 10) (by decide) (of_decide_eq_true (by kernel_rfl)) (by kernel_rfl) (by kernel_rfl))
theorem size_types : Try.prog.types.size = 115 := by kernel_rfl
theorem kt48 : Try.prog.keyType 48 = true := by kernel_rfl
theorem c48 : Try.prog.cellsOf 48 = 2 := by kernel_rfl
theorem c29 : Try.prog.cellsOf 29 = 1 := by kernel_rfl
theorem c9 : Try.prog.cellsOf 9 = 1 := by kernel_rfl
theorem lits48 (k : Nat) (d : Int) (s : ByteArray) (hw : (Lit.int .u32 d).wf = true) (hs : s.size ≤ maxLen) : Try.prog.keyLits (k + 2) 48 [.int .u32 d, .string s] = some [.int .u32 d, .string s.data.toList] := by
  simp [Program.keyLits, Try.underlying48, Try.underlying29, Try.underlying9, c29, c9, c48, hw, hs]
theorem key48 (d : Int) (s : ByteArray) (hd : 0 ≤ d ∧ d ≤ 4294967295) (hs : s.size ≤ maxLen) : keyOf Try.prog 48 (.agg #[.int .u32 d, .string s]) = some (.string (keyBytes [.int .u32 d, .string s.data.toList])) := by
  have hw : (Lit.int .u32 d).wf = true := by simp [Lit.wf, IntKind.min, IntKind.max, IntKind.signed, IntKind.bits]; omega
  have hl := lits48 114 d s hw hs
  unfold keyOf
  rw [Try.underlying48]
  simp only [kt48, Value.formed, Try.underlying48, c48, size_types, Value.cells]
  rw [show (115 + 1 : Nat) = 114 + 2 from rfl]
  simp only [hl]
  rfl

/-- The key of a record's entry. -/
def R.key (r : R) : Lit := .string (keyBytes [.int .u32 r.dir, .string r.name.data.toList])
theorem R.keyOf_ (r : R) (h : r.Ok) : keyOf Try.prog 48 (.agg #[.int .u32 r.dir, .string r.name]) = some r.key := key48 _ _ h.dir (Nat.le_trans h.name (by decide))

theorem zero49 (w : World) : (zeroValue 49).run Try.prog w = .ok (.agg #[]) w := by kernel_rfl
abbrev There (w : World) (M n : Nat) (D : DataW Unit) : Prop := w.ownsMap Try.prog 48 unitElem M n D

theorem map_ne {H : Type} {P : Program} {k : TypeId} {R : Value → Option (DataW H × List MemPlace)} {w : World} {b n : Nat} {D : DataW H} (h : w.ownsMap P k R b n D) {p : Addr} {v : Value} (hc : w.cell? p = some v) : some p.block ≠ some b := by
  rintro ⟨⟩
  obtain ⟨es, clock, hb, _⟩ := h
  simp [World.cell?, hb] at hc
theorem cell_far {w w' : World} {row : Option Nat} (h : w.grownBy w' row) {p : Addr} {v : Value} (hc : w.cell? p = some v) (hne : some p.block ≠ row) : w'.cell? p = some v :=
  (World.cell?_of_block (h.block p.block (World.block_lt_of_cell? w _ hc) hne)).trans hc
theorem grown_drew {w w' : World} {row : Option Nat} (h : w.drew.grownBy w' row) : w.grownBy w' row := ⟨h.os, h.tape, h.output, h.size, h.block⟩

set_option maxRecDepth 100000 in
set_option maxHeartbeats 2000000 in
theorem link_any (L M n : Nat) (r : R) (D : DataW Unit) (w : World) (x : Value) (hx : x = r.val) (hok : r.Ok) (hn : n < maxLen)
    (hl : w.cell? ⟨L, 1, none⟩ = some (.map (some M))) (hM : There w M n D) :
    Calls Try.prog 34 #[.pointer (some ⟨L, 0, none⟩), x] w fun e w' => e = .returned (.bool (!has D r.key)) ∧ There w' M (n + 1) (D.put r.key (.agg [])) ∧ w.grownBy w' (some M) := by
  subst hx
  unfold R.val
  have hLlt := World.block_lt_of_cell? w _ hl
  have hk := r.keyOf_ hok
  have hz := zero49
  go_enter Try.func34, Try.ntmps34
  go_wp2
  have g1 : w.grownBy ((w.alloc (.cells #[.int .u64 r.stamp, .int .u8 r.act, .int .u32 r.dir, .string r.name, .int .u32 r.ino, .int .u8 r.kind, .int .u32 r.dir2, .string r.name2, .int .u32 r.old, .int .u32 r.size, .int .i64 r.page, .string r.data] 31)).alloc (.cells #[.int .u32 r.dir, .string r.name] 48)) none := (World.grownBy_alloc _ _ _).trans (World.grownBy_alloc _ _ _)
  have e0 : ((w.alloc (.cells #[.int .u64 r.stamp, .int .u8 r.act, .int .u32 r.dir, .string r.name, .int .u32 r.ino, .int .u8 r.kind, .int .u32 r.dir2, .string r.name2, .int .u32 r.old, .int .u32 r.size, .int .i64 r.page, .string r.data] 31)).alloc (.cells #[.int .u32 r.dir, .string r.name] 48)).cell? ⟨w.heap.size + 1, 0, none⟩ = some (.int .u32 r.dir) := by simp [go_sem]
  have e1 : ((w.alloc (.cells #[.int .u64 r.stamp, .int .u8 r.act, .int .u32 r.dir, .string r.name, .int .u32 r.ino, .int .u8 r.kind, .int .u32 r.dir2, .string r.name2, .int .u32 r.old, .int .u32 r.size, .int .i64 r.page, .string r.data] 31)).alloc (.cells #[.int .u32 r.dir, .string r.name] 48)).cell? ⟨w.heap.size + 1, 1, none⟩ = some (.string r.name) := by simp [go_sem]
  have hz1 : ((w.alloc (.cells #[.int .u64 r.stamp, .int .u8 r.act, .int .u32 r.dir, .string r.name, .int .u32 r.ino, .int .u8 r.kind, .int .u32 r.dir2, .string r.name2, .int .u32 r.old, .int .u32 r.size, .int .i64 r.page, .string r.data] 31)).alloc (.cells #[.int .u32 r.dir, .string r.name] 48)).heap.size = w.heap.size + 2 := by simp
  generalize (w.alloc (.cells #[.int .u64 r.stamp, .int .u8 r.act, .int .u32 r.dir, .string r.name, .int .u32 r.ino, .int .u8 r.kind, .int .u32 r.dir2, .string r.name2, .int .u32 r.old, .int .u32 r.size, .int .i64 r.page, .string r.data] 31)).alloc (.cells #[.int .u32 r.dir, .string r.name] 48) = W at *
  have hlW : W.cell? ⟨L, 1, none⟩ = some (.map (some M)) := (World.cell?_of_block (g1.block L hLlt (by simp))).trans hl
  have hMW : There W M n D := hM.kept g1 (by simp)
  have hall : ∀ W' : World, There W' M n D → (Instr.lookup 50 (.map (some M)) (.agg #[.int .u32 r.dir, .string r.name]) true).run Try.prog W' = .ok (.tuple #[.agg #[], .bool (has D r.key)]) W' := fun W' hW' => by
    obtain ⟨v1, ps1, hlook, hv1⟩ := World.ownsMap.look_ok hW' law48 Try.underlying50 (zero49 _) unitElem_mk hk
    obtain ⟨rfl, _⟩ := unitElem_inv hv1
    exact hlook
  have HA := Lib.hid hall
  have HM := Lib.hid hMW
  have hLW : L < W.heap.size := by omega
  have Hk := Lib.hid hk
  have G1 := Lib.hid g1
  clear hk hz g1 hall hMW hM
  go_region_held3 (fun w' => w'.cell? ⟨L, 1, none⟩ = some (.map (some M)) ∧ w'.cell? ⟨w.heap.size + 1, 0, none⟩ = some (.int .u32 r.dir) ∧ w'.cell? ⟨w.heap.size + 1, 1, none⟩ = some (.string r.name) ∧ (Instr.lookup 50 (.map (some M)) (.agg #[.int .u32 r.dir, .string r.name]) true).run Try.prog w' = .ok (.tuple #[.agg #[], .bool (has D r.key)]) w')
    (first | exact ⟨hlW, e0, e1, HA.out _ HM.out⟩ | exact ⟨(World.cell?_alloc_lt W _ _ hLW).trans hlW, (World.cell?_alloc_lt W _ _ (by simp; omega)).trans e0, (World.cell?_alloc_lt W _ _ (by simp; omega)).trans e1, HA.out _ (HM.out.alloc _)⟩) (fail)
  all_goals
    have f1 : (W.alloc (.cells #[] 49)).drew.cell? ⟨L, 1, none⟩ = some (.map (some M)) := (World.cell?_alloc_lt W _ _ hLW).trans hlW
    have f2 : (W.alloc (.cells #[] 49)).drew.cell? ⟨w.heap.size + 1, 0, none⟩ = some (.int .u32 r.dir) := (World.cell?_alloc_lt W _ _ (by simp; omega)).trans e0
    have f3 : (W.alloc (.cells #[] 49)).drew.cell? ⟨w.heap.size + 1, 1, none⟩ = some (.string r.name) := (World.cell?_alloc_lt W _ _ (by simp; omega)).trans e1
    have hg2 : w.grownBy (W.alloc (.cells #[] 49)).drew none := by
      have := G1.out.trans (World.grownBy_alloc W (.cells #[] 49) none)
      exact ⟨this.os, this.tape, this.output, this.size, this.block⟩
    have hM2 : There (W.alloc (.cells #[] 49)).drew M n D := (HM.out.alloc _)
    have G2 := Lib.hid hg2
    have HM2 := Lib.hid hM2
    clear hg2 hM2 e0 e1 hlW hz1 hLW
    generalize (W.alloc (.cells #[] 49)).drew = W2 at *
    obtain ⟨w3, hrun, hM3, hg3⟩ := World.ownsMap.update (w := W2.drew) HM2.out law48 Try.underlying50 hn Hk.out (unitElem_mk)
    have k1 := cell_far (grown_drew hg3) f1 (map_ne HM2.out f1)
    have k2 := cell_far (grown_drew hg3) f2 (map_ne HM2.out f2)
    have k3 := cell_far (grown_drew hg3) f3 (map_ne HM2.out f3)
    have Hg3 := Lib.hid (grown_drew hg3)
    have HM3 := Lib.hid hM3
    clear hg3 hM3
    go_wp2
    go_region_held3 (fun w' => w'.cell? ⟨L, 1, none⟩ = some (.map (some M)) ∧ w'.cell? ⟨w.heap.size + 1, 0, none⟩ = some (.int .u32 r.dir) ∧ w'.cell? ⟨w.heap.size + 1, 1, none⟩ = some (.string r.name)) (first | exact ⟨f1, f2, f3⟩ | exact ⟨k1, k2, k3⟩) (fail)
    go_wp2
    go_ret
    refine ⟨rfl, HM3.out, ?_⟩
    have := G2.out
    exact ⟨Hg3.out.os.trans this.os, Hg3.out.tape.trans this.tape, Hg3.out.output.trans this.output, Nat.le_trans this.size Hg3.out.size, fun k hk hne => (Hg3.out.block k (Nat.lt_of_lt_of_le hk this.size) hne).trans (this.block k hk (by simp))⟩
set_option maxRecDepth 100000 in
set_option maxHeartbeats 2000000 in
theorem unlink_any (L M n : Nat) (r : R) (D : DataW Unit) (w : World) (x : Value) (hx : x = r.val) (hok : r.Ok) 
    (hl : w.cell? ⟨L, 1, none⟩ = some (.map (some M))) (hM : There w M n D) :
    Calls Try.prog 35 #[.pointer (some ⟨L, 0, none⟩), x] w fun e w' => e = .returned (.bool (has D r.key)) ∧ There w' M n (D.del r.key) ∧ w.grownBy w' (some M) := by
  subst hx
  unfold R.val
  have hLlt := World.block_lt_of_cell? w _ hl
  have hk := r.keyOf_ hok
  have hz := zero49
  go_enter Try.func35, Try.ntmps35
  go_wp2
  have g1 : w.grownBy ((w.alloc (.cells #[.int .u64 r.stamp, .int .u8 r.act, .int .u32 r.dir, .string r.name, .int .u32 r.ino, .int .u8 r.kind, .int .u32 r.dir2, .string r.name2, .int .u32 r.old, .int .u32 r.size, .int .i64 r.page, .string r.data] 31)).alloc (.cells #[.int .u32 r.dir, .string r.name] 48)) none := (World.grownBy_alloc _ _ _).trans (World.grownBy_alloc _ _ _)
  have e0 : ((w.alloc (.cells #[.int .u64 r.stamp, .int .u8 r.act, .int .u32 r.dir, .string r.name, .int .u32 r.ino, .int .u8 r.kind, .int .u32 r.dir2, .string r.name2, .int .u32 r.old, .int .u32 r.size, .int .i64 r.page, .string r.data] 31)).alloc (.cells #[.int .u32 r.dir, .string r.name] 48)).cell? ⟨w.heap.size + 1, 0, none⟩ = some (.int .u32 r.dir) := by simp [go_sem]
  have e1 : ((w.alloc (.cells #[.int .u64 r.stamp, .int .u8 r.act, .int .u32 r.dir, .string r.name, .int .u32 r.ino, .int .u8 r.kind, .int .u32 r.dir2, .string r.name2, .int .u32 r.old, .int .u32 r.size, .int .i64 r.page, .string r.data] 31)).alloc (.cells #[.int .u32 r.dir, .string r.name] 48)).cell? ⟨w.heap.size + 1, 1, none⟩ = some (.string r.name) := by simp [go_sem]
  have hz1 : ((w.alloc (.cells #[.int .u64 r.stamp, .int .u8 r.act, .int .u32 r.dir, .string r.name, .int .u32 r.ino, .int .u8 r.kind, .int .u32 r.dir2, .string r.name2, .int .u32 r.old, .int .u32 r.size, .int .i64 r.page, .string r.data] 31)).alloc (.cells #[.int .u32 r.dir, .string r.name] 48)).heap.size = w.heap.size + 2 := by simp
  generalize (w.alloc (.cells #[.int .u64 r.stamp, .int .u8 r.act, .int .u32 r.dir, .string r.name, .int .u32 r.ino, .int .u8 r.kind, .int .u32 r.dir2, .string r.name2, .int .u32 r.old, .int .u32 r.size, .int .i64 r.page, .string r.data] 31)).alloc (.cells #[.int .u32 r.dir, .string r.name] 48) = W at *
  have hlW : W.cell? ⟨L, 1, none⟩ = some (.map (some M)) := (World.cell?_of_block (g1.block L hLlt (by simp))).trans hl
  have hMW : There W M n D := hM.kept g1 (by simp)
  have hall : ∀ W' : World, There W' M n D → (Instr.lookup 50 (.map (some M)) (.agg #[.int .u32 r.dir, .string r.name]) true).run Try.prog W' = .ok (.tuple #[.agg #[], .bool (has D r.key)]) W' := fun W' hW' => by
    obtain ⟨v1, ps1, hlook, hv1⟩ := World.ownsMap.look_ok hW' law48 Try.underlying50 (zero49 _) unitElem_mk hk
    obtain ⟨rfl, _⟩ := unitElem_inv hv1
    exact hlook
  have HA := Lib.hid hall
  have HM := Lib.hid hMW
  have hLW : L < W.heap.size := by omega
  have Hk := Lib.hid hk
  have G1 := Lib.hid g1
  clear hk hz g1 hall hMW hM
  go_region_held3 (fun w' => w'.cell? ⟨L, 1, none⟩ = some (.map (some M)) ∧ w'.cell? ⟨w.heap.size + 1, 0, none⟩ = some (.int .u32 r.dir) ∧ w'.cell? ⟨w.heap.size + 1, 1, none⟩ = some (.string r.name) ∧ (Instr.lookup 50 (.map (some M)) (.agg #[.int .u32 r.dir, .string r.name]) true).run Try.prog w' = .ok (.tuple #[.agg #[], .bool (has D r.key)]) w')
    (first | exact ⟨hlW, e0, e1, HA.out _ HM.out⟩ | exact ⟨(World.cell?_alloc_lt W _ _ hLW).trans hlW, (World.cell?_alloc_lt W _ _ (by simp; omega)).trans e0, (World.cell?_alloc_lt W _ _ (by simp; omega)).trans e1, HA.out _ (HM.out.alloc _)⟩) (fail)
  all_goals
    have f1 : (W.alloc (.cells #[] 49)).drew.cell? ⟨L, 1, none⟩ = some (.map (some M)) := (World.cell?_alloc_lt W _ _ hLW).trans hlW
    have f2 : (W.alloc (.cells #[] 49)).drew.cell? ⟨w.heap.size + 1, 0, none⟩ = some (.int .u32 r.dir) := (World.cell?_alloc_lt W _ _ (by simp; omega)).trans e0
    have f3 : (W.alloc (.cells #[] 49)).drew.cell? ⟨w.heap.size + 1, 1, none⟩ = some (.string r.name) := (World.cell?_alloc_lt W _ _ (by simp; omega)).trans e1
    have hg2 : w.grownBy (W.alloc (.cells #[] 49)).drew none := by
      have := G1.out.trans (World.grownBy_alloc W (.cells #[] 49) none)
      exact ⟨this.os, this.tape, this.output, this.size, this.block⟩
    have hM2 : There (W.alloc (.cells #[] 49)).drew M n D := (HM.out.alloc _)
    have G2 := Lib.hid hg2
    have HM2 := Lib.hid hM2
    clear hg2 hM2 e0 e1 hlW hz1 hLW
    generalize (W.alloc (.cells #[] 49)).drew = W2 at *
    obtain ⟨w3, hrun, hM3, ht3⟩ := World.ownsMap.drop (w := W2.drew) HM2.out law48 Try.underlying50 Hk.out 0
    have hg3 := ht3.grown
    have k1 := cell_far (grown_drew hg3) f1 (map_ne HM2.out f1)
    have k2 := cell_far (grown_drew hg3) f2 (map_ne HM2.out f2)
    have k3 := cell_far (grown_drew hg3) f3 (map_ne HM2.out f3)
    have Hg3 := Lib.hid (grown_drew hg3)
    have HM3 := Lib.hid hM3
    clear hg3 hM3
    go_wp2
    go_region_held3 (fun w' => w'.cell? ⟨L, 1, none⟩ = some (.map (some M)) ∧ w'.cell? ⟨w.heap.size + 1, 0, none⟩ = some (.int .u32 r.dir) ∧ w'.cell? ⟨w.heap.size + 1, 1, none⟩ = some (.string r.name)) (first | exact ⟨f1, f2, f3⟩ | exact ⟨k1, k2, k3⟩) (fail)
    go_wp2
    go_ret
    refine ⟨rfl, HM3.out, ?_⟩
    have := G2.out
    exact ⟨Hg3.out.os.trans this.os, Hg3.out.tape.trans this.tape, Hg3.out.output.trans this.output, Nat.le_trans this.size Hg3.out.size, fun k hk hne => (Hg3.out.block k (Nat.lt_of_lt_of_le hk this.size) hne).trans (this.block k hk (by simp))⟩
end Go.Proofs.Ytnnidgjfjgkdpaa
