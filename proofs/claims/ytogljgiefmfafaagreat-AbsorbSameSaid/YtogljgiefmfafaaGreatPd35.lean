/- Records in memory, as absorb reads them. -/
import Derived.Test.YtogljgiefmfafaaGreatRows
import Derived.WalkKit
import Derived.WalkSpells
import Derived.WalkLawsBesides
import Derived.Lib.Hide
import Derived.Deep.Draws
import Derived.LoopTactic
import Derived.BigQuiet
import Derived.Deep.MidRow
import Derived.RangeFuncNested
import Derived.RangeFuncLeaves
import Derived.Shelf.Abstract
import Derived.Shelf.RegionOpen
import Derived.OwnWalkIn
import Derived.TacticsInMore
import Derived.LoopNIn
import Derived.LoopIn
import Derived.Maps.AppendAt
import Derived.Maps.OwnSet
import Derived.DeepKeys4
import Derived.Deep.RegionHeld3
namespace Go.Proofs.YtogljgiefmfafaaGreat.A
open Go.RowKit
structure R where
 stamp : Int
 act : Int
 dir : Int
 name : ByteArray
 ino : Int
 kind : Int
 dir2 : Int
 name2 : ByteArray
 old : Int
 size : Int
 page : Int
 data : ByteArray
def R.cells (r : R) : List Value := [.int .u64 r.stamp, .int .u8 r.act, .int .u32 r.dir, .string r.name, .int .u32 r.ino, .int .u8 r.kind, .int .u32 r.dir2, .string r.name2, .int .u32 r.old, .int .u32 r.size, .int .i64 r.page, .string r.data]
def R.val (r : R) : Value := .agg #[.int .u64 r.stamp, .int .u8 r.act, .int .u32 r.dir, .string r.name, .int .u32 r.ino, .int .u8 r.kind, .int .u32 r.dir2, .string r.name2, .int .u32 r.old, .int .u32 r.size, .int .i64 r.page, .string r.data]
structure R.Ok (r : R) : Prop where
 dir : 0 ≤ r.dir ∧ r.dir ≤ 4294967295
 name : r.name.size ≤ 140737488355328
 name2 : r.name2.size ≤ 140737488355328
 data : r.data.size ≤ 140737488355328
 ino : 0 ≤ r.ino ∧ r.ino ≤ 4294967295
 act : 0 ≤ r.act ∧ r.act ≤ 255
structure RecAt (w : World) (b o : Nat) (r : R) : Prop where
 c0 : w.cell? ⟨b, o, none⟩ = some (.int .u64 r.stamp)
 c1 : w.cell? ⟨b, o + 1, none⟩ = some (.int .u8 r.act)
 c2 : w.cell? ⟨b, o + 2, none⟩ = some (.int .u32 r.dir)
 c3 : w.cell? ⟨b, o + 3, none⟩ = some (.string r.name)
 c4 : w.cell? ⟨b, o + 4, none⟩ = some (.int .u32 r.ino)
 c5 : w.cell? ⟨b, o + 5, none⟩ = some (.int .u8 r.kind)
 c6 : w.cell? ⟨b, o + 6, none⟩ = some (.int .u32 r.dir2)
 c7 : w.cell? ⟨b, o + 7, none⟩ = some (.string r.name2)
 c8 : w.cell? ⟨b, o + 8, none⟩ = some (.int .u32 r.old)
 c9 : w.cell? ⟨b, o + 9, none⟩ = some (.int .u32 r.size)
 c10 : w.cell? ⟨b, o + 10, none⟩ = some (.int .i64 r.page)
 c11 : w.cell? ⟨b, o + 11, none⟩ = some (.string r.data)
theorem RecAt.of_same {w w' : World} {b o : Nat} {r : R} (h : RecAt w b o r) (hs : ∀ i, w'.cell? ⟨b, i, none⟩ = w.cell? ⟨b, i, none⟩) : RecAt w' b o r :=
 ⟨(hs _).trans h.c0, (hs _).trans h.c1, (hs _).trans h.c2, (hs _).trans h.c3, (hs _).trans h.c4, (hs _).trans h.c5, (hs _).trans h.c6, (hs _).trans h.c7, (hs _).trans h.c8, (hs _).trans h.c9, (hs _).trans h.c10, (hs _).trans h.c11⟩
structure Recs (w : World) (B : Nat) (A : Option Addr) (n : Nat) (rs : List R) : Prop where
 len : rs.length = n
 at_ : 0 < n → ∃ b o, A = some ⟨b, o, none⟩ ∧ b < B ∧ ∀ k r, rs[k]? = some r → RecAt w b (o + k * 12) r
 ok : ∀ r ∈ rs, r.Ok
theorem Recs.get {w : World} {B : Nat} {A : Option Addr} {n : Nat} {rs : List R} (h : Recs w B A n rs) {k : Nat} (hk : k < n) : ∃ b o r, A = some ⟨b, o, none⟩ ∧ b < B ∧ rs[k]? = some r ∧ RecAt w b (o + k * 12) r ∧ r.Ok := by
 obtain ⟨b, o, hA, hb, hr⟩ := h.at_ (by omega)
 have hl : k < rs.length := by rw [h.len]; exact hk
 exact ⟨b, o, rs[k], hA, hb, List.getElem?_eq_getElem hl, hr k _ (List.getElem?_eq_getElem hl), h.ok _ (List.getElem_mem hl)⟩
theorem Recs.keep {w w' : World} {B B' : Nat} {A : Option Addr} {n : Nat} {rs : List R} (h : Recs w B A n rs) (hB : B ≤ B') (hk : ∀ p : Addr, p.block < B → w'.cell? p = w.cell? p) : Recs w' B' A n rs :=
 ⟨h.len, fun hn => by
  obtain ⟨b, o, hA, hb, hr⟩ := h.at_ hn
  exact ⟨b, o, hA, by omega, fun k r e => (hr k r e).of_same fun i => hk _ hb⟩, h.ok⟩
theorem Recs.below {w w' : World} {B B' C : Nat} {A : Option Addr} {n : Nat} {rs : List R} (h : Recs w B A n rs) (hb : Below C w w') (hC : B ≤ C) (hB : B ≤ B') : Recs w' B' A n rs :=
 h.keep hB fun _ hp => hb.cell (Nat.lt_of_lt_of_le hp hC)
def letters : List R → Nat → Nat
 | _, 0 => 0
 | [], _ + 1 => 0
 | r :: rs, k + 1 => r.name.size + r.name2.size + r.data.size + letters rs k
theorem letters_snoc : ∀ (rs : List R) (k : Nat) (r : R), rs[k]? = some r → letters rs (k + 1) = letters rs k + (r.name.size + r.name2.size + r.data.size)
 | [], k, r, h => by simp at h
 | x :: rs, 0, r, h => by simp at h; subst h; simp [letters]
 | x :: rs, k + 1, r, h => by
  have := letters_snoc rs k r (by simpa using h)
  show _ + letters rs (k + 1) = _ + letters rs k + _
  omega
theorem letters_le {rs : List R} (h : ∀ r ∈ rs, r.Ok) : ∀ k, letters rs k ≤ k * 422212465065984 := by
 induction rs with
 | nil => intro k; cases k <;> simp [letters]
 | cons r rs ih =>
  intro k
  cases k with
  | zero => simp [letters]
  | succ k =>
   have h1 := ih (fun r hr => h r (List.mem_cons_of_mem _ hr)) k
   obtain ⟨_, h2, h3, h4, _⟩ := h r (List.mem_cons_self ..)
   show _ + letters rs k ≤ _
   omega
def longB (rs : List R) : Bool := decide (60 < rs.length) || decide (8192 < letters rs (min rs.length 100))
set_option maxHeartbeats 1000000 in
theorem long_any (A : Option Addr) (n c B : Nat) (rs : List R) (w : World) (h : Recs w B A n rs) (hn : n ≤ maxLen) :
  Calls Tryz.prog 7 #[.slice A n c] w fun e w' => e = .returned (.bool (longB rs)) ∧ ∃ k, w.drewN k = w' := by
 unfold maxLen at hn
 have hl := letters_le h.ok
 have HL := Lib.hid hl
 clear hl
 go_enter Tryz.func7, Tryz.ntmps7
 go_wp2
 go_loopw [3, 4] (fun t i wr => ∃ k q : Nat, k ≤ min n 100 ∧ i = .int .i64 k ∧ t = .int .i64 (letters rs k : Nat) ∧ w.drewN q = wr) (fun _ i _ => 101 - (intOf i).toNat)
 case atStart => exact ⟨0, 0, Nat.zero_le _, rfl, by cases rs <;> rfl, rfl⟩
 case round =>
  obtain ⟨k, q, hk, rfl, rfl, rfl⟩ := hrel
  have hb := HL.out k
  by_cases he : k = min n 100
  · have hfin : longB rs = (decide (60 < n) || decide (8192 < letters rs k)) := by unfold longB; rw [h.len, he]
    have hf := Lib.hid hfin
    have hq1 : ∃ q', w.drewN q' = w.drewN q := ⟨q, rfl⟩
    have hq := Lib.hid hq1
    clear hfin hq1
    have h1 : ¬ ((k : Int) < n ∧ (k : Int) < 100) := by omega
    by_cases hkn : (k : Int) < n
    · have h2 : ¬ (k : Int) < 100 := fun hh => h1 ⟨hkn, hh⟩
      have h60 : (60 : Int) < n := by omega
      clear h1 he
      go_wp2
      go_ret
      exact ⟨by rw [hf.out]; simp; omega, hq.out⟩
    · clear h1 he
      by_cases h60 : (60 : Int) < n
      · go_wp2
        go_ret
        exact ⟨by rw [hf.out]; simp; omega, hq.out⟩
      · by_cases h8 : (8192 : Int) < (letters rs k : Nat)
        · go_wp2
          go_ret
          exact ⟨by rw [hf.out]; simp; omega, hq.out⟩
        · go_wp2
          go_ret
          exact ⟨by rw [hf.out]; simp; omega, hq.out⟩
  · have hk1 : k < n := by omega
    have hk2 : k < 100 := by omega
    obtain ⟨b, o, r, rfl, _, hr, hat, hok⟩ := h.get hk1
    have hs := Lib.hid (letters_snoc rs k r hr)
    have c3 := hat.c3
    have c7 := hat.c7
    have c11 := hat.c11
    obtain ⟨_, z1, z2, z3, _⟩ := hok
    go_wp2
    go_quiet (fail)
    go_wp2
    go_roundw
    case rel => exact ⟨k + 1, _, by omega, by go_num, by rw [hs.out]; go_num, rfl⟩
    case measure => simp [intOf]; omega
end Go.Proofs.YtogljgiefmfafaaGreat.A

namespace Go.Proofs.YtogljgiefmfafaaGreat.A
open Go.RowKit
theorem keep_any (v x : Value) (w : World) (r : R) (hx : x = r.val) : Calls Tryz.prog 137 #[v, x] w fun e w' => e = .returned (.bool true) ∧ Below w.heap.size w w' := by
 subst hx
 unfold R.val
 go_enter Tryz.func137, Tryz.ntmps137
 go_wp2
 go_ret
 exact ⟨rfl, (Below.refl _ _).alloc (Nat.le_refl _) _⟩
end Go.Proofs.YtogljgiefmfafaaGreat.A

namespace Go.Proofs.YtogljgiefmfafaaGreat.A
open Go.RowKit Go.Maps
theorem laidOut : laidOutB Tryz.prog = true := by kernel_rfl
theorem law48 : Keyed Tryz.prog 130 := Keyed.of_law (deep_law_laid laidOut (m := 10) (by decide) (of_decide_eq_true (by kernel_rfl)) (by kernel_rfl) (by kernel_rfl))
theorem size_types : Tryz.prog.types.size = 297 := by kernel_rfl
theorem kt48 : Tryz.prog.keyType 130 = true := by kernel_rfl
theorem c48 : Tryz.prog.cellsOf 130 = 2 := by kernel_rfl
theorem c29 : Tryz.prog.cellsOf 37 = 1 := by kernel_rfl
theorem c9 : Tryz.prog.cellsOf 9 = 1 := by kernel_rfl
theorem lits48 (k : Nat) (d : Int) (s : ByteArray) (hw : (Lit.int .u32 d).wf = true) (hs : s.size ≤ maxLen) : Tryz.prog.keyLits (k + 2) 130 [.int .u32 d, .string s] = some [.int .u32 d, .string s.data.toList] := by
 simp [Program.keyLits, Tryz.underlying130, Tryz.underlying37, Tryz.underlying9, c29, c9, c48, hw, hs]
theorem key48 (d : Int) (s : ByteArray) (hd : 0 ≤ d ∧ d ≤ 4294967295) (hs : s.size ≤ maxLen) : keyOf Tryz.prog 130 (.agg #[.int .u32 d, .string s]) = some (.string (keyBytes [.int .u32 d, .string s.data.toList])) := by
 have hw : (Lit.int .u32 d).wf = true := by simp [Lit.wf, IntKind.min, IntKind.max, IntKind.signed, IntKind.bits]; omega
 have hl := lits48 296 d s hw hs
 unfold keyOf
 rw [Tryz.underlying130]
 simp only [kt48, Value.formed, Tryz.underlying130, c48, size_types, Value.cells]
 rw [show (297 + 1 : Nat) = 296 + 2 from rfl]
 simp only [hl]
 rfl
def R.key (r : R) : Lit := .string (keyBytes [.int .u32 r.dir, .string r.name.data.toList])
theorem R.keyOf_ (r : R) (h : r.Ok) : keyOf Tryz.prog 130 (.agg #[.int .u32 r.dir, .string r.name]) = some r.key := key48 _ _ h.dir (Nat.le_trans h.name (by decide))
theorem zero49 (w : World) : (zeroValue 131).run Tryz.prog w = .ok (.agg #[]) w := by kernel_rfl
abbrev There (w : World) (M n : Nat) (D : DataW Unit) : Prop := w.ownsMap Tryz.prog 130 unitElem M n D
theorem map_ne {H : Type} {P : Program} {k : TypeId} {R : Value → Option (DataW H × List MemPlace)} {w : World} {b n : Nat} {D : DataW H} (h : w.ownsMap P k R b n D) {p : Addr} {v : Value} (hc : w.cell? p = some v) : some p.block ≠ some b := by
 rintro ⟨⟩
 obtain ⟨es, clock, hb, _⟩ := h
 simp [World.cell?, hb] at hc
theorem cell_far {w w' : World} {row : Option Nat} (h : w.grownBy w' row) {p : Addr} {v : Value} (hc : w.cell? p = some v) (hne : some p.block ≠ row) : w'.cell? p = some v :=
 (World.cell?_of_block (h.block p.block (World.block_lt_of_cell? w _ hc) hne)).trans hc
theorem grown_drew {w w' : World} {row : Option Nat} (h : w.drew.grownBy w' row) : w.grownBy w' row := ⟨h.os, h.tape, h.output, h.size, h.block⟩
set_option maxRecDepth 100000 in
set_option maxHeartbeats 2000000 in
theorem link_any (L M n : Nat) (r : R) (D : DataW Unit) (w : World) (x : Value) (hx : x = r.val) (hok : r.Ok) (hn : n < maxLen)
  (hl : w.cell? ⟨L, 1, none⟩ = some (.map (some M))) (hM : There w M n D) :
  Calls Tryz.prog 135 #[.pointer (some ⟨L, 0, none⟩), x] w fun e w' => e = .returned (.bool (!has D r.key)) ∧ There w' M (n + 1) (D.put r.key (.agg [])) ∧ w.grownBy w' (some M) := by
 subst hx
 unfold R.val
 have hLlt := World.block_lt_of_cell? w _ hl
 have hk := r.keyOf_ hok
 have hz := zero49
 go_enter Tryz.func135, Tryz.ntmps135
 go_wp2
 have g1 : w.grownBy ((w.alloc (.cells #[.int .u64 r.stamp, .int .u8 r.act, .int .u32 r.dir, .string r.name, .int .u32 r.ino, .int .u8 r.kind, .int .u32 r.dir2, .string r.name2, .int .u32 r.old, .int .u32 r.size, .int .i64 r.page, .string r.data] 50)).alloc (.cells #[.int .u32 r.dir, .string r.name] 130)) none := (World.grownBy_alloc _ _ _).trans (World.grownBy_alloc _ _ _)
 have e0 : ((w.alloc (.cells #[.int .u64 r.stamp, .int .u8 r.act, .int .u32 r.dir, .string r.name, .int .u32 r.ino, .int .u8 r.kind, .int .u32 r.dir2, .string r.name2, .int .u32 r.old, .int .u32 r.size, .int .i64 r.page, .string r.data] 50)).alloc (.cells #[.int .u32 r.dir, .string r.name] 130)).cell? ⟨w.heap.size + 1, 0, none⟩ = some (.int .u32 r.dir) := by simp [go_sem]
 have e1 : ((w.alloc (.cells #[.int .u64 r.stamp, .int .u8 r.act, .int .u32 r.dir, .string r.name, .int .u32 r.ino, .int .u8 r.kind, .int .u32 r.dir2, .string r.name2, .int .u32 r.old, .int .u32 r.size, .int .i64 r.page, .string r.data] 50)).alloc (.cells #[.int .u32 r.dir, .string r.name] 130)).cell? ⟨w.heap.size + 1, 1, none⟩ = some (.string r.name) := by simp [go_sem]
 have hz1 : ((w.alloc (.cells #[.int .u64 r.stamp, .int .u8 r.act, .int .u32 r.dir, .string r.name, .int .u32 r.ino, .int .u8 r.kind, .int .u32 r.dir2, .string r.name2, .int .u32 r.old, .int .u32 r.size, .int .i64 r.page, .string r.data] 50)).alloc (.cells #[.int .u32 r.dir, .string r.name] 130)).heap.size = w.heap.size + 2 := by simp
 generalize (w.alloc (.cells #[.int .u64 r.stamp, .int .u8 r.act, .int .u32 r.dir, .string r.name, .int .u32 r.ino, .int .u8 r.kind, .int .u32 r.dir2, .string r.name2, .int .u32 r.old, .int .u32 r.size, .int .i64 r.page, .string r.data] 50)).alloc (.cells #[.int .u32 r.dir, .string r.name] 130) = W at *
 have hlW : W.cell? ⟨L, 1, none⟩ = some (.map (some M)) := (World.cell?_of_block (g1.block L hLlt (by simp))).trans hl
 have hMW : There W M n D := hM.kept g1 (by simp)
 have hall : ∀ W' : World, There W' M n D → (Instr.lookup 132 (.map (some M)) (.agg #[.int .u32 r.dir, .string r.name]) true).run Tryz.prog W' = .ok (.tuple #[.agg #[], .bool (has D r.key)]) W' := fun W' hW' => by
  obtain ⟨v1, ps1, hlook, hv1⟩ := World.ownsMap.look_ok hW' law48 Tryz.underlying132 (zero49 _) unitElem_mk hk
  obtain ⟨rfl, _⟩ := unitElem_inv hv1
  exact hlook
 have HA := Lib.hid hall
 have HM := Lib.hid hMW
 have hLW : L < W.heap.size := by omega
 have Hk := Lib.hid hk
 have G1 := Lib.hid g1
 clear hk hz g1 hall hMW hM
 go_region_held3 (fun w' => w'.cell? ⟨L, 1, none⟩ = some (.map (some M)) ∧ w'.cell? ⟨w.heap.size + 1, 0, none⟩ = some (.int .u32 r.dir) ∧ w'.cell? ⟨w.heap.size + 1, 1, none⟩ = some (.string r.name) ∧ (Instr.lookup 132 (.map (some M)) (.agg #[.int .u32 r.dir, .string r.name]) true).run Tryz.prog w' = .ok (.tuple #[.agg #[], .bool (has D r.key)]) w')
  (first | exact ⟨hlW, e0, e1, HA.out _ HM.out⟩ | exact ⟨(World.cell?_alloc_lt W _ _ hLW).trans hlW, (World.cell?_alloc_lt W _ _ (by simp; omega)).trans e0, (World.cell?_alloc_lt W _ _ (by simp; omega)).trans e1, HA.out _ (HM.out.alloc _)⟩) (fail)
 all_goals
  have f1 : (W.alloc (.cells #[] 131)).drew.cell? ⟨L, 1, none⟩ = some (.map (some M)) := (World.cell?_alloc_lt W _ _ hLW).trans hlW
  have f2 : (W.alloc (.cells #[] 131)).drew.cell? ⟨w.heap.size + 1, 0, none⟩ = some (.int .u32 r.dir) := (World.cell?_alloc_lt W _ _ (by simp; omega)).trans e0
  have f3 : (W.alloc (.cells #[] 131)).drew.cell? ⟨w.heap.size + 1, 1, none⟩ = some (.string r.name) := (World.cell?_alloc_lt W _ _ (by simp; omega)).trans e1
  have hg2 : w.grownBy (W.alloc (.cells #[] 131)).drew none := by
   have := G1.out.trans (World.grownBy_alloc W (.cells #[] 131) none)
   exact ⟨this.os, this.tape, this.output, this.size, this.block⟩
  have hM2 : There (W.alloc (.cells #[] 131)).drew M n D := (HM.out.alloc _)
  have G2 := Lib.hid hg2
  have HM2 := Lib.hid hM2
  clear hg2 hM2 e0 e1 hlW hz1 hLW
  generalize (W.alloc (.cells #[] 131)).drew = W2 at *
  obtain ⟨w3, hrun, hM3, hg3⟩ := World.ownsMap.update (w := W2.drew) HM2.out law48 Tryz.underlying132 hn Hk.out (unitElem_mk)
  have k1 := cell_far (grown_drew hg3) f1 (map_ne HM2.out f1)
  have k2 := cell_far (grown_drew hg3) f2 (map_ne HM2.out f2)
  have k3 := cell_far (grown_drew hg3) f3 (map_ne HM2.out f3)
  have Hg3 := Lib.hid (grown_drew hg3)
  have HM3 := Lib.hid hM3
  clear hg3 hM3
  go_wp2
  go_region_held3 (fun w' => w'.cell? ⟨L, 1, none⟩ = some (.map (some M)) ∧ w'.cell? ⟨w.heap.size + 1, 0, none⟩ = some (.int .u32 r.dir) ∧ w'.cell? ⟨w.heap.size + 1, 1, none⟩ = some (.string r.name)) (first | exact ⟨f1, f2, f3⟩ | exact ⟨k1, k2, k3⟩) (fail)
  go_wp2
  go_ret
  refine ⟨rfl, HM3.out, ?_⟩
  have := G2.out
  exact ⟨Hg3.out.os.trans this.os, Hg3.out.tape.trans this.tape, Hg3.out.output.trans this.output, Nat.le_trans this.size Hg3.out.size, fun k hk hne => (Hg3.out.block k (Nat.lt_of_lt_of_le hk this.size) hne).trans (this.block k hk (by simp))⟩
set_option maxRecDepth 100000 in
set_option maxHeartbeats 2000000 in
theorem unlink_any (L M n : Nat) (r : R) (D : DataW Unit) (w : World) (x : Value) (hx : x = r.val) (hok : r.Ok) 
  (hl : w.cell? ⟨L, 1, none⟩ = some (.map (some M))) (hM : There w M n D) :
  Calls Tryz.prog 136 #[.pointer (some ⟨L, 0, none⟩), x] w fun e w' => e = .returned (.bool (has D r.key)) ∧ There w' M n (D.del r.key) ∧ w.grownBy w' (some M) := by
 subst hx
 unfold R.val
 have hLlt := World.block_lt_of_cell? w _ hl
 have hk := r.keyOf_ hok
 have hz := zero49
 go_enter Tryz.func136, Tryz.ntmps136
 go_wp2
 have g1 : w.grownBy ((w.alloc (.cells #[.int .u64 r.stamp, .int .u8 r.act, .int .u32 r.dir, .string r.name, .int .u32 r.ino, .int .u8 r.kind, .int .u32 r.dir2, .string r.name2, .int .u32 r.old, .int .u32 r.size, .int .i64 r.page, .string r.data] 50)).alloc (.cells #[.int .u32 r.dir, .string r.name] 130)) none := (World.grownBy_alloc _ _ _).trans (World.grownBy_alloc _ _ _)
 have e0 : ((w.alloc (.cells #[.int .u64 r.stamp, .int .u8 r.act, .int .u32 r.dir, .string r.name, .int .u32 r.ino, .int .u8 r.kind, .int .u32 r.dir2, .string r.name2, .int .u32 r.old, .int .u32 r.size, .int .i64 r.page, .string r.data] 50)).alloc (.cells #[.int .u32 r.dir, .string r.name] 130)).cell? ⟨w.heap.size + 1, 0, none⟩ = some (.int .u32 r.dir) := by simp [go_sem]
 have e1 : ((w.alloc (.cells #[.int .u64 r.stamp, .int .u8 r.act, .int .u32 r.dir, .string r.name, .int .u32 r.ino, .int .u8 r.kind, .int .u32 r.dir2, .string r.name2, .int .u32 r.old, .int .u32 r.size, .int .i64 r.page, .string r.data] 50)).alloc (.cells #[.int .u32 r.dir, .string r.name] 130)).cell? ⟨w.heap.size + 1, 1, none⟩ = some (.string r.name) := by simp [go_sem]
 have hz1 : ((w.alloc (.cells #[.int .u64 r.stamp, .int .u8 r.act, .int .u32 r.dir, .string r.name, .int .u32 r.ino, .int .u8 r.kind, .int .u32 r.dir2, .string r.name2, .int .u32 r.old, .int .u32 r.size, .int .i64 r.page, .string r.data] 50)).alloc (.cells #[.int .u32 r.dir, .string r.name] 130)).heap.size = w.heap.size + 2 := by simp
 generalize (w.alloc (.cells #[.int .u64 r.stamp, .int .u8 r.act, .int .u32 r.dir, .string r.name, .int .u32 r.ino, .int .u8 r.kind, .int .u32 r.dir2, .string r.name2, .int .u32 r.old, .int .u32 r.size, .int .i64 r.page, .string r.data] 50)).alloc (.cells #[.int .u32 r.dir, .string r.name] 130) = W at *
 have hlW : W.cell? ⟨L, 1, none⟩ = some (.map (some M)) := (World.cell?_of_block (g1.block L hLlt (by simp))).trans hl
 have hMW : There W M n D := hM.kept g1 (by simp)
 have hall : ∀ W' : World, There W' M n D → (Instr.lookup 132 (.map (some M)) (.agg #[.int .u32 r.dir, .string r.name]) true).run Tryz.prog W' = .ok (.tuple #[.agg #[], .bool (has D r.key)]) W' := fun W' hW' => by
  obtain ⟨v1, ps1, hlook, hv1⟩ := World.ownsMap.look_ok hW' law48 Tryz.underlying132 (zero49 _) unitElem_mk hk
  obtain ⟨rfl, _⟩ := unitElem_inv hv1
  exact hlook
 have HA := Lib.hid hall
 have HM := Lib.hid hMW
 have hLW : L < W.heap.size := by omega
 have Hk := Lib.hid hk
 have G1 := Lib.hid g1
 clear hk hz g1 hall hMW hM
 go_region_held3 (fun w' => w'.cell? ⟨L, 1, none⟩ = some (.map (some M)) ∧ w'.cell? ⟨w.heap.size + 1, 0, none⟩ = some (.int .u32 r.dir) ∧ w'.cell? ⟨w.heap.size + 1, 1, none⟩ = some (.string r.name) ∧ (Instr.lookup 132 (.map (some M)) (.agg #[.int .u32 r.dir, .string r.name]) true).run Tryz.prog w' = .ok (.tuple #[.agg #[], .bool (has D r.key)]) w')
  (first | exact ⟨hlW, e0, e1, HA.out _ HM.out⟩ | exact ⟨(World.cell?_alloc_lt W _ _ hLW).trans hlW, (World.cell?_alloc_lt W _ _ (by simp; omega)).trans e0, (World.cell?_alloc_lt W _ _ (by simp; omega)).trans e1, HA.out _ (HM.out.alloc _)⟩) (fail)
 all_goals
  have f1 : (W.alloc (.cells #[] 131)).drew.cell? ⟨L, 1, none⟩ = some (.map (some M)) := (World.cell?_alloc_lt W _ _ hLW).trans hlW
  have f2 : (W.alloc (.cells #[] 131)).drew.cell? ⟨w.heap.size + 1, 0, none⟩ = some (.int .u32 r.dir) := (World.cell?_alloc_lt W _ _ (by simp; omega)).trans e0
  have f3 : (W.alloc (.cells #[] 131)).drew.cell? ⟨w.heap.size + 1, 1, none⟩ = some (.string r.name) := (World.cell?_alloc_lt W _ _ (by simp; omega)).trans e1
  have hg2 : w.grownBy (W.alloc (.cells #[] 131)).drew none := by
   have := G1.out.trans (World.grownBy_alloc W (.cells #[] 131) none)
   exact ⟨this.os, this.tape, this.output, this.size, this.block⟩
  have hM2 : There (W.alloc (.cells #[] 131)).drew M n D := (HM.out.alloc _)
  have G2 := Lib.hid hg2
  have HM2 := Lib.hid hM2
  clear hg2 hM2 e0 e1 hlW hz1 hLW
  generalize (W.alloc (.cells #[] 131)).drew = W2 at *
  obtain ⟨w3, hrun, hM3, ht3⟩ := World.ownsMap.drop (w := W2.drew) HM2.out law48 Tryz.underlying132 Hk.out 0
  have hg3 := ht3.grown
  have k1 := cell_far (grown_drew hg3) f1 (map_ne HM2.out f1)
  have k2 := cell_far (grown_drew hg3) f2 (map_ne HM2.out f2)
  have k3 := cell_far (grown_drew hg3) f3 (map_ne HM2.out f3)
  have Hg3 := Lib.hid (grown_drew hg3)
  have HM3 := Lib.hid hM3
  clear hg3 hM3
  go_wp2
  go_region_held3 (fun w' => w'.cell? ⟨L, 1, none⟩ = some (.map (some M)) ∧ w'.cell? ⟨w.heap.size + 1, 0, none⟩ = some (.int .u32 r.dir) ∧ w'.cell? ⟨w.heap.size + 1, 1, none⟩ = some (.string r.name)) (first | exact ⟨f1, f2, f3⟩ | exact ⟨k1, k2, k3⟩) (fail)
  go_wp2
  go_ret
  refine ⟨rfl, HM3.out, ?_⟩
  have := G2.out
  exact ⟨Hg3.out.os.trans this.os, Hg3.out.tape.trans this.tape, Hg3.out.output.trans this.output, Nat.le_trans this.size Hg3.out.size, fun k hk hne => (Hg3.out.block k (Nat.lt_of_lt_of_le hk this.size) hne).trans (this.block k hk (by simp))⟩
end Go.Proofs.YtogljgiefmfafaaGreat.A
