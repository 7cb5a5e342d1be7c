/- Sorting a row of uint32: the row in memory; insertion sort. -/
import Derived.Test.YtpcnolkdnmolgaaGreatDoorPf02
import Derived.IntWalk
import Derived.Sort.AssemblyPlain
import Derived.Sort.Row
import Derived.CellFam
import Derived.BigGuard
import Derived.BigCall
import Derived.BigQuiet
import Derived.Deep.QuietTactic
import Derived.RegionTactic
import Derived.Sort.LotD4
import Derived.Lib.Tables
import Derived.Laws.Bits64
import Derived.Laws.Bits64b
import Derived.StillTailTactics
namespace Go.Proofs.YtpcnolkdnmolgaaGreatDoor
section
open Go.RowKit Go.Sort
def gA (d : Array Int) (j : Nat) : Int := d[j]!
structure RowU (w w' : World) (blk off : Nat) (d : Array Int) : Prop where
 holds : Holds (Value.int .u32) w' blk off d
 grown : w.grownBy w' (some blk)
theorem RowU.cell {w w' : World} {blk off : Nat} {d : Array Int} (h : RowU w w' blk off d) {j n : Nat} (hn : d.size = n) (hj : j < n) : w'.cell? ⟨blk, off + j, none⟩ = some (.int .u32 (gA d j)) := (h.holds j (by omega)).1
theorem RowU.frozen {w w' : World} {blk off : Nat} {d : Array Int} (h : RowU w w' blk off d) {j n : Nat} (hn : d.size = n) (hj : j < n) : w'.frozen? ⟨blk, off + j, none⟩ = false := (h.holds j (by omega)).2
theorem RowU.start {w : World} {blk off : Nat} {d : Array Int} (h : Holds (Value.int .u32) w blk off d) : RowU w w blk off d := ⟨h, pgrown_below (Below.refl _ _) _⟩
theorem RowU.drewN {w w' : World} {blk off : Nat} {d : Array Int} (h : RowU w w' blk off d) (q : Nat) : RowU w (w'.drewN q) blk off d := ⟨h.holds, pgrown_trans h.grown (pgrown_drewN (grown_refl _ _) q)⟩
theorem RowU.trans {w w1 w2 : World} {blk off : Nat} {d1 d2 : Array Int} (h : RowU w w1 blk off d1) (k : RowU w1 w2 blk off d2) : RowU w w2 blk off d2 := ⟨k.holds, pgrown_trans h.grown k.grown⟩
theorem RowU.swap {w w' : World} {blk off : Nat} {d : Array Int} (h : RowU w w' blk off d) (q i j : Nat) (hi : i < d.size) (hj : j < d.size) :
  RowU w (((w'.drewN q).setCell ⟨blk, off + i, none⟩ (.int .u32 (gA d j))).setCell ⟨blk, off + j, none⟩ (.int .u32 (gA d i))) blk off (swp d i j) := by
 have h1 := h.drewN q
 generalize w'.drewN q = w1 at h1 ⊢
 refine ⟨?_, pgrown_trans (pgrown_trans h1.grown (pgrown_set _ _ _ _)) (pgrown_set _ _ _ _)⟩
 have e : ((w1.setCell ⟨blk, off + i, none⟩ (.int .u32 (gA d j))).setCell ⟨blk, off + j, none⟩ (.int .u32 (gA d i))) = putRow (Value.int .u32) w1 blk off (swp d i j) := by
  rw [← putRow_swp (Value.int .u32) w1 blk off d i j hi hj, putRow_self _ _ _ _ _ h1.holds]
  rfl
 rw [e]
 exact holds_putRow _ _ _ _ d _ h1.holds (size_swp _ _ _)
theorem u_isNaN (x : Int) (w : World) : Calls Tryz.prog 255 #[.int .u32 x] w fun e w' => e = .returned (.bool false) ∧ w = w' := by
 go_enter Tryz.func255, Tryz.ntmps255
 go_wp2
 go_ret
 exact ⟨rfl, rfl⟩
theorem u_less (x y : Int) (w : World) : Calls Tryz.prog 215 #[.int .u32 x, .int .u32 y] w fun e w' => e = .returned (.bool (ltInt x y)) ∧ w = w' := by
 go_enter Tryz.func215, Tryz.ntmps215
 go_wp2_with (go_at_call 255; refine (u_isNaN _ _).mono ?_; rintro e w' ⟨rfl, rfl⟩)
 go_ret
 exact ⟨rfl, rfl⟩
section
variable {α : Type} [Inhabited α] (lt : α → α → Bool)
theorem u_inner_go (a j : Nat) (d : Array α) (hj : a < j) (hl : lt d[j]! d[j - 1]! = true) : insInner lt a j d = insInner lt a (j - 1) (swp d j (j - 1)) := by
 cases j with
 | zero => omega
 | succ k =>
  simp only [Nat.add_sub_cancel] at hl ⊢
  rw [insInner]
  simp [hj, hl]
theorem u_inner_stop (a j : Nat) (d : Array α) (h : j ≤ a ∨ lt d[j]! d[j - 1]! = false) : insInner lt a j d = d := by
 cases j with
 | zero => rw [insInner]
 | succ k =>
  simp only [Nat.add_sub_cancel] at h
  rw [insInner]
  rcases h with h | h
  · simp [show ¬ a < k + 1 by omega]
  · simp [h]
theorem u_outer_go (a b i : Nat) (d : Array α) (h : i < b) : insOuter lt a b i d = insOuter lt a b (i + 1) (insInner lt a i d) := by
 rw [insOuter, if_pos h]
theorem u_outer_stop (a b i : Nat) (d : Array α) (h : ¬ i < b) : insOuter lt a b i d = d := by
 rw [insOuter, if_neg h]
end
def Rowed (w : World) (v : Value) (blk off : Nat) (d : Array Int) (e : Ending) (w' : World) : Prop := e = .returned v ∧ RowU w w' blk off d
set_option maxHeartbeats 4000000 in
theorem u_ins (blk off n cap a b : Nat) (d : Array Int) (w : World) (hH : Holds (Value.int .u32) w blk off d) (hn : d.size = n) (hab : a ≤ b) (hb : b ≤ n) (hsz : n < 4611686018427387904) :
  Calls Tryz.prog 209 #[.slice (some ⟨blk, off, none⟩) n cap, .int .i64 a, .int .i64 b] w (Rowed w (.tuple #[]) blk off (insertionSort ltInt d a b)) := by
 have HR0 := zz (RowU.start hH)
 have HN := zz hn
 clear hH hn
 go_enter Tryz.func209, Tryz.ntmps209
 go_wp2
 go_loopw [6] (fun vi wr => ∃ (i : Nat) (dk : Array Int), vi = .int .i64 i ∧ a < i ∧ i ≤ b + 1 ∧ Hid (dk.size = n) ∧ Hid (RowU w wr blk off dk) ∧ Hid (insOuter ltInt a b i dk = insOuter ltInt a b (a + 1) d)) (fun vi _ => b + 1 - (intOf vi).toNat)
 case atStart => exact ⟨a + 1, d, by go_num, by omega, by omega, HN, HR0, rfl⟩
 case round =>
  obtain ⟨i, dk, rfl, hai, hib, HS, HR, HO⟩ := hrel
  by_cases hlt : i < b
  · go_wp2
    obtain ⟨wo, rfl⟩ : ∃ wo : World, wo = wr := ⟨_, rfl⟩
    go_loopw [7] (fun vj wr2 => ∃ (j : Nat) (dj : Array Int), vj = .int .i64 j ∧ a ≤ j ∧ j ≤ i ∧ Hid (dj.size = n) ∧ Hid (RowU w wr2 blk off dj) ∧ Hid (insInner ltInt a j dj = insInner ltInt a i dk)) (fun vj _ => (intOf vj).toNat)
    case atStart => exact ⟨i, dk, rfl, by omega, Nat.le_refl _, HS, HR, rfl⟩
    case round =>
     obtain ⟨j, dj, rfl, haj, hji, HS2, HR2, HI⟩ := hrel
     have hcw : ∀ t, t < n → wr.cell? ⟨blk, off + t, none⟩ = some (.int .u32 (gA dj t)) := fun t ht => HR2.out.cell HS2.out ht
     have hfw : ∀ t, t < n → wr.frozen? ⟨blk, off + t, none⟩ = false := fun t ht => HR2.out.frozen HS2.out ht
     have OUT : Hid ((j ≤ a ∨ ltInt (gA dj j) (gA dj (j - 1)) = false) → ∀ q, ∃ i' dk', Value.int .i64 ((i : Int) + 1) = .int .i64 (i' : Nat) ∧ a < i' ∧ i' ≤ b + 1 ∧ Hid (dk'.size = n) ∧ Hid (RowU w (wr.drewN q) blk off dk') ∧ Hid (insOuter ltInt a b i' dk' = insOuter ltInt a b (a + 1) d)) := fun hs q =>
      ⟨i + 1, dj, by go_num, by omega, by omega, HS2, HR2.out.drewN q, by
       show _ = _
       rw [← HO.out, u_outer_go _ _ _ _ _ hlt, ← HI.out, u_inner_stop _ _ _ _ hs]⟩
     by_cases hja : a < j
     · have hjn : (j : Int) < (n : Int) := by omega
       have hj1 : (j : Int) - 1 < (n : Int) := by omega
       have hj0 : 1 ≤ (j : Int) := by omega
       have hja' : decide ((a : Int) < (j : Int)) = true := by simpa using hja
       have hwr : IntKind.i64.wrap ((j : Int) - 1) = (j : Int) - 1 := IntWalk.i64_in _ (by omega)
       have htn : ((j : Int) - 1).toNat = j - 1 := by omega
       go_wp2
       go_quiet ((go_at_call 215; exact quiet_eq (u_less _ _ _)))
       clear hwr
       go_wp2
       · have hl : ltInt (gA dj j) (gA dj (j - 1)) = true := by assumption
         have HL := zz hl
         go_region
         all_goals go_wp2
         go_roundw
         case rel =>
          refine ⟨j - 1, swp dj j (j - 1), by congr 1; omega, by omega, by omega, ?_, ?_, ?_⟩
          · exact (size_swp _ _ _).trans HS2.out
          · have hh := HR2.out.swap (nq + 1) j (j - 1) (by rw [HS2.out]; omega) (by rw [HS2.out]; omega)
            exact hh
          · show _ = _
            rw [← HI.out, u_inner_go ltInt a j dj hja HL.out]
         case measure => simp [intOf]; omega
       · have hl : ltInt (gA dj j) (gA dj (j - 1)) = false := by assumption
         go_roundw
         case rel => exact OUT.out (Or.inr hl) nq
         case measure => simp [intOf]; omega
     · go_wp2
       go_quiet ((go_at_call 215; exact quiet_eq (u_less _ _ _)))
       go_wp2
       go_roundw
       case rel => exact OUT.out (Or.inl (by omega)) nq
       case measure => simp [intOf]; omega
  · have HF : Hid (Rowed w (.tuple #[]) blk off (insertionSort ltInt d a b) (.returned (.tuple #[])) wr) := ⟨rfl, by
     have e : insertionSort ltInt d a b = dk := by unfold insertionSort; rw [← HO.out, u_outer_stop _ _ _ _ _ hlt]
     rw [e]; exact HR.out⟩
    go_wp2
    go_end0
    exact HF.out
end
section
open Go.RowKit Go.Sort
structure BoxAt (w w' : World) (S s : Nat) : Prop where
 box : w'.heap[S]? = some (.cells #[.int .i64 (s : Int)] 3 (0, 0))
 grown : w.grownBy w' (some S)
theorem BoxAt.cell {w w' : World} {S s : Nat} (h : BoxAt w w' S s) : w'.cell? ⟨S, 0, none⟩ = some (.int .i64 (s : Int)) := by simp [World.cell?, h.box]
theorem BoxAt.frozen {w w' : World} {S s : Nat} (h : BoxAt w w' S s) : w'.frozen? ⟨S, 0, none⟩ = false := by simp [World.frozen?, h.box]
theorem BoxAt.trans {w w1 w2 : World} {S s s2 : Nat} (h : BoxAt w w1 S s) (k : BoxAt w1 w2 S s2) : BoxAt w w2 S s2 := ⟨k.box, pgrown_trans h.grown k.grown⟩
theorem holds_grown {w w' : World} {S blk off : Nat} {d : Array Int} (h : Holds (Value.int .u32) w blk off d) (hg : w.grownBy w' (some S)) (hlt : blk < w.heap.size) (hne : S ≠ blk) : Holds (Value.int .u32) w' blk off d := by
 have e := hg.block blk hlt (fun e => hne (by injection e with e; exact e.symm))
 intro j hj
 obtain ⟨h1, h2⟩ := h j hj
 exact ⟨(World.cell?_of_block e).trans h1, by
  unfold World.frozen? at h2 ⊢
  rw [e]
  exact h2⟩
theorem u_lessB (x y : Int) (c : Bool) (h : ltInt x y = c) (w : World) : Calls Tryz.prog 215 #[.int .u32 x, .int .u32 y] w fun e w' => e = .returned (.bool c) ∧ w = w' := by
 subst h
 exact u_less x y w
def Order2 (w : World) (S x y s : Nat) (e : Ending) (w' : World) : Prop := e = .returned (.tuple #[.int .i64 (x : Int), .int .i64 (y : Int)]) ∧ BoxAt w w' S s
set_option maxHeartbeats 4000000 in
theorem u_order2 (blk off n cap a b S s x y s' : Nat) (d : Array Int) (w : World) (hH : Holds (Value.int .u32) w blk off d) (hn : d.size = n) (ha : a < n) (hb : b < n) (_hsz : n < 4611686018427387904) (hS : BoxAt w w S s) (hs : s < 1000) (hr : order2 ltInt d a b s = (x, y, s')) :
  Calls Tryz.prog 273 #[.slice (some ⟨blk, off, none⟩) n cap, .int .i64 a, .int .i64 b, .pointer (some ⟨S, 0, none⟩)] w (Order2 w S x y s') := by
 have HB := zz hS
 have cS := hS.cell
 have fS := hS.frozen
 have hcw : ∀ t, t < n → w.cell? ⟨blk, off + t, none⟩ = some (.int .u32 (gA d t)) := fun t ht => (RowU.start hH).cell hn ht
 have ha' : (a : Int) < (n : Int) := by omega
 have hb' : (b : Int) < (n : Int) := by omega
 cases hl : ltInt (gA d b) (gA d a) with
 | true =>
  have hl' : ltInt d[b]! d[a]! = true := hl
  have HL := zz hl
  clear hl
  have HP : Hid (b = x ∧ a = y ∧ s + 1 = s') := by
   unfold order2 at hr
   rw [if_pos hl'] at hr
   injection hr with h1 h2
   injection h2 with h2 h3
   exact ⟨h1, h2, h3⟩
  clear hH hS hr hl'
  go_enter Tryz.func273, Tryz.ntmps273
  go_wp2
  go_quiet ((go_at_call 215; exact quiet_eq (u_lessB _ _ _ HL.out _)))
  have cS2 : (w.drewN nq).cell? ⟨S, 0, none⟩ = some (.int .i64 (s : Int)) := cS
  have fS2 : (w.drewN nq).frozen? ⟨S, 0, none⟩ = false := fS
  have HB2 : Hid (BoxAt w ((w.drewN nq).setCell ⟨S, 0, none⟩ (.int .i64 ((s : Int) + 1))) S (s + 1)) := ⟨by
   rw [pheap_set (w.drewN nq) S 0 _ _ _ HB.out.box]; simp, pgrown_trans (pgrown_drewN (grown_refl _ _) nq) (pgrown_set _ _ _ _)⟩
  go_wp2
  go_ret2
  obtain ⟨rfl, rfl, rfl⟩ := HP.out
  exact ⟨rfl, HB2.out⟩
 | false =>
  have hl' : ltInt d[b]! d[a]! = false := hl
  have HL := zz hl
  clear hl
  have HP : Hid (a = x ∧ b = y ∧ s = s') := by
   unfold order2 at hr
   rw [if_neg (by rw [hl']; simp)] at hr
   injection hr with h1 h2
   injection h2 with h2 h3
   exact ⟨h1, h2, h3⟩
  clear hH hS hr hl'
  go_enter Tryz.func273, Tryz.ntmps273
  go_wp2
  go_quiet ((go_at_call 215; exact quiet_eq (u_lessB _ _ _ HL.out _)))
  have HB2 : Hid (BoxAt w (w.drewN nq) S s) := ⟨HB.out.box, pgrown_drewN (grown_refl _ _) nq⟩
  go_wp2
  go_ret2
  obtain ⟨rfl, rfl, rfl⟩ := HP.out
  exact ⟨rfl, HB2.out⟩
def Median (w : World) (S x s : Nat) (e : Ending) (w' : World) : Prop := e = .returned (.int .i64 (x : Int)) ∧ BoxAt w w' S s
theorem order2_range {d : Array Int} {a b s x y s' n : Nat} (hr : order2 ltInt d a b s = (x, y, s')) (ha : a < n) (hb : b < n) : x < n ∧ y < n ∧ s' ≤ s + 1 := by
 have h1 := order2_mem ltInt d a b s
 have h2 := order2_count ltInt d a b s
 rw [hr] at h1 h2
 simp only at h1 h2
 omega
set_option maxHeartbeats 4000000 in
theorem u_median (blk off n cap a b c S s x s' : Nat) (d : Array Int) (w : World) (hH : Holds (Value.int .u32) w blk off d) (hn : d.size = n) (ha : a < n) (hb : b < n) (hc : c < n) (hsz : n < 4611686018427387904) (hS : BoxAt w w S s) (hne : S ≠ blk) (hlt : blk < w.heap.size) (hs : s < 900) (hr : median ltInt d a b c s = (x, s')) :
  Calls Tryz.prog 254 #[.slice (some ⟨blk, off, none⟩) n cap, .int .i64 a, .int .i64 b, .int .i64 c, .pointer (some ⟨S, 0, none⟩)] w (Median w S x s') := by
 obtain ⟨x1, y1, s1, h1⟩ : ∃ x1 y1 s1, order2 ltInt d a b s = (x1, y1, s1) := ⟨_, _, _, rfl⟩
 obtain ⟨x2, y2, s2, h2⟩ : ∃ x2 y2 s2, order2 ltInt d y1 c s1 = (x2, y2, s2) := ⟨_, _, _, rfl⟩
 obtain ⟨x3, y3, s3, h3⟩ : ∃ x3 y3 s3, order2 ltInt d x1 x2 s2 = (x3, y3, s3) := ⟨_, _, _, rfl⟩
 obtain ⟨r1, r2, r3⟩ := order2_range h1 ha hb
 obtain ⟨r4, r5, r6⟩ := order2_range h2 r2 hc
 obtain ⟨r7, r8, r9⟩ := order2_range h3 r1 r4
 have HP : Hid (y3 = x ∧ s3 = s') := by
  unfold median at hr
  simp only [h1, h2, h3] at hr
  injection hr with e1 e2
  exact ⟨e1, e2⟩
 have C1 := zz (u_order2 blk off n cap a b S s x1 y1 s1 d w hH hn ha hb hsz hS (by omega) h1)
 have C2 := zz (fun w1 (hg : BoxAt w w1 S s1) => u_order2 blk off n cap y1 c S s1 x2 y2 s2 d w1 (holds_grown hH hg.grown hlt hne) hn r2 hc hsz ⟨hg.box, grown_refl _ _⟩ (by omega) h2)
 have C3 := zz (fun w1 (hg : BoxAt w w1 S s2) => u_order2 blk off n cap x1 x2 S s2 x3 y3 s3 d w1 (holds_grown hH hg.grown hlt hne) hn r1 r4 hsz ⟨hg.box, grown_refl _ _⟩ (by omega) h3)
 clear hH hn ha hb hc hS hne hlt hs hr h1 h2 h3 r1 r2 r3 r4 r5 r6 r7 r8 r9
 go_enter Tryz.func254, Tryz.ntmps254
 go_wp2_with (first
  | (go_at_call 273; (with_reducible refine C1.out.mono ?_); rintro e w1 ⟨rfl, hb1⟩; have H1 := zz hb1; clear hb1)
  | (go_at_call 273; (with_reducible refine (C2.out _ H1.out).mono ?_); rintro e w2 ⟨rfl, hb2⟩; have H2 := zz (H1.out.trans hb2); clear hb2)
  | (go_at_call 273; (with_reducible refine (C3.out _ H2.out).mono ?_); rintro e w3 ⟨rfl, hb3⟩; have H3 := zz (H2.out.trans hb3); clear hb3))
 go_ret
 obtain ⟨rfl, rfl⟩ := HP.out
 exact ⟨rfl, H3.out⟩
theorem median_range {d : Array Int} {a b c s x s' n : Nat} (hr : median ltInt d a b c s = (x, s')) (ha : a < n) (hb : b < n) (hc : c < n) : x < n ∧ s' ≤ s + 3 := by
 have h1 := median_mem ltInt d a b c s
 have h2 := median_count ltInt d a b c s
 rw [hr] at h1 h2
 simp only at h1 h2
 omega
set_option maxHeartbeats 4000000 in
theorem u_adj (blk off n cap a S s x s' : Nat) (d : Array Int) (w : World) (hH : Holds (Value.int .u32) w blk off d) (hn : d.size = n) (ha0 : 1 ≤ a) (ha : a + 1 < n) (hsz : n < 4611686018427387904) (hS : BoxAt w w S s) (hne : S ≠ blk) (hlt : blk < w.heap.size) (hs : s < 900) (hr : medianAdjacent ltInt d a s = (x, s')) :
  Calls Tryz.prog 253 #[.slice (some ⟨blk, off, none⟩) n cap, .int .i64 a, .pointer (some ⟨S, 0, none⟩)] w (Median w S x s') := by
 unfold medianAdjacent at hr
 have C1 := u_median blk off n cap (a - 1) a (a + 1) S s x s' d w hH hn (by omega) (by omega) (by omega) hsz hS hne hlt hs hr
 rw [show ((a - 1 : Nat) : Int) = (a : Int) - 1 by omega, show ((a + 1 : Nat) : Int) = (a : Int) + 1 by omega] at C1
 have HC := zz C1
 clear hH hn hS hne hlt hs hr C1
 go_enter Tryz.func253, Tryz.ntmps253
 go_wp2_with (go_at_call 254; (with_reducible refine HC.out.mono ?_); rintro e w1 ⟨rfl, hb1⟩; have H1 := zz hb1; clear hb1)
 go_ret
 exact ⟨rfl, H1.out⟩
theorem adj_range {d : Array Int} {a s x s' n : Nat} (hr : medianAdjacent ltInt d a s = (x, s')) (ha0 : 1 ≤ a) (ha : a + 1 < n) : x < n ∧ s' ≤ s + 3 := median_range hr (by omega) (by omega) (by omega)
theorem s0t {s : Nat} (h : ((s : Int) == 0) = true) : s = 0 := by simpa using h
theorem s0f {s : Nat} (h : ((s : Int) == 0) = false) : s ≠ 0 := by simpa using h
theorem s12t {s : Nat} (h : ((s : Int) == 12) = true) : s = 12 := by
 have h : (s : Int) = 12 := by simpa using h
 omega
theorem s12f {s : Nat} (h : ((s : Int) == 12) = false) : s ≠ 12 := by
 have h : ¬ (s : Int) = 12 := by simpa using h
 omega
def Pivot (w : World) (x h : Int) (e : Ending) (w' : World) : Prop := e = .returned (.tuple #[.int .i64 x, .int .i64 h]) ∧ Below w.heap.size w w'
theorem raw_count (d : Array Int) (a b : Nat) : (rawPivot ltInt d a b).2 ≤ 12 := by
 unfold rawPivot
 split
 · split
   · have h1 := medianAdjacent_count ltInt d (a + (b - a) / 4 * 1) 0
     have h2 := medianAdjacent_count ltInt d (a + (b - a) / 4 * 2) (medianAdjacent ltInt d (a + (b - a) / 4 * 1) 0).2
     have h3 := medianAdjacent_count ltInt d (a + (b - a) / 4 * 3) (medianAdjacent ltInt d (a + (b - a) / 4 * 2) (medianAdjacent ltInt d (a + (b - a) / 4 * 1) 0).2).2
     refine Nat.le_trans (median_count _ _ _ _ _ _) ?_
     omega
   · exact Nat.le_trans (median_count _ _ _ _ _ _) (by omega)
 · exact Nat.zero_le _
theorem u_alloc1 (w : World) (a : Obj) : RowKit.Below w.heap.size w (w.alloc a) := (RowKit.Below.refl _ _).alloc (Nat.le_refl _) _
theorem below_of_box {w w' : World} {S s : Nat} {v : Value} {T : TypeId} (h : BoxAt (w.alloc (.cells #[v] T)) w' S s) (hS : S = w.heap.size) : Below w.heap.size w w' := by
 have h1 := u_alloc1 w (.cells #[v] T)
 exact ⟨h.grown.os.trans h1.os, h.grown.tape.trans h1.tape, h.grown.output.trans h1.output, Nat.le_trans h1.size h.grown.size, fun b hb => (h.grown.block b (by simp; omega) (fun e => by injection e with e; omega)).trans (h1.block b hb)⟩
set_option maxRecDepth 100000 in
set_option maxHeartbeats 8000000 in
theorem u_pivot (blk off n cap a b : Nat) (d : Array Int) (w : World) (hH : Holds (Value.int .u32) w blk off d) (hn : d.size = n) (hab : a < b) (hb : b ≤ n) (hsz : n < 4611686018427387904) (hlt : blk < w.heap.size) (x : Nat) (h : Hint) (hr : choosePivot ltInt d a b = (x, h)) :
  Calls Tryz.prog 212 #[.slice (some ⟨blk, off, none⟩) n cap, .int .i64 a, .int .i64 b] w (Pivot w x (hintCode h)) := by
 obtain ⟨s, hs⟩ : ∃ s, (rawPivot ltInt d a b).2 = s := ⟨_, rfl⟩
 have hsc : s ≤ 12 := by rw [← hs]; exact raw_count d a b
 have hx : (rawPivot ltInt d a b).1 = x ∧ hintOf s = h := by
  rw [choosePivot_eq, hs] at hr
  injection hr with e1 e2
  exact ⟨e1, e2⟩
 obtain ⟨hx, hh⟩ := hx
 have hraw : rawPivot ltInt d a b = (x, s) := Prod.ext hx hs
 have hbox : BoxAt (w.alloc (.cells #[.int .i64 0] 3)) (w.alloc (.cells #[.int .i64 0] 3)) w.heap.size 0 := ⟨heap_alloc_new w _, grown_refl _ _⟩
 have hH0 : Holds (Value.int .u32) (w.alloc (.cells #[.int .i64 0] 3)) blk off d := holds_grown hH (pgrown_below (u_alloc1 w _) (some w.heap.size)) hlt (by omega)
 obtain ⟨L, hL⟩ : ∃ L, b - a = L := ⟨_, rfl⟩
 obtain ⟨q, hq⟩ : ∃ q, L / 4 = q := ⟨_, rfl⟩
 have HFIN : Hid (∀ (w' : World) (c : Int), BoxAt (w.alloc (.cells #[.int .i64 0] 3)) w' w.heap.size s → (s = 0 ∧ c = 1 ∨ s ≠ 0 ∧ s = 12 ∧ c = 2 ∨ s ≠ 0 ∧ s ≠ 12 ∧ c = 0) → Pivot w x (hintCode h) (.returned (.tuple #[.int .i64 (x : Int), .int .i64 c])) w') := fun w' c hb hc => ⟨by
  rw [← hh]
  unfold hintOf
  rcases hc with ⟨h1, h2⟩ | ⟨h1, h2, h3⟩ | ⟨h1, h2, h3⟩
  · rw [if_pos h1, h2]; rfl
  · rw [if_neg h1, if_pos h2, h3]; rfl
  · rw [if_neg h1, if_neg h2, h3]; rfl, below_of_box hb rfl⟩
 unfold rawPivot at hraw
 rw [hL, hq] at hraw
 have hLi : (b : Int) - (a : Int) = (L : Int) := by omega
 have hqi : (L : Int) / 4 = (q : Int) := by omega
 have hq4 : (q : Int) * 4 ≤ (L : Int) := by omega
 have hLn : (L : Int) + (a : Int) ≤ (n : Int) := by omega
 have q0 : 0 ≤ (q : Int) := by omega
 have HBX := zz hbox
 by_cases h8 : 8 ≤ L
 · rw [if_pos h8] at hraw
   have h8' : (8 : Int) ≤ (L : Int) := by omega
   by_cases h50 : 50 ≤ L
   · rw [if_pos h50] at hraw
     have h50' : (50 : Int) ≤ (L : Int) := by omega
     obtain ⟨x1, s1, g1⟩ : ∃ x1 s1, medianAdjacent ltInt d (a + q * 1) 0 = (x1, s1) := ⟨_, _, rfl⟩
     obtain ⟨x2, s2, g2⟩ : ∃ x2 s2, medianAdjacent ltInt d (a + q * 2) s1 = (x2, s2) := ⟨_, _, rfl⟩
     obtain ⟨x3, s3, g3⟩ : ∃ x3 s3, medianAdjacent ltInt d (a + q * 3) s2 = (x3, s3) := ⟨_, _, rfl⟩
     simp only [g1, g2, g3] at hraw
     obtain ⟨r1, r2⟩ := adj_range (n := n) g1 (by omega) (by omega)
     obtain ⟨r3, r4⟩ := adj_range (n := n) g2 (by omega) (by omega)
     obtain ⟨r5, r6⟩ := adj_range (n := n) g3 (by omega) (by omega)
     have C1 := zz (u_adj blk off n cap (a + q * 1) w.heap.size 0 x1 s1 d _ hH0 hn (by omega) (by omega) hsz hbox (by omega) (by simp; omega) (by omega) g1)
     have C2 := zz (fun w1 (hg : BoxAt (w.alloc (.cells #[.int .i64 0] 3)) w1 w.heap.size s1) => u_adj blk off n cap (a + q * 2) w.heap.size s1 x2 s2 d w1 (holds_grown hH0 hg.grown (by simp; omega) (by omega)) hn (by omega) (by omega) hsz ⟨hg.box, grown_refl _ _⟩ (by omega) (Nat.lt_of_lt_of_le (by simp; omega) hg.grown.size) (by omega) g2)
     have C3 := zz (fun w1 (hg : BoxAt (w.alloc (.cells #[.int .i64 0] 3)) w1 w.heap.size s2) => u_adj blk off n cap (a + q * 3) w.heap.size s2 x3 s3 d w1 (holds_grown hH0 hg.grown (by simp; omega) (by omega)) hn (by omega) (by omega) hsz ⟨hg.box, grown_refl _ _⟩ (by omega) (Nat.lt_of_lt_of_le (by simp; omega) hg.grown.size) (by omega) g3)
     have CM := zz (fun w1 (hg : BoxAt (w.alloc (.cells #[.int .i64 0] 3)) w1 w.heap.size s3) => u_median blk off n cap x1 x2 x3 w.heap.size s3 x s d w1 (holds_grown hH0 hg.grown (by simp; omega) (by omega)) hn r1 r3 r5 hsz ⟨hg.box, grown_refl _ _⟩ (by omega) (Nat.lt_of_lt_of_le (by simp; omega) hg.grown.size) (by omega) hraw)
     have e1 : ((a + q * 1 : Nat) : Int) = (a : Int) + (q : Int) := by omega
     have e2 : ((a + q * 2 : Nat) : Int) = (a : Int) + (q : Int) * 2 := by omega
     have e3 : ((a + q * 3 : Nat) : Int) = (a : Int) + (q : Int) * 3 := by omega
     rw [e1] at C1
     rw [e2] at C2
     rw [e3] at C3
     clear hH hn hH0 hbox hr hx hh hs hraw e1 e2 e3 hL hq h8 h50 hab hb hlt g1 g2 g3 r1 r2 r3 r4 r5 r6
     go_enter Tryz.func212, Tryz.ntmps212
     go_wp2_with (first
      | (go_at_call 253; (with_reducible refine C1.out.mono ?_); rintro e w1 ⟨rfl, hb1⟩; have G1 := zz hb1; clear hb1)
      | (go_at_call 253; (with_reducible refine (C2.out _ G1.out).mono ?_); rintro e w2 ⟨rfl, hb1⟩; have G2 := zz (G1.out.trans hb1); clear hb1)
      | (go_at_call 253; (with_reducible refine (C3.out _ G2.out).mono ?_); rintro e w3 ⟨rfl, hb1⟩; have G3 := zz (G2.out.trans hb1); clear hb1)
      | (go_at_call 254; (with_reducible refine (CM.out _ G3.out).mono ?_); rintro e w4 ⟨rfl, hb1⟩; have cS := hb1.cell; have H1 := zz (G3.out.trans hb1); clear hb1))
     all_goals go_ret2
     · exact HFIN.out _ _ H1.out (.inl ⟨s0t (by assumption), rfl⟩)
     · exact HFIN.out _ _ H1.out (.inr (.inl ⟨s0f (by assumption), s12t (by assumption), rfl⟩))
     · exact HFIN.out _ _ H1.out (.inr (.inr ⟨s0f (by assumption), s12f (by assumption), rfl⟩))
   · rw [if_neg (by omega)] at hraw
     have h50' : (L : Int) < 50 := by omega
     have CM := zz (u_median blk off n cap (a + q * 1) (a + q * 2) (a + q * 3) w.heap.size 0 x s d _ hH0 hn (by omega) (by omega) (by omega) hsz hbox (by omega) (by simp; omega) (by omega) hraw)
     have e1 : ((a + q * 1 : Nat) : Int) = (a : Int) + (q : Int) := by omega
     have e2 : ((a + q * 2 : Nat) : Int) = (a : Int) + (q : Int) * 2 := by omega
     have e3 : ((a + q * 3 : Nat) : Int) = (a : Int) + (q : Int) * 3 := by omega
     rw [e1, e2, e3] at CM
     have HA := zz hab
     clear hH hn hH0 hbox hr hx hh hs hraw e1 e2 e3 hL hq h8 h50 hab hb hlt
     go_enter Tryz.func212, Tryz.ntmps212
     go_wp2_with (go_at_call 254; (with_reducible refine CM.out.mono ?_); rintro e w1 ⟨rfl, hb1⟩; have cS := hb1.cell; have H1 := zz hb1; clear hb1)
     all_goals go_ret2
     · exact HFIN.out _ _ H1.out (.inl ⟨s0t (by assumption), rfl⟩)
     · exact HFIN.out _ _ H1.out (.inr (.inl ⟨s0f (by assumption), s12t (by assumption), rfl⟩))
     · exact HFIN.out _ _ H1.out (.inr (.inr ⟨s0f (by assumption), s12f (by assumption), rfl⟩))
 · rw [if_neg h8] at hraw
   have h8' : (L : Int) < 8 := by omega
   have HP : Hid (a + q * 2 = x ∧ 0 = s) := by injection hraw with e1 e2; exact ⟨e1, e2⟩
   clear hH hn hH0 hbox hr hx hh hs hraw hL hq h8 hab hb hlt
   go_enter Tryz.func212, Tryz.ntmps212
   go_wp2
   go_ret2
   obtain ⟨rfl, rfl⟩ := HP.out
   refine cast ?_ (HFIN.out _ 1 HBX.out (.inl ⟨rfl, rfl⟩))
   congr 4
end
section
open Go.RowKit Go.Sort
def Moved (w : World) (blk off : Nat) (d : Array Int) (a b : Nat) (e : Ending) (w' : World) : Prop := ∃ d', e = .returned (.tuple #[]) ∧ RowU w w' blk off d' ∧ PermIn a b d d'
theorem perm_size {d d' : Array Int} {a b : Nat} (h : PermIn a b d d') : d'.size = d.size := h.1
set_option maxHeartbeats 4000000 in
theorem u_rev (blk off n cap a b : Nat) (d : Array Int) (w : World) (hH : Holds (Value.int .u32) w blk off d) (hn : d.size = n) (hab : a < b) (hb : b ≤ n) (hsz : n < 4611686018427387904) :
  Calls Tryz.prog 213 #[.slice (some ⟨blk, off, none⟩) n cap, .int .i64 a, .int .i64 b] w (Moved w blk off d a b) := by
 have HR0 := zz (RowU.start hH)
 have HN := zz hn
 clear hH hn
 go_enter Tryz.func213, Tryz.ntmps213
 go_wp2
 go_loopw [6, 7] (fun vi vj wr => ∃ (i j : Nat) (dk : Array Int), vi = .int .i64 i ∧ vj = .int .i64 ((j : Int) - 1) ∧ a ≤ i ∧ i ≤ b ∧ a ≤ j ∧ j ≤ b ∧ Hid (RowU w wr blk off dk) ∧ Hid (PermIn a b d dk)) (fun vi _ _ => b + 1 - (intOf vi).toNat)
 case atStart => exact ⟨a, b, d, rfl, rfl, by omega, by omega, by omega, by omega, HR0, permIn_refl _ _ _⟩
 case round =>
  obtain ⟨i, j, dk, rfl, rfl, hai, hib, haj, hjb, HR, HP⟩ := hrel
  have HS : Hid (dk.size = n) := (perm_size HP.out).trans HN.out
  have hcw : ∀ t, t < n → wr.cell? ⟨blk, off + t, none⟩ = some (.int .u32 (gA dk t)) := fun t ht => HR.out.cell HS.out ht
  have hfw : ∀ t, t < n → wr.frozen? ⟨blk, off + t, none⟩ = false := fun t ht => HR.out.frozen HS.out ht
  by_cases hij : (i : Int) < (j : Int) - 1
  · have hjn : (j : Int) - 1 < (n : Int) := by omega
    have hin : (i : Int) < (n : Int) := by omega
    have hj0 : 1 ≤ (j : Int) := by omega
    have htn : ((j : Int) - 1).toNat = j - 1 := by omega
    go_wp2
    go_region
    all_goals go_wp2
    go_roundw
    case rel =>
     refine ⟨i + 1, j - 1, swp dk i (j - 1), by go_num, by congr 1; omega, by omega, by omega, by omega, by omega, ?_, ?_⟩
     · have hh := HR.out.swap 1 i (j - 1) (by rw [HS.out]; omega) (by rw [HS.out]; omega)
       exact hh
     · exact permIn_trans _ _ _ _ _ HP.out (swp_permIn _ _ _ _ _ (by omega) (by omega) (by omega) (by omega) (by rw [HS.out]; exact hb))
    case measure => simp [intOf]; omega
  · have HF : Hid (Moved w blk off d a b (.returned (.tuple #[])) wr) := ⟨dk, rfl, HR.out, HP.out⟩
    go_wp2
    go_end0
    exact HF.out
theorem len8_facts : ∀ k : Fin 256, (1 ≤ k.val → 2 ^ (Lib.len8 (k.val : Int)).toNat ≤ 2 * k.val) ∧ 0 ≤ Lib.len8 (k.val : Int) ∧ (Lib.len8 (k.val : Int)).toNat ≤ 8 := by decide +kernel
theorem len8_int (x : Int) (h0 : 1 ≤ x) (h1 : x ≤ 255) : ∃ L : Nat, Lib.len8 x = (L : Int) ∧ L ≤ 8 ∧ (2 : Int) ^ L ≤ 2 * x := by
 obtain ⟨f1, f2, f3⟩ := len8_facts ⟨x.toNat, by omega⟩
 simp only at f1 f2 f3
 have e : ((x.toNat : Nat) : Int) = x := by omega
 rw [e] at f1 f2 f3
 refine ⟨(Lib.len8 x).toNat, by omega, f3, ?_⟩
 have f := f1 (by omega)
 have g : ((2 ^ (Lib.len8 x).toNat : Nat) : Int) ≤ ((2 * x.toNat : Nat) : Int) := by exact_mod_cast f
 rw [show ((2 * x.toNat : Nat) : Int) = 2 * x by omega] at g
 simpa using g
def LenPost (x : Int) (w : World) (e : Ending) (w' : World) : Prop := ∃ L : Nat, e = .returned (.int .i64 (L : Int)) ∧ w = w' ∧ L ≤ 16 ∧ (2 : Int) ^ L ≤ 2 * x
theorem len8_tab (y : Int) (h : y.toNat < Lib.len8tab.size) : ((Lib.len8tab[y.toNat]'h).toNat : Int) = Lib.len8 y := by
 unfold Lib.len8
 rw [getElem?_pos Lib.len8tab y.toNat h]
 rfl
theorem len8_size : (Lib.len8tab.size : Int) = 256 := by
 have := Lib.len8tab_size
 omega
theorem wrap_little (a : Int) (h0 : 0 ≤ a) (h1 : a ≤ 60000) : wrap64 a = a := by
 unfold wrap64
 omega
theorem ret_int {k : IntKind} {a b : Int} (h : a = b) : Ending.returned (.int k a) = .returned (.int k b) := by rw [h]
set_option maxRecDepth 100000 in
set_option maxHeartbeats 4000000 in
theorem u_len64 (x : Int) (w : World) (h1 : 1 ≤ x) (h2 : x ≤ 60000) : Calls Tryz.prog 208 #[.int .u64 x] w (LenPost x w) := by
 by_cases h3 : x ≤ 255
 · obtain ⟨L, hL, hl8, hp⟩ := len8_int x h1 h3
   have HL := zz hL
   have HP : Hid (∀ v : Int, v = (L : Int) → LenPost x w (.returned (.int .i64 v)) w) := fun v hv => ⟨L, by rw [hv], rfl, by omega, hp⟩
   have hs8 := len8_size
   clear hp h2 hL
   go_enter Tryz.func208, Tryz.ntmps208
   go_wp2
   go_ret
   refine HP.out _ ?_
   rw [len8_tab, HL.out, wrap_little (L : Int) (by omega) (by omega), wrap_little (L : Int) (by omega) (by omega)]
 · obtain ⟨y, hy⟩ : ∃ y, x / 256 = y := ⟨_, rfl⟩
   have y1 : 1 ≤ y := by omega
   have y2 : y ≤ 234 := by omega
   obtain ⟨L, hL, hl8, hp⟩ := len8_int y y1 (by omega)
   have HL := zz hL
   have HP : Hid (∀ v : Int, v = 8 + (L : Int) → LenPost x w (.returned (.int .i64 v)) w) := fun v hv => ⟨8 + L, by rw [hv]; rfl, rfl, by omega, by
    rw [show 8 + L = L + 8 by omega, Int.pow_add]
    have : (2 : Int) ^ 8 = 256 := by decide
    rw [this]
    omega⟩
   have h256 : 256 ≤ x := by omega
   have hs8 := len8_size
   clear hp hL h3
   go_enter Tryz.func208, Tryz.ntmps208
   go_wp2
   go_ret
   refine HP.out _ ?_
   rw [len8_tab, HL.out, wrap_little (L : Int) (by omega) (by omega)]
   exact wrap_little _ (by omega) (by omega)
theorem u_len (x : Int) (w : World) (h1 : 1 ≤ x) (h2 : x ≤ 60000) : Calls Tryz.prog 127 #[.int .u64 x] w (LenPost x w) := by
 have HC := zz (fun w => u_len64 x w h1 h2)
 go_enter Tryz.func127, Tryz.ntmps127
 go_wp2_with (go_at_call 208; refine (HC.out _).mono ?_; rintro e w' ⟨L, rfl, rfl, hL, hp⟩; have HP := zz hp; clear hp)
 go_ret
 exact ⟨L, rfl, rfl, hL, HP.out⟩
def PowPost (x : Int) (w : World) (e : Ending) (w' : World) : Prop := ∃ M : Nat, e = .returned (.int .u64 (M : Int)) ∧ w = w' ∧ 1 ≤ M ∧ (M : Int) ≤ 2 * x
theorem wrap_pow (L M : Nat) (hL : L ≤ 16) (hM : 2 ^ L = M) : IntKind.u64.wrap ((2 : Int) ^ L) = (M : Int) ∧ 1 ≤ M ∧ M ≤ 65536 := by
 have h1 : M ≤ 2 ^ 16 := by rw [← hM]; exact Nat.pow_le_pow_right (by decide) hL
 have h2 : 1 ≤ M := by rw [← hM]; exact Nat.one_le_two_pow
 have h3 : ((2 : Int) ^ L) = (M : Int) := by rw [← hM]; push_cast; rfl
 have h4 : M ≤ 65536 := by simpa using h1
 refine ⟨?_, h2, h4⟩
 rw [h3, IntKind.wrap_u64]
 omega
set_option maxRecDepth 100000 in
theorem u_pow2 (x : Int) (w : World) (h1 : 1 ≤ x) (h2 : x ≤ 60000) : Calls Tryz.prog 248 #[.int .i64 x] w (PowPost x w) := by
 have HC := zz (fun w => u_len x w h1 h2)
 go_enter Tryz.func248, Tryz.ntmps248
 go_wp2_with (go_at_call 127; refine (HC.out _).mono ?_; rintro e w' ⟨L, rfl, rfl, hL, hp⟩; obtain ⟨M, hM⟩ : ∃ M : Nat, 2 ^ L = M := ⟨_, rfl⟩; obtain ⟨e1, e2, e3⟩ := wrap_pow L M hL hM; have HP : Hid ((M : Int) ≤ 2 * x) := (by show _ ≤ _; rw [← hM]; push_cast; exact hp); clear hp hM)
 go_ret
 exact ⟨M, rfl, rfl, e2, HP.out⟩
def RandPost (S : Nat) (w : World) (e : Ending) (w' : World) : Prop := ∃ r : Nat, e = .returned (.int .u64 (r : Int)) ∧ r < 18446744073709551616 ∧ w'.heap[S]? = some (.cells #[.int .u64 (r : Int)] 284 (0, 0)) ∧ w.grownBy w' (some S)
theorem set_set (w : World) (S : Nat) (v0 v v' : Value) (T : TypeId) (_h : w.heap[S]? = some (.cells #[v0] T (0, 0))) : (w.setCell ⟨S, 0, none⟩ v).setCell ⟨S, 0, none⟩ v' = w.setCell ⟨S, 0, none⟩ v' := by
 rw [setCell_eq, setCell_eq, mapBlock_mapBlock, setCell_eq]
 congr 1
 funext c
 simp
set_option maxRecDepth 100000 in
set_option maxHeartbeats 4000000 in
theorem u_next (S X : Nat) (hX : X < 18446744073709551616) (w : World) (hS : w.heap[S]? = some (.cells #[.int .u64 (X : Int)] 284 (0, 0))) :
  Calls Tryz.prog 249 #[.pointer (some ⟨S, 0, none⟩)] w (RandPost S w) := by
 obtain ⟨A, hA⟩ : ∃ A : Nat, A = X ^^^ (X * 8192 % 18446744073709551616) := ⟨_, rfl⟩
 obtain ⟨B, hB⟩ : ∃ B : Nat, B = A ^^^ (A / 128) := ⟨_, rfl⟩
 obtain ⟨C, hC⟩ : ∃ C : Nat, C = B ^^^ (B * 131072 % 18446744073709551616) := ⟨_, rfl⟩
 have lA : A < 18446744073709551616 := by rw [hA]; exact Nat.xor_lt_two_pow (n := 64) (by omega) (by omega)
 have lB : B < 18446744073709551616 := by rw [hB]; exact Nat.xor_lt_two_pow (n := 64) (by omega) (by omega)
 have lC : C < 18446744073709551616 := by rw [hC]; exact Nat.xor_lt_two_pow (n := 64) (by omega) (by omega)
 have e1 : bits .xor .u64 (X : Int) (IntKind.u64.wrap ((X : Int) * 8192)) = (A : Int) := by
  rw [IntKind.wrap_u64, show ((X : Int) * 8192 % 18446744073709551616) = ((X * 8192 % 18446744073709551616 : Nat) : Int) by omega, bits_xor_u64_nat _ _ hX (by omega), hA]
 have e2 : bits .xor .u64 (A : Int) ((A : Int) / 128) = (B : Int) := by
  rw [show ((A : Int) / 128) = ((A / 128 : Nat) : Int) by omega, bits_xor_u64_nat _ _ lA (by omega), hB]
 have e3 : bits .xor .u64 (B : Int) (IntKind.u64.wrap ((B : Int) * 131072)) = (C : Int) := by
  rw [IntKind.wrap_u64, show ((B : Int) * 131072 % 18446744073709551616) = ((B * 131072 % 18446744073709551616 : Nat) : Int) by omega, bits_xor_u64_nat _ _ lB (by omega), hC]
 have HLC : Hid (C < 18446744073709551616) := lC
 have HS := zz hS
 have hc : w.cell? ⟨S, 0, none⟩ = some (.int .u64 (X : Int)) := by simp [World.cell?, hS]
 have hf : w.frozen? ⟨S, 0, none⟩ = false := by simp [World.frozen?, hS]
 have hss := fun v v' => set_set w S _ v v' _ hS
 clear hA hB hC hX hS lA lB lC
 go_enter Tryz.func249, Tryz.ntmps249
 go_wp2
 go_region
 all_goals go_wp2
 all_goals go_region
 all_goals go_wp2
 all_goals go_region
 all_goals go_wp2
 go_ret
 exact ⟨C, rfl, HLC.out, (by have := pheap_set w S 0 (.int .u64 (C : Int)) _ _ HS.out; exact this), pgrown_trans (pgrown_set w S 0 _) (pgrown_drewN (grown_refl _ _) 3)⟩
theorem RowU.beside {w w1 w2 : World} {blk off S : Nat} {d : Array Int} (h : RowU w w1 blk off d) (hg : w1.grownBy w2 (some S)) (hS : w.heap.size ≤ S) (hlt : blk < w.heap.size) : RowU w w2 blk off d :=
 ⟨holds_grown h.holds hg (Nat.lt_of_lt_of_le hlt h.grown.size) (by omega),
  ⟨hg.os.trans h.grown.os, hg.tape.trans h.grown.tape, hg.output.trans h.grown.output, Nat.le_trans h.grown.size hg.size, fun b hb hn => (hg.block b (Nat.lt_of_lt_of_le hb h.grown.size) (fun e => by injection e with e; omega)).trans (h.grown.block b hb hn)⟩⟩
theorem and_low (r M : Nat) (hr : r < 18446744073709551616) (h1 : 1 ≤ M) (hM : M ≤ 200000) : ∃ K : Nat, bits .and .u64 (r : Int) ((M : Int) - 1) = (K : Int) ∧ K < M := by
 refine ⟨r &&& (M - 1), ?_, ?_⟩
 · rw [show (M : Int) - 1 = ((M - 1 : Nat) : Int) by omega, bits_and_u64_nat _ _ hr (by omega)]
 · have := Nat.and_le_right (n := r) (m := M - 1)
   omega
theorem two_other (w : World) (blk j k S : Nat) (v v' : Value) (h : S ≠ blk) : (((w.drewN 1).setCell ⟨blk, j, none⟩ v).setCell ⟨blk, k, none⟩ v').heap[S]? = w.heap[S]? :=
 (RowKit.Below.heap_setCell _ ⟨blk, k, none⟩ v' S h).trans (RowKit.Below.heap_setCell _ ⟨blk, j, none⟩ v S h)
set_option maxRecDepth 100000 in
set_option maxHeartbeats 8000000 in
theorem u_break (blk off n cap a L : Nat) (d : Array Int) (w : World) (hH : Holds (Value.int .u32) w blk off d) (hn : d.size = n) (h8 : 8 ≤ L) (hb : a + L ≤ n) (hsz : n ≤ 60000) (hlt : blk < w.heap.size) :
  Calls Tryz.prog 211 #[.slice (some ⟨blk, off, none⟩) n cap, .int .i64 a, .int .i64 ((a : Int) + (L : Int))] w (Moved w blk off d a (a + L)) := by
 have HR0 := zz ((RowU.start hH).trans (w2 := w.alloc (.cells #[.int .u64 (L : Int)] 284)) ⟨holds_grown hH (pgrown_below (u_alloc1 w _) (some w.heap.size)) hlt (by omega), pgrown_below (u_alloc1 w _) _⟩)
 have HN := zz hn
 have hq : ∃ q : Nat, (L : Int) / 4 = (q : Int) ∧ 2 ≤ q ∧ q * 4 ≤ L := ⟨L / 4, by omega, by omega, by omega⟩
 obtain ⟨q, hq, q2, q4⟩ := hq
 have HPW := zz (fun w => u_pow2 (L : Int) w (by omega) (by omega))
 have hS0 : w.heap.size < (w.alloc (.cells #[.int .u64 (L : Int)] 284)).heap.size := by simp
 have HB0 : Hid ((w.alloc (.cells #[.int .u64 (L : Int)] 284)).heap[w.heap.size]? = some (.cells #[.int .u64 (L : Int)] 284 (0, 0))) := heap_alloc_new w _
 have hLa : (a : Int) + (L : Int) - (a : Int) = (L : Int) := by omega
 clear hH hn
 go_enter Tryz.func211, Tryz.ntmps211
 go_wp2_with (go_at_call 248; refine (HPW.out _).mono ?_; rintro e w' ⟨M, rfl, rfl, hM1, hM2⟩)
 obtain ⟨S, hS⟩ : ∃ S, w.heap.size = S := ⟨_, rfl⟩
 rw [hS] at hS0 HB0 ⊢
 have hSw : w.heap.size ≤ S := by omega
 go_loopw [9] (fun vi wr => ∃ (i X : Nat) (dk : Array Int), vi = .int .i64 ((a : Int) + (q : Int) * 2 - 1 + (i : Int)) ∧ i ≤ 3 ∧ Hid (RowU w wr blk off dk) ∧ Hid (PermIn a (a + L) d dk) ∧ Hid (wr.heap[S]? = some (.cells #[.int .u64 (X : Int)] 284 (0, 0))) ∧ Hid (X < 18446744073709551616)) (fun vi _ => ((a : Int) + (q : Int) * 2 + 3 - intOf vi).toNat)
 case atStart => exact ⟨0, L, d, by congr 1; omega, by omega, HR0, permIn_refl _ _ _, HB0, by show L < 18446744073709551616; omega⟩
 case round =>
  obtain ⟨i, X, dk, rfl, hi, HR, HP, HX, HXL⟩ := hrel
  by_cases hi3 : i < 3
  · have hi3' : (i : Int) < 3 := by omega
    have hqL : (q : Int) * 4 ≤ (L : Int) := by omega
    have hLn : (a : Int) + (L : Int) ≤ (n : Int) := by omega
    have hq2 : 2 ≤ (q : Int) := by omega
    have HS : Hid (dk.size = n) := (perm_size HP.out).trans HN.out
    obtain ⟨p, hp⟩ : ∃ p : Nat, a + (q * 2 - 1 + i) = p := ⟨_, rfl⟩
    have hidx : ((a : Int) + (q : Int) * 2 - 1 + (i : Int)).toNat = p := by omega
    have hpa : a ≤ p := by omega
    have hpn : p < a + L := by omega
    have HPP := zz hp
    clear hp
    go_wp2_with (go_at_call 249; refine (u_next S X HXL.out wr HX.out).mono ?_; rintro e w2 ⟨r, rfl, hr, hb2, hg2⟩
                 obtain ⟨K, hK, hKM⟩ := and_low r M hr hM1 (by omega)
                 have HR2 := zz (HR.out.beside hg2 hSw hlt)
                 have HB2 := zz hb2
                 have HRL := zz hr
                 have hcw : ∀ t, t < n → w2.cell? ⟨blk, off + t, none⟩ = some (.int .u32 (gA dk t)) := fun t ht => HR2.out.cell HS.out ht
                 have hfw : ∀ t, t < n → w2.frozen? ⟨blk, off + t, none⟩ = false := fun t ht => HR2.out.frozen HS.out ht
                 clear hg2 hb2 hr)
    · have hLK : L ≤ K := by assumption
      have hLK' : (L : Int) ≤ (K : Int) := by omega
      have hKL : (K : Int) - (L : Int) < (L : Int) := by omega
      obtain ⟨o, ho⟩ : ∃ o : Nat, a + (K - L) = o := ⟨_, rfl⟩
      have hO : ((a : Int) + ((K : Int) - (L : Int))).toNat = o := by omega
      have ho1 : a ≤ o := by omega
      have ho2 : o < a + L := by omega
      clear ho
      obtain ⟨v', hv'⟩ := cell?_setCell_some (w := w2) (p := ⟨blk, off + p, none⟩) (x := .int .u32 (gA dk o)) (q := ⟨blk, off + o, none⟩) (v := .int .u32 (gA dk o)) (hcw o (by omega))
      go_region
      all_goals go_wp2
      go_roundw
      case rel =>
       refine ⟨i + 1, r, swp dk p o, by congr 1; omega, by omega, ?_, ?_, ?_, HRL⟩
       · have hh := HR2.out.swap 1 p o (by rw [HS.out]; omega) (by rw [HS.out]; omega)
         exact hh
       · exact permIn_trans _ _ _ _ _ HP.out (swp_permIn _ _ _ _ _ (by omega) (by omega) (by omega) (by omega) (by rw [HS.out]; exact hb))
       · exact (two_other w2 blk _ _ S _ _ (by omega)).trans HB2.out
      case measure => simp [intOf]; omega
    · have hLK : ¬ L ≤ K := by omega
      have hLK' : (K : Int) < (L : Int) := by omega
      obtain ⟨o, ho⟩ : ∃ o : Nat, a + K = o := ⟨_, rfl⟩
      have hO : ((a : Int) + (K : Int)).toNat = o := by omega
      have ho1 : a ≤ o := by omega
      have ho2 : o < a + L := by omega
      clear ho
      obtain ⟨v', hv'⟩ := cell?_setCell_some (w := w2) (p := ⟨blk, off + p, none⟩) (x := .int .u32 (gA dk o)) (q := ⟨blk, off + o, none⟩) (v := .int .u32 (gA dk o)) (hcw o (by omega))
      go_region
      all_goals go_wp2
      go_roundw
      case rel =>
       refine ⟨i + 1, r, swp dk p o, by congr 1; omega, by omega, ?_, ?_, ?_, HRL⟩
       · have hh := HR2.out.swap 1 p o (by rw [HS.out]; omega) (by rw [HS.out]; omega)
         exact hh
       · exact permIn_trans _ _ _ _ _ HP.out (swp_permIn _ _ _ _ _ (by omega) (by omega) (by omega) (by omega) (by rw [HS.out]; exact hb))
       · exact (two_other w2 blk _ _ S _ _ (by omega)).trans HB2.out
      case measure => simp [intOf]; omega
  · have hi3' : 3 ≤ (i : Int) := by omega
    have HF : Hid (Moved w blk off d a (a + L) (.returned (.tuple #[])) wr) := ⟨dk, rfl, HR.out, HP.out⟩
    go_wp2
    go_end0
    exact HF.out
end
section
open Go.RowKit Go.Sort
section
variable {α : Type} [Inhabited α] {lt : α → α → Bool}
theorem sift_end {hi f r : Nat} {d : Array α} (h : hi ≤ 2 * r + 1) : siftDown lt hi f r d = d := by
 rw [siftDown, dif_pos h]
theorem sift_one {hi f r : Nat} {d : Array α} (h1 : 2 * r + 1 < hi) (h2 : ¬ 2 * r + 1 + 1 < hi ∨ lt d[f + (2 * r + 1)]! d[f + (2 * r + 1) + 1]! = false) :
  siftDown lt hi f r d = if lt d[f + r]! d[f + (2 * r + 1)]! = true then siftDown lt hi f (2 * r + 1) (swp d (f + r) (f + (2 * r + 1))) else d := by
 rw [siftDown, dif_neg (by omega)]
 have : (decide (2 * r + 1 + 1 < hi) && lt d[f + (2 * r + 1)]! d[f + (2 * r + 1) + 1]!) = false := by
  rcases h2 with h | h
  · simp [h]
  · rw [h]; simp
 rw [this]
 cases lt d[f + r]! d[f + (2 * r + 1)]! <;> simp
theorem sift_two {hi f r : Nat} {d : Array α} (h1 : 2 * r + 1 + 1 < hi) (h2 : lt d[f + (2 * r + 1)]! d[f + (2 * r + 1) + 1]! = true) :
  siftDown lt hi f r d = if lt d[f + r]! d[f + (2 * r + 1 + 1)]! = true then siftDown lt hi f (2 * r + 1 + 1) (swp d (f + r) (f + (2 * r + 1 + 1))) else d := by
 rw [siftDown, dif_neg (by omega)]
 have : (decide (2 * r + 1 + 1 < hi) && lt d[f + (2 * r + 1)]! d[f + (2 * r + 1) + 1]!) = true := by rw [h2]; simp [h1]
 rw [this]
 cases lt d[f + r]! d[f + (2 * r + 2)]! <;> simp [h1]
end
set_option maxRecDepth 100000 in
set_option maxHeartbeats 8000000 in
theorem u_sift (blk off n cap lo hi f : Nat) (d : Array Int) (w : World) (hH : Holds (Value.int .u32) w blk off d) (hn : d.size = n) (hb : f + hi ≤ n) (hlo : lo ≤ n) (hsz : n ≤ 60000) :
  Calls Tryz.prog 252 #[.slice (some ⟨blk, off, none⟩) n cap, .int .i64 lo, .int .i64 hi, .int .i64 f] w (Rowed w (.tuple #[]) blk off (siftDown ltInt hi f lo d)) := by
 have HR0 := zz (RowU.start hH)
 have HN := zz hn
 clear hH hn
 go_enter Tryz.func252, Tryz.ntmps252
 go_wp2
 go_loopw [8] (fun vr wr => ∃ (r : Nat) (dk : Array Int), vr = .int .i64 (r : Int) ∧ r ≤ n ∧ Hid (dk.size = n) ∧ Hid (RowU w wr blk off dk) ∧ Hid (siftDown ltInt hi f r dk = siftDown ltInt hi f lo d)) (fun vr _ => hi - (intOf vr).toNat)
 case atStart => exact ⟨lo, d, rfl, by omega, HN, HR0, rfl⟩
 case round =>
  obtain ⟨r, dk, rfl, hrn, HS, HR, HP⟩ := hrel
  obtain ⟨c, hc⟩ : ∃ c : Nat, 2 * r + 1 = c := ⟨_, rfl⟩
  have hcI : 2 * (r : Int) + 1 = (c : Int) := by omega
  have HC := zz hc
  have hcw : ∀ t, t < n → wr.cell? ⟨blk, off + t, none⟩ = some (.int .u32 (gA dk t)) := fun t ht => HR.out.cell HS.out ht
  have hfw : ∀ t, t < n → wr.frozen? ⟨blk, off + t, none⟩ = false := fun t ht => HR.out.frozen HS.out ht
  by_cases hch : c < hi
  · have hfr : (f : Int) + (r : Int) < (n : Int) := by omega
    have hfc : (f : Int) + (c : Int) < (n : Int) := by omega
    have hchI : (c : Int) < (hi : Int) := by omega
    by_cases hc2 : c + 1 < hi
    · have hc2I : (c : Int) + 1 < (hi : Int) := by omega
      have hfc2 : (f : Int) + (c : Int) + 1 < (n : Int) := by omega
      have hfc3 : (f : Int) + ((c : Int) + 1) < (n : Int) := by omega
      obtain ⟨b1, hb1⟩ : ∃ b1, ltInt (gA dk (f + c)) (gA dk (f + c + 1)) = b1 := ⟨_, rfl⟩
      have H1 := zz hb1
      clear hb1
      cases b1 with
      | true =>
       obtain ⟨b2, hb2⟩ : ∃ b2, ltInt (gA dk (f + r)) (gA dk (f + (c + 1))) = b2 := ⟨_, rfl⟩
       have H2 := zz hb2
       clear hb2
       cases b2 with
       | true =>
        have HQ : Hid (siftDown ltInt hi f (c + 1) (swp dk (f + r) (f + (c + 1))) = siftDown ltInt hi f lo d) := by
         show _ = _
         have hc := HC.out
         subst hc
         rw [← HP.out, sift_two hc2 H1.out, if_pos (show ltInt dk[f + r]! dk[f + (2 * r + 1 + 1)]! = true from H2.out)]
        go_wp2
        go_quiet ((go_at_call 215; exact quiet_eq (u_lessB _ _ _ H1.out _)))
        have HR2 := zz (HR.out.drewN nq)
        generalize wr.drewN nq = w2 at *
        have hcw : ∀ t, t < n → w2.cell? ⟨blk, off + t, none⟩ = some (.int .u32 (gA dk t)) := fun t ht => HR2.out.cell HS.out ht
        have hfw : ∀ t, t < n → w2.frozen? ⟨blk, off + t, none⟩ = false := fun t ht => HR2.out.frozen HS.out ht
        obtain ⟨v', hv'⟩ := cell?_setCell_some (w := w2) (p := ⟨blk, off + (f + r), none⟩) (x := .int .u32 (gA dk (f + (c + 1)))) (q := ⟨blk, off + (f + (c + 1)), none⟩) (v := .int .u32 (gA dk (f + (c + 1)))) (hcw (f + (c + 1)) (by omega))
        go_wp2
        go_quiet ((go_at_call 215; exact quiet_eq (u_lessB _ _ _ H2.out _)))
        go_wp2
        go_region
        all_goals go_wp2
        go_roundw
        case rel =>
         refine ⟨c + 1, swp dk (f + r) (f + (c + 1)), by go_num, by omega, (size_swp _ _ _).trans HS.out, ?_, HQ⟩
         have hh := HR2.out.swap (nq + 1) (f + r) (f + (c + 1)) (by rw [HS.out]; omega) (by rw [HS.out]; omega)
         exact hh
        case measure => simp [intOf]; omega
       | false =>
        have HQ : Hid (dk = siftDown ltInt hi f lo d) := by
         show _ = _
         have hc := HC.out
         subst hc
         rw [← HP.out, sift_two hc2 H1.out, if_neg (by rw [show ltInt dk[f + r]! dk[f + (2 * r + 1 + 1)]! = false from H2.out]; simp)]
        go_wp2
        go_quiet ((go_at_call 215; exact quiet_eq (u_lessB _ _ _ H1.out _)))
        have HR2 := zz (HR.out.drewN nq)
        generalize wr.drewN nq = w2 at *
        have hcw : ∀ t, t < n → w2.cell? ⟨blk, off + t, none⟩ = some (.int .u32 (gA dk t)) := fun t ht => HR2.out.cell HS.out ht
        have hfw : ∀ t, t < n → w2.frozen? ⟨blk, off + t, none⟩ = false := fun t ht => HR2.out.frozen HS.out ht
        go_wp2
        go_quiet ((go_at_call 215; exact quiet_eq (u_lessB _ _ _ H2.out _)))
        go_wp2
        go_end0
        exact ⟨rfl, by rw [← HQ.out]; exact (HR2.out.drewN _)⟩
      | false =>
       obtain ⟨b2, hb2⟩ : ∃ b2, ltInt (gA dk (f + r)) (gA dk (f + (c))) = b2 := ⟨_, rfl⟩
       have H2 := zz hb2
       clear hb2
       cases b2 with
       | true =>
        have HQ : Hid (siftDown ltInt hi f (c) (swp dk (f + r) (f + (c))) = siftDown ltInt hi f lo d) := by
         show _ = _
         have hc := HC.out
         subst hc
         rw [← HP.out, sift_one hch (.inr H1.out), if_pos (show ltInt dk[f + r]! dk[f + (2 * r + 1)]! = true from H2.out)]
        go_wp2
        go_quiet ((go_at_call 215; exact quiet_eq (u_lessB _ _ _ H1.out _)))
        have HR2 := zz (HR.out.drewN nq)
        generalize wr.drewN nq = w2 at *
        have hcw : ∀ t, t < n → w2.cell? ⟨blk, off + t, none⟩ = some (.int .u32 (gA dk t)) := fun t ht => HR2.out.cell HS.out ht
        have hfw : ∀ t, t < n → w2.frozen? ⟨blk, off + t, none⟩ = false := fun t ht => HR2.out.frozen HS.out ht
        obtain ⟨v', hv'⟩ := cell?_setCell_some (w := w2) (p := ⟨blk, off + (f + r), none⟩) (x := .int .u32 (gA dk (f + (c)))) (q := ⟨blk, off + (f + (c)), none⟩) (v := .int .u32 (gA dk (f + (c)))) (hcw (f + (c)) (by omega))
        go_wp2
        go_quiet ((go_at_call 215; exact quiet_eq (u_lessB _ _ _ H2.out _)))
        go_wp2
        go_region
        all_goals go_wp2
        go_roundw
        case rel =>
         refine ⟨c, swp dk (f + r) (f + (c)), by go_num, by omega, (size_swp _ _ _).trans HS.out, ?_, HQ⟩
         have hh := HR2.out.swap (nq + 1) (f + r) (f + (c)) (by rw [HS.out]; omega) (by rw [HS.out]; omega)
         exact hh
        case measure => simp [intOf]; omega
       | false =>
        have HQ : Hid (dk = siftDown ltInt hi f lo d) := by
         show _ = _
         have hc := HC.out
         subst hc
         rw [← HP.out, sift_one hch (.inr H1.out), if_neg (by rw [show ltInt dk[f + r]! dk[f + (2 * r + 1)]! = false from H2.out]; simp)]
        go_wp2
        go_quiet ((go_at_call 215; exact quiet_eq (u_lessB _ _ _ H1.out _)))
        have HR2 := zz (HR.out.drewN nq)
        generalize wr.drewN nq = w2 at *
        have hcw : ∀ t, t < n → w2.cell? ⟨blk, off + t, none⟩ = some (.int .u32 (gA dk t)) := fun t ht => HR2.out.cell HS.out ht
        have hfw : ∀ t, t < n → w2.frozen? ⟨blk, off + t, none⟩ = false := fun t ht => HR2.out.frozen HS.out ht
        go_wp2
        go_quiet ((go_at_call 215; exact quiet_eq (u_lessB _ _ _ H2.out _)))
        go_wp2
        go_end0
        exact ⟨rfl, by rw [← HQ.out]; exact (HR2.out.drewN _)⟩
    · have hc2I : (hi : Int) ≤ (c : Int) + 1 := by omega
      have hc2D : decide ((c : Int) + 1 < (hi : Int)) = false := by simp; omega
      obtain ⟨b2, hb2⟩ : ∃ b2, ltInt (gA dk (f + r)) (gA dk (f + (c))) = b2 := ⟨_, rfl⟩
      have H2 := zz hb2
      clear hb2
      cases b2 with
      | true =>
       have HQ : Hid (siftDown ltInt hi f (c) (swp dk (f + r) (f + (c))) = siftDown ltInt hi f lo d) := by
        show _ = _
        have hc := HC.out
        subst hc
        rw [← HP.out, sift_one hch (.inl hc2), if_pos (show ltInt dk[f + r]! dk[f + (2 * r + 1)]! = true from H2.out)]
       go_wp2
       go_quiet ((go_at_call 215; exact quiet_eq (u_less _ _ _)))
       have HR2 := zz (HR.out.drewN nq)
       generalize wr.drewN nq = w2 at *
       have hcw : ∀ t, t < n → w2.cell? ⟨blk, off + t, none⟩ = some (.int .u32 (gA dk t)) := fun t ht => HR2.out.cell HS.out ht
       have hfw : ∀ t, t < n → w2.frozen? ⟨blk, off + t, none⟩ = false := fun t ht => HR2.out.frozen HS.out ht
       obtain ⟨v', hv'⟩ := cell?_setCell_some (w := w2) (p := ⟨blk, off + (f + r), none⟩) (x := .int .u32 (gA dk (f + (c)))) (q := ⟨blk, off + (f + (c)), none⟩) (v := .int .u32 (gA dk (f + (c)))) (hcw (f + (c)) (by omega))
       go_wp2
       go_quiet ((go_at_call 215; exact quiet_eq (u_lessB _ _ _ H2.out _)))
       go_wp2
       go_region
       all_goals go_wp2
       go_roundw
       case rel =>
        refine ⟨c, swp dk (f + r) (f + (c)), by go_num, by omega, (size_swp _ _ _).trans HS.out, ?_, HQ⟩
        have hh := HR2.out.swap (nq + 1) (f + r) (f + (c)) (by rw [HS.out]; omega) (by rw [HS.out]; omega)
        exact hh
       case measure => simp [intOf]; omega
      | false =>
       have HQ : Hid (dk = siftDown ltInt hi f lo d) := by
        show _ = _
        have hc := HC.out
        subst hc
        rw [← HP.out, sift_one hch (.inl hc2), if_neg (by rw [show ltInt dk[f + r]! dk[f + (2 * r + 1)]! = false from H2.out]; simp)]
       go_wp2
       go_quiet ((go_at_call 215; exact quiet_eq (u_less _ _ _)))
       have HR2 := zz (HR.out.drewN nq)
       generalize wr.drewN nq = w2 at *
       have hcw : ∀ t, t < n → w2.cell? ⟨blk, off + t, none⟩ = some (.int .u32 (gA dk t)) := fun t ht => HR2.out.cell HS.out ht
       have hfw : ∀ t, t < n → w2.frozen? ⟨blk, off + t, none⟩ = false := fun t ht => HR2.out.frozen HS.out ht
       go_wp2
       go_quiet ((go_at_call 215; exact quiet_eq (u_lessB _ _ _ H2.out _)))
       go_wp2
       go_end0
       exact ⟨rfl, by rw [← HQ.out]; exact (HR2.out.drewN _)⟩
  · have HF : Hid (Rowed w (.tuple #[]) blk off (siftDown ltInt hi f lo d) (.returned (.tuple #[])) wr) := ⟨rfl, by rw [← HP.out, sift_end (by omega)]; exact HR.out⟩
    have hchI : (hi : Int) ≤ (c : Int) := by omega
    go_wp2
    go_end0
    exact HF.out
theorem u_siftAt (blk off n cap f hi lo : Nat) (_d dk : Array Int) (w wr : World) (HR : RowU w wr blk off dk) (hS : dk.size = n) (hb : f + hi ≤ n) (hlo : lo ≤ n) (hsz : n ≤ 60000) :
  Calls Tryz.prog 252 #[.slice (some ⟨blk, off, none⟩) n cap, .int .i64 lo, .int .i64 hi, .int .i64 f] wr fun e w' => e = .returned (.tuple #[]) ∧ RowU w w' blk off (siftDown ltInt hi f lo dk) :=
 (u_sift blk off n cap lo hi f dk wr HR.holds hS hb hlo hsz).mono fun _e _w' h => ⟨h.1, HR.trans h.2⟩
theorem size_sift {lt : Int → Int → Bool} (hi f : Nat) : ∀ (k r : Nat) (d : Array Int), hi - r ≤ k → (siftDown lt hi f r d).size = d.size
 | 0, r, d, h => by rw [sift_end (by omega)]
 | k + 1, r, d, h => by
  by_cases h1 : 2 * r + 1 < hi
  · cases hl : lt d[f + (2 * r + 1)]! d[f + (2 * r + 1) + 1]! with
    | true =>
     by_cases h2 : 2 * r + 1 + 1 < hi
     · rw [sift_two h2 hl]
       split
       · rw [size_sift hi f k _ _ (by omega), size_swp]
       · rfl
     · rw [sift_one h1 (.inl h2)]
       split
       · rw [size_sift hi f k _ _ (by omega), size_swp]
       · rfl
    | false =>
     rw [sift_one h1 (.inr hl)]
     split
     · rw [size_sift hi f k _ _ (by omega), size_swp]
     · rfl
  · rw [sift_end (by omega)]
set_option maxRecDepth 100000 in
set_option maxHeartbeats 8000000 in
theorem u_heap (blk off n cap a L : Nat) (d : Array Int) (w : World) (hH : Holds (Value.int .u32) w blk off d) (hn : d.size = n) (h1 : 1 ≤ L) (hb : a + L ≤ n) (hsz : n ≤ 60000) :
  Calls Tryz.prog 210 #[.slice (some ⟨blk, off, none⟩) n cap, .int .i64 a, .int .i64 ((a : Int) + (L : Int))] w (Rowed w (.tuple #[]) blk off (heapSort ltInt d a (a + L))) := by
 have HR0 := zz (RowU.start hH)
 have HN := zz hn
 have hLa : (a : Int) + (L : Int) - (a : Int) = (L : Int) := by omega
 obtain ⟨h, hh⟩ : ∃ h : Nat, (L - 1) / 2 = h := ⟨_, rfl⟩
 have hhI : ((L : Int) - 1) / 2 = (h : Int) := by omega
 have h1I : 1 ≤ (L : Int) := by omega
 have HHI := zz hhI
 have HT : Hid (heapSort ltInt d a (a + L) = heapPop ltInt a L (heapBuild ltInt L a (h + 1) d)) := by
  show _ = _
  unfold heapSort
  rw [show a + L - a = L by omega, hh]
 have hhL : h + 1 ≤ L := by omega
 clear hH hn hh hhI
 go_enter Tryz.func210, Tryz.ntmps210
 go_wp2
 go_loopw [9] (fun vi wr => ∃ (v : Int) (k : Nat) (dk : Array Int), vi = .int .i64 v ∧ v + 1 = (k : Int) ∧ k ≤ h + 1 ∧ Hid (dk.size = n) ∧ Hid (RowU w wr blk off dk) ∧ Hid (heapBuild ltInt L a k dk = heapBuild ltInt L a (h + 1) d)) (fun vi _ => (intOf vi + 1).toNat)
 case atStart => exact ⟨h, h + 1, d, by rw [HHI.out], by omega, by omega, HN, HR0, rfl⟩
 case round =>
  obtain ⟨v, k, dk, rfl, hv, hk, HS, HR, HP⟩ := hrel
  cases k with
  | succ k =>
   obtain rfl : v = (k : Int) := by omega
   clear hv
   have HC := zz (u_siftAt blk off n cap a L k d dk w wr HR.out HS.out hb (by omega) hsz)
   go_wp2_with (go_at_call 252; (with_reducible refine HC.out.mono ?_); rintro e w2 ⟨rfl, hr2⟩; have HR2 := zz hr2; clear hr2)
   go_roundw
   case rel => exact ⟨(k : Int) - 1, k, siftDown ltInt L a k dk, rfl, by omega, by omega, (size_sift L a (L - k) k dk (by omega)).trans HS.out, HR2, HP.out⟩
   case measure => simp [intOf]
  | zero =>
   obtain rfl : v = -1 := by omega
   have HP0 : Hid (dk = heapBuild ltInt L a (h + 1) d) := HP.out
   clear hv hk HP
   go_wp2
   go_loopw [10] (fun vi wr => ∃ (v : Int) (k : Nat) (dj : Array Int), vi = .int .i64 v ∧ v + 1 = (k : Int) ∧ k ≤ L ∧ Hid (dj.size = n) ∧ Hid (RowU w wr blk off dj) ∧ Hid (heapPop ltInt a k dj = heapPop ltInt a L dk)) (fun vi _ => (intOf vi + 1).toNat)
   case atStart => exact ⟨(L : Int) - 1, L, dk, rfl, by omega, by omega, HS, HR, rfl⟩
   case round =>
    obtain ⟨v, k, dj, rfl, hv, hk, HS2, HR2, HP2⟩ := hrel
    cases k with
    | succ k =>
     obtain rfl : v = (k : Int) := by omega
     clear hv
     have hcw : ∀ t, t < n → wr.cell? ⟨blk, off + t, none⟩ = some (.int .u32 (gA dj t)) := fun t ht => HR2.out.cell HS2.out ht
     have hfw : ∀ t, t < n → wr.frozen? ⟨blk, off + t, none⟩ = false := fun t ht => HR2.out.frozen HS2.out ht
     have hkI : (a : Int) + (k : Int) < (n : Int) := by omega
     have haI : (a : Int) < (n : Int) := by omega
     obtain ⟨v', hv'⟩ := cell?_setCell_some (w := wr) (p := ⟨blk, off + a, none⟩) (x := .int .u32 (gA dj (a + k))) (q := ⟨blk, off + (a + k), none⟩) (v := .int .u32 (gA dj (a + k))) (hcw (a + k) (by omega))
     have HW := zz (HR2.out.swap 1 a (a + k) (by rw [HS2.out]; omega) (by rw [HS2.out]; omega))
     go_wp2
     go_region
     go_wp2_with (go_at_call 252; refine (u_siftAt blk off n cap a k 0 d (swp dj a (a + k)) w _ HW.out ((size_swp _ _ _).trans HS2.out) (by omega) (by omega) hsz).mono ?_; rintro e w2 ⟨rfl, hr2⟩; have HR3 := zz hr2; clear hr2)
     go_roundw
     case rel => exact ⟨(k : Int) - 1, k, siftDown ltInt k a 0 (swp dj a (a + k)), rfl, by omega, by omega, (size_sift k a k 0 _ (by omega)).trans ((size_swp _ _ _).trans HS2.out), HR3, HP2.out⟩
     case measure => simp [intOf]
    | zero =>
     obtain rfl : v = -1 := by omega
     have HF : Hid (Rowed w (.tuple #[]) blk off (heapSort ltInt d a (a + L)) (.returned (.tuple #[])) wr) := ⟨rfl, by
      have e : heapSort ltInt d a (a + L) = dj := by rw [HT.out, ← HP0.out, ← HP2.out]; rfl
      rw [e]; exact HR2.out⟩
     go_wp2
     go_end0
     exact HF.out
end
end Go.Proofs.YtpcnolkdnmolgaaGreatDoor
