/- Sorting a row of uint32: the row in memory; insertion sort. -/
import Derived.Test.YtpcjbfhgmcioaaaGreatRK
import Derived.IntWalk
import Derived.Sort.AssemblyPlain
import Derived.Sort.Row
import Derived.CellFam
import Derived.BigGuard
import Derived.BigCall
import Derived.BigQuiet
import Derived.Deep.QuietTactic
import Derived.RegionTactic
import Derived.Sort.LotD4
namespace Go.Proofs.YtpcjbfhgmcioaaaGreat
open Go.RowKit Go.Sort

/-- An element. -/
def gA (d : Array Int) (j : Nat) : Int := d[j]!
/-- Behind w, the row holds d, and nothing else that was there has turned. -/
structure RowU (w w' : World) (blk off : Nat) (d : Array Int) : Prop where
  holds : Holds (Value.int .u32) w' blk off d
  grown : w.grownBy w' (some blk)
theorem RowU.cell {w w' : World} {blk off : Nat} {d : Array Int} (h : RowU w w' blk off d) {j n : Nat} (hn : d.size = n) (hj : j < n) : w'.cell? ⟨blk, off + j, none⟩ = some (.int .u32 (gA d j)) := (h.holds j (by omega)).1
theorem RowU.frozen {w w' : World} {blk off : Nat} {d : Array Int} (h : RowU w w' blk off d) {j n : Nat} (hn : d.size = n) (hj : j < n) : w'.frozen? ⟨blk, off + j, none⟩ = false := (h.holds j (by omega)).2
theorem RowU.start {w : World} {blk off : Nat} {d : Array Int} (h : Holds (Value.int .u32) w blk off d) : RowU w w blk off d := ⟨h, pgrown_below (Below.refl _ _) _⟩
theorem RowU.drewN {w w' : World} {blk off : Nat} {d : Array Int} (h : RowU w w' blk off d) (q : Nat) : RowU w (w'.drewN q) blk off d := ⟨h.holds, pgrown_trans h.grown (pgrown_drewN (grown_refl _ _) q)⟩
theorem RowU.trans {w w1 w2 : World} {blk off : Nat} {d1 d2 : Array Int} (h : RowU w w1 blk off d1) (k : RowU w1 w2 blk off d2) : RowU w w2 blk off d2 := ⟨k.holds, pgrown_trans h.grown k.grown⟩
theorem RowU.swap {w w' : World} {blk off : Nat} {d : Array Int} (h : RowU w w' blk off d) (q i j : Nat) (hi : i < d.size) (hj : j < d.size) :
    RowU w (((w'.drewN q).setCell ⟨blk, off + i, none⟩ (.int .u32 (gA d j))).setCell ⟨blk, off + j, none⟩ (.int .u32 (gA d i))) blk off (swp d i j) := by
  have h1 := h.drewN q
  generalize w'.drewN q = w1 at h1 ⊢
  refine ⟨?_, pgrown_trans (pgrown_trans h1.grown (pgrown_set _ _ _ _)) (pgrown_set _ _ _ _)⟩
  have e : ((w1.setCell ⟨blk, off + i, none⟩ (.int .u32 (gA d j))).setCell ⟨blk, off + j, none⟩ (.int .u32 (gA d i))) = putRow (Value.int .u32) w1 blk off (swp d i j) := by
    rw [← putRow_swp (Value.int .u32) w1 blk off d i j hi hj, putRow_self _ _ _ _ _ h1.holds]
    rfl
  rw [e]
  exact holds_putRow _ _ _ _ d _ h1.holds (size_swp _ _ _)

theorem u_isNaN (x : Int) (w : World) : Calls Tryz.prog 155 #[.int .u32 x] w fun e w' => e = .returned (.bool false) ∧ w = w' := by
  go_enter Tryz.func155, Tryz.ntmps155
  go_wp2
  go_ret
  exact ⟨rfl, rfl⟩
theorem u_less (x y : Int) (w : World) : Calls Tryz.prog 143 #[.int .u32 x, .int .u32 y] w fun e w' => e = .returned (.bool (ltInt x y)) ∧ w = w' := by
  go_enter Tryz.func143, Tryz.ntmps143
  go_wp2_with (go_at_call 155; refine (u_isNaN _ _).mono ?_; rintro e w' ⟨rfl, rfl⟩)
  go_ret
  exact ⟨rfl, rfl⟩

section
variable {α : Type} [Inhabited α] (lt : α → α → Bool)
theorem u_inner_go (a j : Nat) (d : Array α) (hj : a < j) (hl : lt d[j]! d[j - 1]! = true) : insInner lt a j d = insInner lt a (j - 1) (swp d j (j - 1)) := by
  cases j with
  | zero => omega
  | succ k =>
    simp only [Nat.add_sub_cancel] at hl ⊢
    rw [insInner]
    simp [hj, hl]
theorem u_inner_stop (a j : Nat) (d : Array α) (h : j ≤ a ∨ lt d[j]! d[j - 1]! = false) : insInner lt a j d = d := by
  cases j with
  | zero => rw [insInner]
  | succ k =>
    simp only [Nat.add_sub_cancel] at h
    rw [insInner]
    rcases h with h | h
    · simp [show ¬ a < k + 1 by omega]
    · simp [h]
theorem u_outer_go (a b i : Nat) (d : Array α) (h : i < b) : insOuter lt a b i d = insOuter lt a b (i + 1) (insInner lt a i d) := by
  rw [insOuter, if_pos h]
theorem u_outer_stop (a b i : Nat) (d : Array α) (h : ¬ i < b) : insOuter lt a b i d = d := by
  rw [insOuter, if_neg h]
end

/-- A function sorts, or moves, within a row. -/
def Rowed (w : World) (v : Value) (blk off : Nat) (d : Array Int) (e : Ending) (w' : World) : Prop := e = .returned v ∧ RowU w w' blk off d

set_option maxHeartbeats 4000000 in
theorem u_ins (blk off n cap a b : Nat) (d : Array Int) (w : World) (hH : Holds (Value.int .u32) w blk off d) (hn : d.size = n) (hab : a ≤ b) (hb : b ≤ n) (hsz : n < 4611686018427387904) :
    Calls Tryz.prog 137 #[.slice (some ⟨blk, off, none⟩) n cap, .int .i64 a, .int .i64 b] w (Rowed w (.tuple #[]) blk off (insertionSort ltInt d a b)) := by
  have HR0 := Lib.hid (RowU.start hH)
  have HN := Lib.hid hn
  clear hH hn
  go_enter Tryz.func137, Tryz.ntmps137
  go_wp2
  go_loopw [6] (fun vi wr => ∃ (i : Nat) (dk : Array Int), vi = .int .i64 i ∧ a < i ∧ i ≤ b + 1 ∧ Hid (dk.size = n) ∧ Hid (RowU w wr blk off dk) ∧ Hid (insOuter ltInt a b i dk = insOuter ltInt a b (a + 1) d)) (fun vi _ => b + 1 - (intOf vi).toNat)
  case atStart => exact ⟨a + 1, d, by go_num, by omega, by omega, HN, HR0, rfl⟩
  case round =>
    obtain ⟨i, dk, rfl, hai, hib, HS, HR, HO⟩ := hrel
    by_cases hlt : i < b
    · go_wp2
      obtain ⟨wo, rfl⟩ : ∃ wo : World, wo = wr := ⟨_, rfl⟩
      go_loopw [7] (fun vj wr2 => ∃ (j : Nat) (dj : Array Int), vj = .int .i64 j ∧ a ≤ j ∧ j ≤ i ∧ Hid (dj.size = n) ∧ Hid (RowU w wr2 blk off dj) ∧ Hid (insInner ltInt a j dj = insInner ltInt a i dk)) (fun vj _ => (intOf vj).toNat)
      case atStart => exact ⟨i, dk, rfl, by omega, Nat.le_refl _, HS, HR, rfl⟩
      case round =>
        obtain ⟨j, dj, rfl, haj, hji, HS2, HR2, HI⟩ := hrel
        have hcw : ∀ t, t < n → wr.cell? ⟨blk, off + t, none⟩ = some (.int .u32 (gA dj t)) := fun t ht => HR2.out.cell HS2.out ht
        have hfw : ∀ t, t < n → wr.frozen? ⟨blk, off + t, none⟩ = false := fun t ht => HR2.out.frozen HS2.out ht
        have OUT : Hid ((j ≤ a ∨ ltInt (gA dj j) (gA dj (j - 1)) = false) → ∀ q, ∃ i' dk', Value.int .i64 ((i : Int) + 1) = .int .i64 (i' : Nat) ∧ a < i' ∧ i' ≤ b + 1 ∧ Hid (dk'.size = n) ∧ Hid (RowU w (wr.drewN q) blk off dk') ∧ Hid (insOuter ltInt a b i' dk' = insOuter ltInt a b (a + 1) d)) := fun hs q =>
          ⟨i + 1, dj, by go_num, by omega, by omega, HS2, HR2.out.drewN q, by
            show _ = _
            rw [← HO.out, u_outer_go _ _ _ _ _ hlt, ← HI.out, u_inner_stop _ _ _ _ hs]⟩
        by_cases hja : a < j
        · have hjn : (j : Int) < (n : Int) := by omega
          have hj1 : (j : Int) - 1 < (n : Int) := by omega
          have hj0 : 1 ≤ (j : Int) := by omega
          have hja' : decide ((a : Int) < (j : Int)) = true := by simpa using hja
          have hwr : IntKind.i64.wrap ((j : Int) - 1) = (j : Int) - 1 := IntWalk.i64_in _ (by omega)
          have htn : ((j : Int) - 1).toNat = j - 1 := by omega
          go_wp2
          go_quiet ((go_at_call 143; exact quiet_eq (u_less _ _ _)))
          clear hwr
          go_wp2
          · have hl : ltInt (gA dj j) (gA dj (j - 1)) = true := by assumption
            have HL := Lib.hid hl
            go_region
            all_goals go_wp2
            go_roundw
            case rel =>
              refine ⟨j - 1, swp dj j (j - 1), by congr 1; omega, by omega, by omega, ?_, ?_, ?_⟩
              · exact (size_swp _ _ _).trans HS2.out
              · have hh := HR2.out.swap (nq + 1) j (j - 1) (by rw [HS2.out]; omega) (by rw [HS2.out]; omega)
                exact hh
              · show _ = _
                rw [← HI.out, u_inner_go ltInt a j dj hja HL.out]
            case measure => simp [intOf]; omega
          · have hl : ltInt (gA dj j) (gA dj (j - 1)) = false := by assumption
            go_roundw
            case rel => exact OUT.out (Or.inr hl) nq
            case measure => simp [intOf]; omega
        · go_wp2
          go_quiet ((go_at_call 143; exact quiet_eq (u_less _ _ _)))
          go_wp2
          go_roundw
          case rel => exact OUT.out (Or.inl (by omega)) nq
          case measure => simp [intOf]; omega
    · have HF : Hid (Rowed w (.tuple #[]) blk off (insertionSort ltInt d a b) (.returned (.tuple #[])) wr) := ⟨rfl, by
        have e : insertionSort ltInt d a b = dk := by unfold insertionSort; rw [← HO.out, u_outer_stop _ _ _ _ _ hlt]
        rw [e]; exact HR.out⟩
      go_wp2
      go_end0
      exact HF.out
end Go.Proofs.YtpcjbfhgmcioaaaGreat

/- Sorting a row of uint32: the pivot. -/
namespace Go.Proofs.YtpcjbfhgmcioaaaGreat
open Go.RowKit Go.Sort

/-- A number in a box of its own; nothing else that was there has turned. -/
structure BoxAt (w w' : World) (S s : Nat) : Prop where
  box : w'.heap[S]? = some (.cells #[.int .i64 (s : Int)] 3 (0, 0))
  grown : w.grownBy w' (some S)
theorem BoxAt.cell {w w' : World} {S s : Nat} (h : BoxAt w w' S s) : w'.cell? ⟨S, 0, none⟩ = some (.int .i64 (s : Int)) := by simp [World.cell?, h.box]
theorem BoxAt.frozen {w w' : World} {S s : Nat} (h : BoxAt w w' S s) : w'.frozen? ⟨S, 0, none⟩ = false := by simp [World.frozen?, h.box]
theorem BoxAt.trans {w w1 w2 : World} {S s s2 : Nat} (h : BoxAt w w1 S s) (k : BoxAt w1 w2 S s2) : BoxAt w w2 S s2 := ⟨k.box, pgrown_trans h.grown k.grown⟩
theorem BoxAt.lt {w w' : World} {S s : Nat} (h : BoxAt w w' S s) : S < w'.heap.size := (Array.getElem?_eq_some_iff.1 h.box).1
theorem holds_grown {w w' : World} {S blk off : Nat} {d : Array Int} (h : Holds (Value.int .u32) w blk off d) (hg : w.grownBy w' (some S)) (hlt : blk < w.heap.size) (hne : S ≠ blk) : Holds (Value.int .u32) w' blk off d := by
  have e := hg.block blk hlt (fun e => hne (by injection e with e; exact e.symm))
  intro j hj
  obtain ⟨h1, h2⟩ := h j hj
  exact ⟨(World.cell?_of_block e).trans h1, by
    unfold World.frozen? at h2 ⊢
    rw [e]
    exact h2⟩

theorem u_lessB (x y : Int) (c : Bool) (h : ltInt x y = c) (w : World) : Calls Tryz.prog 143 #[.int .u32 x, .int .u32 y] w fun e w' => e = .returned (.bool c) ∧ w = w' := by
  subst h
  exact u_less x y w
def Order2 (w : World) (S x y s : Nat) (e : Ending) (w' : World) : Prop := e = .returned (.tuple #[.int .i64 (x : Int), .int .i64 (y : Int)]) ∧ BoxAt w w' S s
set_option maxHeartbeats 4000000 in
theorem u_order2 (blk off n cap a b S s x y s' : Nat) (d : Array Int) (w : World) (hH : Holds (Value.int .u32) w blk off d) (hn : d.size = n) (ha : a < n) (hb : b < n) (hsz : n < 4611686018427387904) (hS : BoxAt w w S s) (hs : s < 1000) (hr : order2 ltInt d a b s = (x, y, s')) :
    Calls Tryz.prog 157 #[.slice (some ⟨blk, off, none⟩) n cap, .int .i64 a, .int .i64 b, .pointer (some ⟨S, 0, none⟩)] w (Order2 w S x y s') := by
  have HB := Lib.hid hS
  have cS := hS.cell
  have fS := hS.frozen
  have hcw : ∀ t, t < n → w.cell? ⟨blk, off + t, none⟩ = some (.int .u32 (gA d t)) := fun t ht => (RowU.start hH).cell hn ht
  have ha' : (a : Int) < (n : Int) := by omega
  have hb' : (b : Int) < (n : Int) := by omega
  cases hl : ltInt (gA d b) (gA d a) with
  | true =>
    have hl' : ltInt d[b]! d[a]! = true := hl
    have HL := Lib.hid hl
    clear hl
    have HP : Hid (b = x ∧ a = y ∧ s + 1 = s') := by
      unfold order2 at hr
      rw [if_pos hl'] at hr
      injection hr with h1 h2
      injection h2 with h2 h3
      exact ⟨h1, h2, h3⟩
    clear hH hS hr hl'
    go_enter Tryz.func157, Tryz.ntmps157
    go_wp2
    go_quiet ((go_at_call 143; exact quiet_eq (u_lessB _ _ _ HL.out _)))
    have cS2 : (w.drewN nq).cell? ⟨S, 0, none⟩ = some (.int .i64 (s : Int)) := cS
    have fS2 : (w.drewN nq).frozen? ⟨S, 0, none⟩ = false := fS
    have HB2 : Hid (BoxAt w ((w.drewN nq).setCell ⟨S, 0, none⟩ (.int .i64 ((s : Int) + 1))) S (s + 1)) := ⟨by
      rw [pheap_set (w.drewN nq) S 0 _ _ _ HB.out.box]; simp, pgrown_trans (pgrown_drewN (grown_refl _ _) nq) (pgrown_set _ _ _ _)⟩
    go_wp2
    go_ret2
    obtain ⟨rfl, rfl, rfl⟩ := HP.out
    exact ⟨rfl, HB2.out⟩
  | false =>
    have hl' : ltInt d[b]! d[a]! = false := hl
    have HL := Lib.hid hl
    clear hl
    have HP : Hid (a = x ∧ b = y ∧ s = s') := by
      unfold order2 at hr
      rw [if_neg (by rw [hl']; simp)] at hr
      injection hr with h1 h2
      injection h2 with h2 h3
      exact ⟨h1, h2, h3⟩
    clear hH hS hr hl'
    go_enter Tryz.func157, Tryz.ntmps157
    go_wp2
    go_quiet ((go_at_call 143; exact quiet_eq (u_lessB _ _ _ HL.out _)))
    have HB2 : Hid (BoxAt w (w.drewN nq) S s) := ⟨HB.out.box, pgrown_drewN (grown_refl _ _) nq⟩
    go_wp2
    go_ret2
    obtain ⟨rfl, rfl, rfl⟩ := HP.out
    exact ⟨rfl, HB2.out⟩

def Median (w : World) (S x s : Nat) (e : Ending) (w' : World) : Prop := e = .returned (.int .i64 (x : Int)) ∧ BoxAt w w' S s
theorem order2_range {d : Array Int} {a b s x y s' n : Nat} (hr : order2 ltInt d a b s = (x, y, s')) (ha : a < n) (hb : b < n) : x < n ∧ y < n ∧ s' ≤ s + 1 := by
  have h1 := order2_mem ltInt d a b s
  have h2 := order2_count ltInt d a b s
  rw [hr] at h1 h2
  simp only at h1 h2
  omega
set_option maxHeartbeats 4000000 in
theorem u_median (blk off n cap a b c S s x s' : Nat) (d : Array Int) (w : World) (hH : Holds (Value.int .u32) w blk off d) (hn : d.size = n) (ha : a < n) (hb : b < n) (hc : c < n) (hsz : n < 4611686018427387904) (hS : BoxAt w w S s) (hne : S ≠ blk) (hlt : blk < w.heap.size) (hs : s < 900) (hr : median ltInt d a b c s = (x, s')) :
    Calls Tryz.prog 154 #[.slice (some ⟨blk, off, none⟩) n cap, .int .i64 a, .int .i64 b, .int .i64 c, .pointer (some ⟨S, 0, none⟩)] w (Median w S x s') := by
  obtain ⟨x1, y1, s1, h1⟩ : ∃ x1 y1 s1, order2 ltInt d a b s = (x1, y1, s1) := ⟨_, _, _, rfl⟩
  obtain ⟨x2, y2, s2, h2⟩ : ∃ x2 y2 s2, order2 ltInt d y1 c s1 = (x2, y2, s2) := ⟨_, _, _, rfl⟩
  obtain ⟨x3, y3, s3, h3⟩ : ∃ x3 y3 s3, order2 ltInt d x1 x2 s2 = (x3, y3, s3) := ⟨_, _, _, rfl⟩
  obtain ⟨r1, r2, r3⟩ := order2_range h1 ha hb
  obtain ⟨r4, r5, r6⟩ := order2_range h2 r2 hc
  obtain ⟨r7, r8, r9⟩ := order2_range h3 r1 r4
  have HP : Hid (y3 = x ∧ s3 = s') := by
    unfold median at hr
    simp only [h1, h2, h3] at hr
    injection hr with e1 e2
    exact ⟨e1, e2⟩
  have C1 := Lib.hid (u_order2 blk off n cap a b S s x1 y1 s1 d w hH hn ha hb hsz hS (by omega) h1)
  have C2 := Lib.hid (fun w1 (hg : BoxAt w w1 S s1) => u_order2 blk off n cap y1 c S s1 x2 y2 s2 d w1 (holds_grown hH hg.grown hlt hne) hn r2 hc hsz ⟨hg.box, grown_refl _ _⟩ (by omega) h2)
  have C3 := Lib.hid (fun w1 (hg : BoxAt w w1 S s2) => u_order2 blk off n cap x1 x2 S s2 x3 y3 s3 d w1 (holds_grown hH hg.grown hlt hne) hn r1 r4 hsz ⟨hg.box, grown_refl _ _⟩ (by omega) h3)
  clear hH hn ha hb hc hS hne hlt hs hr h1 h2 h3 r1 r2 r3 r4 r5 r6 r7 r8 r9
  go_enter Tryz.func154, Tryz.ntmps154
  go_wp2_with (first
    | (go_at_call 157; (with_reducible refine C1.out.mono ?_); rintro e w1 ⟨rfl, hb1⟩; have H1 := Lib.hid hb1; clear hb1)
    | (go_at_call 157; (with_reducible refine (C2.out _ H1.out).mono ?_); rintro e w2 ⟨rfl, hb2⟩; have H2 := Lib.hid (H1.out.trans hb2); clear hb2)
    | (go_at_call 157; (with_reducible refine (C3.out _ H2.out).mono ?_); rintro e w3 ⟨rfl, hb3⟩; have H3 := Lib.hid (H2.out.trans hb3); clear hb3))
  go_ret
  obtain ⟨rfl, rfl⟩ := HP.out
  exact ⟨rfl, H3.out⟩
theorem median_range {d : Array Int} {a b c s x s' n : Nat} (hr : median ltInt d a b c s = (x, s')) (ha : a < n) (hb : b < n) (hc : c < n) : x < n ∧ s' ≤ s + 3 := by
  have h1 := median_mem ltInt d a b c s
  have h2 := median_count ltInt d a b c s
  rw [hr] at h1 h2
  simp only at h1 h2
  omega
set_option maxHeartbeats 4000000 in
theorem u_adj (blk off n cap a S s x s' : Nat) (d : Array Int) (w : World) (hH : Holds (Value.int .u32) w blk off d) (hn : d.size = n) (ha0 : 1 ≤ a) (ha : a + 1 < n) (hsz : n < 4611686018427387904) (hS : BoxAt w w S s) (hne : S ≠ blk) (hlt : blk < w.heap.size) (hs : s < 900) (hr : medianAdjacent ltInt d a s = (x, s')) :
    Calls Tryz.prog 153 #[.slice (some ⟨blk, off, none⟩) n cap, .int .i64 a, .pointer (some ⟨S, 0, none⟩)] w (Median w S x s') := by
  unfold medianAdjacent at hr
  have C1 := u_median blk off n cap (a - 1) a (a + 1) S s x s' d w hH hn (by omega) (by omega) (by omega) hsz hS hne hlt hs hr
  rw [show ((a - 1 : Nat) : Int) = (a : Int) - 1 by omega, show ((a + 1 : Nat) : Int) = (a : Int) + 1 by omega] at C1
  have HC := Lib.hid C1
  clear hH hn hS hne hlt hs hr C1
  go_enter Tryz.func153, Tryz.ntmps153
  go_wp2_with (go_at_call 154; (with_reducible refine HC.out.mono ?_); rintro e w1 ⟨rfl, hb1⟩; have H1 := Lib.hid hb1; clear hb1)
  go_ret
  exact ⟨rfl, H1.out⟩
theorem adj_range {d : Array Int} {a s x s' n : Nat} (hr : medianAdjacent ltInt d a s = (x, s')) (ha0 : 1 ≤ a) (ha : a + 1 < n) : x < n ∧ s' ≤ s + 3 := median_range hr (by omega) (by omega) (by omega)

theorem s0t {s : Nat} (h : ((s : Int) == 0) = true) : s = 0 := by simpa using h
theorem s0f {s : Nat} (h : ((s : Int) == 0) = false) : s ≠ 0 := by simpa using h
theorem s12t {s : Nat} (h : ((s : Int) == 12) = true) : s = 12 := by
  have h : (s : Int) = 12 := by simpa using h
  omega
theorem s12f {s : Nat} (h : ((s : Int) == 12) = false) : s ≠ 12 := by
  have h : ¬ (s : Int) = 12 := by simpa using h
  omega
def Pivot (w : World) (x h : Int) (e : Ending) (w' : World) : Prop := e = .returned (.tuple #[.int .i64 x, .int .i64 h]) ∧ Below w.heap.size w w'
theorem raw_count (d : Array Int) (a b : Nat) : (rawPivot ltInt d a b).2 ≤ 12 := by
  unfold rawPivot
  split
  · split
    · have h1 := medianAdjacent_count ltInt d (a + (b - a) / 4 * 1) 0
      have h2 := medianAdjacent_count ltInt d (a + (b - a) / 4 * 2) (medianAdjacent ltInt d (a + (b - a) / 4 * 1) 0).2
      have h3 := medianAdjacent_count ltInt d (a + (b - a) / 4 * 3) (medianAdjacent ltInt d (a + (b - a) / 4 * 2) (medianAdjacent ltInt d (a + (b - a) / 4 * 1) 0).2).2
      refine Nat.le_trans (median_count _ _ _ _ _ _) ?_
      omega
    · exact Nat.le_trans (median_count _ _ _ _ _ _) (by omega)
  · exact Nat.zero_le _
theorem u_alloc1 (w : World) (a : Obj) : RowKit.Below w.heap.size w (w.alloc a) := (RowKit.Below.refl _ _).alloc (Nat.le_refl _) _
theorem below_of_box {w w' : World} {S s : Nat} {v : Value} {T : TypeId} (h : BoxAt (w.alloc (.cells #[v] T)) w' S s) (hS : S = w.heap.size) : Below w.heap.size w w' := by
  have h1 := u_alloc1 w (.cells #[v] T)
  exact ⟨h.grown.os.trans h1.os, h.grown.tape.trans h1.tape, h.grown.output.trans h1.output, Nat.le_trans h1.size h.grown.size, fun b hb => (h.grown.block b (by simp; omega) (fun e => by injection e with e; omega)).trans (h1.block b hb)⟩
set_option maxRecDepth 100000 in
set_option maxHeartbeats 8000000 in
theorem u_pivot (blk off n cap a b : Nat) (d : Array Int) (w : World) (hH : Holds (Value.int .u32) w blk off d) (hn : d.size = n) (hab : a < b) (hb : b ≤ n) (hsz : n < 4611686018427387904) (hlt : blk < w.heap.size) (x : Nat) (h : Hint) (hr : choosePivot ltInt d a b = (x, h)) :
    Calls Tryz.prog 140 #[.slice (some ⟨blk, off, none⟩) n cap, .int .i64 a, .int .i64 b] w (Pivot w x (hintCode h)) := by
  obtain ⟨s, hs⟩ : ∃ s, (rawPivot ltInt d a b).2 = s := ⟨_, rfl⟩
  have hsc : s ≤ 12 := by rw [← hs]; exact raw_count d a b
  have hx : (rawPivot ltInt d a b).1 = x ∧ hintOf s = h := by
    rw [choosePivot_eq, hs] at hr
    injection hr with e1 e2
    exact ⟨e1, e2⟩
  obtain ⟨hx, hh⟩ := hx
  have hraw : rawPivot ltInt d a b = (x, s) := Prod.ext hx hs
  have hbox : BoxAt (w.alloc (.cells #[.int .i64 0] 3)) (w.alloc (.cells #[.int .i64 0] 3)) w.heap.size 0 := ⟨heap_alloc_new w _, grown_refl _ _⟩
  have hH0 : Holds (Value.int .u32) (w.alloc (.cells #[.int .i64 0] 3)) blk off d := holds_grown hH (pgrown_below (u_alloc1 w _) (some w.heap.size)) hlt (by omega)
  obtain ⟨L, hL⟩ : ∃ L, b - a = L := ⟨_, rfl⟩
  obtain ⟨q, hq⟩ : ∃ q, L / 4 = q := ⟨_, rfl⟩
  have HFIN : Hid (∀ (w' : World) (c : Int), BoxAt (w.alloc (.cells #[.int .i64 0] 3)) w' w.heap.size s → (s = 0 ∧ c = 1 ∨ s ≠ 0 ∧ s = 12 ∧ c = 2 ∨ s ≠ 0 ∧ s ≠ 12 ∧ c = 0) → Pivot w x (hintCode h) (.returned (.tuple #[.int .i64 (x : Int), .int .i64 c])) w') := fun w' c hb hc => ⟨by
    rw [← hh]
    unfold hintOf
    rcases hc with ⟨h1, h2⟩ | ⟨h1, h2, h3⟩ | ⟨h1, h2, h3⟩
    · rw [if_pos h1, h2]; rfl
    · rw [if_neg h1, if_pos h2, h3]; rfl
    · rw [if_neg h1, if_neg h2, h3]; rfl, below_of_box hb rfl⟩
  unfold rawPivot at hraw
  rw [hL, hq] at hraw
  have hLi : (b : Int) - (a : Int) = (L : Int) := by omega
  have hqi : (L : Int) / 4 = (q : Int) := by omega
  have hq4 : (q : Int) * 4 ≤ (L : Int) := by omega
  have hLn : (L : Int) + (a : Int) ≤ (n : Int) := by omega
  have q0 : 0 ≤ (q : Int) := by omega
  have HBX := Lib.hid hbox
  by_cases h8 : 8 ≤ L
  · rw [if_pos h8] at hraw
    have h8' : (8 : Int) ≤ (L : Int) := by omega
    by_cases h50 : 50 ≤ L
    · rw [if_pos h50] at hraw
      have h50' : (50 : Int) ≤ (L : Int) := by omega
      obtain ⟨x1, s1, g1⟩ : ∃ x1 s1, medianAdjacent ltInt d (a + q * 1) 0 = (x1, s1) := ⟨_, _, rfl⟩
      obtain ⟨x2, s2, g2⟩ : ∃ x2 s2, medianAdjacent ltInt d (a + q * 2) s1 = (x2, s2) := ⟨_, _, rfl⟩
      obtain ⟨x3, s3, g3⟩ : ∃ x3 s3, medianAdjacent ltInt d (a + q * 3) s2 = (x3, s3) := ⟨_, _, rfl⟩
      simp only [g1, g2, g3] at hraw
      obtain ⟨r1, r2⟩ := adj_range (n := n) g1 (by omega) (by omega)
      obtain ⟨r3, r4⟩ := adj_range (n := n) g2 (by omega) (by omega)
      obtain ⟨r5, r6⟩ := adj_range (n := n) g3 (by omega) (by omega)
      have C1 := Lib.hid (u_adj blk off n cap (a + q * 1) w.heap.size 0 x1 s1 d _ hH0 hn (by omega) (by omega) hsz hbox (by omega) (by simp; omega) (by omega) g1)
      have C2 := Lib.hid (fun w1 (hg : BoxAt (w.alloc (.cells #[.int .i64 0] 3)) w1 w.heap.size s1) => u_adj blk off n cap (a + q * 2) w.heap.size s1 x2 s2 d w1 (holds_grown hH0 hg.grown (by simp; omega) (by omega)) hn (by omega) (by omega) hsz ⟨hg.box, grown_refl _ _⟩ (by omega) (Nat.lt_of_lt_of_le (by simp; omega) hg.grown.size) (by omega) g2)
      have C3 := Lib.hid (fun w1 (hg : BoxAt (w.alloc (.cells #[.int .i64 0] 3)) w1 w.heap.size s2) => u_adj blk off n cap (a + q * 3) w.heap.size s2 x3 s3 d w1 (holds_grown hH0 hg.grown (by simp; omega) (by omega)) hn (by omega) (by omega) hsz ⟨hg.box, grown_refl _ _⟩ (by omega) (Nat.lt_of_lt_of_le (by simp; omega) hg.grown.size) (by omega) g3)
      have CM := Lib.hid (fun w1 (hg : BoxAt (w.alloc (.cells #[.int .i64 0] 3)) w1 w.heap.size s3) => u_median blk off n cap x1 x2 x3 w.heap.size s3 x s d w1 (holds_grown hH0 hg.grown (by simp; omega) (by omega)) hn r1 r3 r5 hsz ⟨hg.box, grown_refl _ _⟩ (by omega) (Nat.lt_of_lt_of_le (by simp; omega) hg.grown.size) (by omega) hraw)
      have e1 : ((a + q * 1 : Nat) : Int) = (a : Int) + (q : Int) := by omega
      have e2 : ((a + q * 2 : Nat) : Int) = (a : Int) + (q : Int) * 2 := by omega
      have e3 : ((a + q * 3 : Nat) : Int) = (a : Int) + (q : Int) * 3 := by omega
      rw [e1] at C1
      rw [e2] at C2
      rw [e3] at C3
      clear hH hn hH0 hbox hr hx hh hs hraw e1 e2 e3 hL hq h8 h50 hab hb hlt g1 g2 g3 r1 r2 r3 r4 r5 r6
      go_enter Tryz.func140, Tryz.ntmps140
      go_wp2_with (first
        | (go_at_call 153; (with_reducible refine C1.out.mono ?_); rintro e w1 ⟨rfl, hb1⟩; have G1 := Lib.hid hb1; clear hb1)
        | (go_at_call 153; (with_reducible refine (C2.out _ G1.out).mono ?_); rintro e w2 ⟨rfl, hb1⟩; have G2 := Lib.hid (G1.out.trans hb1); clear hb1)
        | (go_at_call 153; (with_reducible refine (C3.out _ G2.out).mono ?_); rintro e w3 ⟨rfl, hb1⟩; have G3 := Lib.hid (G2.out.trans hb1); clear hb1)
        | (go_at_call 154; (with_reducible refine (CM.out _ G3.out).mono ?_); rintro e w4 ⟨rfl, hb1⟩; have cS := hb1.cell; have H1 := Lib.hid (G3.out.trans hb1); clear hb1))
      all_goals go_ret2
      · exact HFIN.out _ _ H1.out (.inl ⟨s0t (by assumption), rfl⟩)
      · exact HFIN.out _ _ H1.out (.inr (.inl ⟨s0f (by assumption), s12t (by assumption), rfl⟩))
      · exact HFIN.out _ _ H1.out (.inr (.inr ⟨s0f (by assumption), s12f (by assumption), rfl⟩))
    · rw [if_neg (by omega)] at hraw
      have h50' : (L : Int) < 50 := by omega
      have CM := Lib.hid (u_median blk off n cap (a + q * 1) (a + q * 2) (a + q * 3) w.heap.size 0 x s d _ hH0 hn (by omega) (by omega) (by omega) hsz hbox (by omega) (by simp; omega) (by omega) hraw)
      have e1 : ((a + q * 1 : Nat) : Int) = (a : Int) + (q : Int) := by omega
      have e2 : ((a + q * 2 : Nat) : Int) = (a : Int) + (q : Int) * 2 := by omega
      have e3 : ((a + q * 3 : Nat) : Int) = (a : Int) + (q : Int) * 3 := by omega
      rw [e1, e2, e3] at CM
      have HA := Lib.hid hab
      clear hH hn hH0 hbox hr hx hh hs hraw e1 e2 e3 hL hq h8 h50 hab hb hlt
      go_enter Tryz.func140, Tryz.ntmps140
      go_wp2_with (go_at_call 154; (with_reducible refine CM.out.mono ?_); rintro e w1 ⟨rfl, hb1⟩; have cS := hb1.cell; have H1 := Lib.hid hb1; clear hb1)
      all_goals go_ret2
      · exact HFIN.out _ _ H1.out (.inl ⟨s0t (by assumption), rfl⟩)
      · exact HFIN.out _ _ H1.out (.inr (.inl ⟨s0f (by assumption), s12t (by assumption), rfl⟩))
      · exact HFIN.out _ _ H1.out (.inr (.inr ⟨s0f (by assumption), s12f (by assumption), rfl⟩))
  · rw [if_neg h8] at hraw
    have h8' : (L : Int) < 8 := by omega
    have HP : Hid (a + q * 2 = x ∧ 0 = s) := by injection hraw with e1 e2; exact ⟨e1, e2⟩
    clear hH hn hH0 hbox hr hx hh hs hraw hL hq h8 hab hb hlt
    go_enter Tryz.func140, Tryz.ntmps140
    go_wp2
    go_ret2
    obtain ⟨rfl, rfl⟩ := HP.out
    refine cast ?_ (HFIN.out _ 1 HBX.out (.inl ⟨rfl, rfl⟩))
    congr 4
end Go.Proofs.YtpcjbfhgmcioaaaGreat
