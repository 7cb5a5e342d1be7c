/- Opens. -/
import Derived.Test.YtggpjddomicekaaC
import Derived.Test.YtggpjddomicekaaM
namespace Go.Proofs.Ytggpjddomicekaa
open Go.RowKit

attribute [local go_sem] Oper.semAt_some

/-- How many of a list are of ino. -/
def hits (ino : Int) (l : List (Nat × Int)) : Nat := l.countP fun x => decide (ino ≠ 0 ∧ x.2 = ino)
theorem hits_snoc (ino : Int) (l : List (Nat × Int)) (x : Nat × Int) : hits ino (l ++ [x]) = hits ino l + if ino ≠ 0 ∧ x.2 = ino then 1 else 0 := by
  unfold hits; rw [List.countP_append]; by_cases h : ino ≠ 0 ∧ x.2 = ino <;> simp [h]
/-- How many of k cores' rows. -/
def hitsTo (T : Nat → Int) (n ino : Int) : Nat → Nat
  | 0 => 0
  | k + 1 => hitsTo T n ino k + hits ino (rowOf T n k)
theorem hits_le (ino : Int) (l : List (Nat × Int)) : hits ino l ≤ l.length := List.countP_le_length
theorem hitsTo_le (T : Nat → Int) (n ino : Int) (k : Nat) : hitsTo T n ino k ≤ 16 * k := by
  induction k with
  | zero => simp [hitsTo]
  | succ k ih => have h1 := hits_le ino (rowOf T n k); have h2 := rowOf_length T n k; unfold hitsTo; omega

set_option maxRecDepth 100000 in
set_option maxHeartbeats 2000000 in
theorem opens_in (b : Nat) (n ino : Int) (T : Nat → Int) (w : World) (hT : Tab w b T n) (hn0 : 0 ≤ n) (hn : n ≤ 8) :
    CallsIn Fence.wide 7 Try.prog 10 #[.pointer (some ⟨b, 0, none⟩), .int .u32 ino] w fun e W' => e = .returned (.int .i64 (hitsTo T n ino n.toNat)) ∧ Below w.heap.size w W' := by
  have hcores := hT.cores
  have hbl := hT.lt
  refine callsIn_of_wp_marks Try.func10 rfl trivial ?_ rfl
  simp only [Try.ntmps10, List.size_toArray, List.length_cons, List.length_nil, Nat.reduceAdd, Nat.reduceSub, Array.replicate_succ, Array.replicate_zero, List.push_toArray, List.append_toArray, List.nil_append, List.cons_append]
  gi_wp2
  refine wpIn_loop_marks w.heap.size
    (fun t W => ∃ k : Nat, (k : Int) ≤ n ∧ (∃ u5 u6 u14 u15 u16 u17 u18 u19 u20 u21 u22 u23 u24 u25 u26 u27 u28 u29 u30 u31 : Value, t = #[Value.pointer (some ⟨b, 0, none⟩), .int .u32 ino, undef, .pointer (some ⟨w.heap.size, 0, none⟩), .pointer (some ⟨w.heap.size + 1, 0, none⟩), u5, u6, .pointer (some ⟨b, 0, none⟩), .bool false, .pointer (some ⟨b, 0, none⟩), .pointer (some ⟨b, 0, none⟩), .pointer (some ⟨b, 128, none⟩), .int .i64 n, .int .i64 k, u14, u15, u16, u17, u18, u19, u20, u21, u22, u23, u24, u25, u26, u27, u28, u29, u30, u31]) ∧ (Boxed W w.heap.size 29 (.int .u32 ino) ∧ Boxed W (w.heap.size + 1) 3 (.int .i64 (hitsTo T n ino k))) ∧ Below w.heap.size w W)
    (fun t _ => n.toNat + 1 - (intOf (t.getD 13 undef)).toNat) ?start (MarksOk.nil _ _) ?round
  case start =>
    refine ⟨0, by omega, ⟨_, _, _, _, _, _, _, _, _, _, _, _, _, _, _, _, _, _, _, _, rfl⟩, ⟨(Boxed.new w 29 (.int .u32 ino)).alloc _, ?_⟩, ((Below.refl _ w).alloc (Nat.le_refl _) _).alloc (by simp) _⟩
    have := Boxed.new (w.alloc (.cells #[.int .u32 ino] 29)) 3 (.int .i64 0)
    rw [World.size_alloc] at this
    exact this
  case round =>
    rintro t ds W ⟨k, hk, ⟨u5, u6, u14, u15, u16, u17, u18, u19, u20, u21, u22, u23, u24, u25, u26, u27, u28, u29, u30, u31, rfl⟩, ⟨bI, bN⟩, hB⟩ hm
    have hszW := hB.size
    by_cases he : (k : Int) = n
    · have hge : ¬ (k : Int) < n := by omega
      have ek : n.toNat = k := by omega
      have hc := bN.cell
      have hf := bN.frozen
      have Ek := Lib.hid ek
      clear ek he
      gi_wp2
      have bN2 := bN.set (.int .i64 (hitsTo T n ino k))
      have hB2 := hB.setCell (p := ⟨w.heap.size + 1, 0, none⟩) (by simp) (.int .i64 (hitsTo T n ino k))
      refine leaves_marks ds _ _ (Shutting.refl _ _) (hm.set _ _) fun W' hs => ?_
      have hc' := hs.cell bN2.cell
      exact ⟨_, by simp [results, Try.f10, go_sem, hc']; rfl, by rw [Ek.out], hB2.trans hs.below⟩
    · have hlt : (k : Int) < n := by omega
      clear he
      gi_wp2_with (refine ⟨trivial, ?_⟩; gi_at_call 12; refine (callsIn_wide.2 (callsIn_wide.1 (opener b k _))).mono ?_; rintro e w' ⟨rfl, rfl⟩)
      have bT := (Boxed.new W 24 (.pointer (some ⟨b, 0, none⟩))).alloc (.cells #[.int .i64 k] 3)
      have bC := Boxed.new (W.alloc (.cells #[.pointer (some ⟨b, 0, none⟩)] 24)) 3 (.int .i64 k)
      have hBW := ((Below.refl W.heap.size W).alloc (Nat.le_refl _) (.cells #[.pointer (some ⟨b, 0, none⟩)] 24)).alloc (by simp) (.cells #[.int .i64 k] 3)
      have hB0 := hB.trans (hBW.mono hszW)
      have bI0 := (bI.alloc (.cells #[.pointer (some ⟨b, 0, none⟩)] 24)).alloc (.cells #[.int .i64 k] 3)
      have bN0 := (bN.alloc (.cells #[.pointer (some ⟨b, 0, none⟩)] 24)).alloc (.cells #[.int .i64 k] 3)
      have hm0 := (hm.alloc (.cells #[.pointer (some ⟨b, 0, none⟩)] 24)).alloc (.cells #[.int .i64 k] 3)
      have hsz : ((W.alloc (.cells #[.pointer (some ⟨b, 0, none⟩)] 24)).alloc (.cells #[.int .i64 k] 3)).heap.size = W.heap.size + 2 := by simp
      simp only [World.size_alloc] at bC
      obtain ⟨W0, hW0⟩ : ∃ W0, (W.alloc (.cells #[.pointer (some ⟨b, 0, none⟩)] 24)).alloc (.cells #[.int .i64 k] 3) = W0 := ⟨_, rfl⟩
      rw [hW0] at bT bC hB0 bI0 bN0 hm0 hsz ⊢
      clear hW0 hBW bI bN hm
      have hle := hitsTo_le T n ino k
      refine wpIn_rangeFunc_ownH rfl (by omega) (gf := 13) (lb := #[.pointer (some ⟨W.heap.size, 0, none⟩), .pointer (some ⟨W.heap.size + 1, 0, none⟩)]) rfl trivial (enters_of Try.func13 (by kernel_rfl) rfl)
        (iter_stops W.heap.size (W.heap.size + 1) b k n T w.heap.size W0 hn hbl (by omega) (by omega) (by omega) bT.cell bC.cell (hT.below hB0 hbl)) belowK_t (belowK_b (by omega)) (Below.refl _ _) (fun _ => rfl)
        (fun pre W => ((Boxed W w.heap.size 29 (.int .u32 ino) ∧ Boxed W (w.heap.size + 1) 3 (.int .i64 ((hitsTo T n ino k + hits ino pre : Nat) : Int))) ∧ Below w.heap.size w W) ∧ (MarksOk w.heap.size ds W ∧ ∀ D, mark D ∈ ds → D < W0.heap.size))
        (fun _ _ _ => False)
        (OwnFrom.and (OwnFrom.and (OwnFrom.and (Own.from (boxed_own _ _ _) _) (Own.from (boxed_own _ _ _) _)) (ownFrom_below (Nat.le_refl _) (by omega))) (MarksOk.own _ _ _))
        (fun _ _ _ _ _ hs _ _ => hs)
        ⟨⟨⟨bI0, by simpa [hits] using bN0⟩, hB0⟩, hm0.atStart⟩
        (fun x a' W2 => ∃ Bx, w.heap.size + 1 < Bx ∧ Opened W2 Bx x ∧ a' = { tmps := #[Value.pointer (some ⟨b, 0, none⟩), .int .u32 ino, undef, .pointer (some ⟨w.heap.size, 0, none⟩), .pointer (some ⟨w.heap.size + 1, 0, none⟩), .int .i64 k, .pointer (some ⟨Bx, 0, none⟩), .pointer (some ⟨b, 0, none⟩), .bool false, .pointer (some ⟨b, 0, none⟩), .pointer (some ⟨b, 0, none⟩), .pointer (some ⟨b, 128, none⟩), .int .i64 n, .int .i64 k, .bool true, .int .i64 k, .pointer (some ⟨b, 0, none⟩), .int .i64 k, .func (.func 13) #[] #[.pointer (some ⟨W.heap.size, 0, none⟩), .pointer (some ⟨W.heap.size + 1, 0, none⟩)], .agg #[.int .i64 x.1, .int .u32 x.2], u20, u21, u22, u23, u24, u25, u26, u27, u28, u29, u30, u31], defers := [] })
        (fun x a' _ X Y row hs hg hr => by obtain ⟨Bx, h1, h2, h3⟩ := hs; exact ⟨Bx, h1, h2.kept hg (h2.not_row (fun r e => (hr r e).2)), h3⟩)
        ?assign ?body ?done ?stop
      case assign =>
        rintro l pre x W2 K ⟨⟨⟨bI2, bN2⟩, hB2⟩, hm2, hl2⟩ hK
        gi_wp2
        exact hK _ _ ((KeepsOthers.alloc _ _).from _) ((Below.refl _ W2).alloc hB2.size _) ⟨⟨⟨bI2.alloc _, bN2.alloc _⟩, hB2.alloc hB2.size _⟩, hm2.alloc _, hl2⟩ ⟨W2.heap.size, bN2.lt, heap_alloc_new W2 _, rfl⟩
      case body =>
        rintro l pre x a' W2 hl _ ⟨⟨⟨bI2, bN2⟩, hB2⟩, hm2, hl2⟩ ⟨Bx, hBx, hX, rfl⟩ hlt2
        have hI := bI2.cell
        have hN := bN2.cell
        have hNf := bN2.frozen
        have hx1 := hX.cell1
        have hh := hits_le ino pre
        have hsn := Lib.hid (hits_snoc ino pre x)
        by_cases h0 : ino = 0
        · subst h0
          gi_wp2
          refine ⟨KeepsFrom.refl _ _, Below.refl _ _, ⟨⟨⟨bI2, ?_⟩, hB2⟩, hm2, hl2⟩⟩
          rw [hsn.out, if_neg (by simp)]; exact bN2
        · have h0' : (ino != 0) = true := by simpa using h0
          by_cases he : x.2 = ino
          · have he' : (x.2 == ino) = true := by simpa using he
            have He := Lib.hid he
            have H0 := Lib.hid h0
            clear he h0
            gi_wp2
            refine ⟨(KeepsOthers.setCell _ _ _).from _, (Below.refl _ W2).setCell (p := ⟨w.heap.size + 1, 0, none⟩) (by simp) _, ⟨⟨⟨bI2.other (by omega) _, ?_⟩, hB2.setCell (p := ⟨w.heap.size + 1, 0, none⟩) (by simp) _⟩, hm2.set _ _, hl2⟩⟩
            rw [hsn.out, if_pos ⟨H0.out, He.out⟩]
            have := bN2.set (.int .i64 (((hitsTo T n ino k + hits ino pre : Nat) : Int) + 1))
            have e : (((hitsTo T n ino k + (hits ino pre + 1) : Nat)) : Int) = ((hitsTo T n ino k + hits ino pre : Nat) : Int) + 1 := by omega
            rw [e]; simpa using this
          · have he' : (x.2 == ino) = false := by simpa using he
            have He := Lib.hid he
            clear he h0
            gi_wp2
            refine ⟨KeepsFrom.refl _ _, Below.refl _ _, ⟨⟨⟨bI2, ?_⟩, hB2⟩, hm2, hl2⟩⟩
            rw [hsn.out, if_neg (fun hh => He.out hh.2)]; exact bN2
      case done =>
        rintro D ys W2 hD rfl ⟨⟨⟨bI2, bN2⟩, hB2⟩, hm2, hl2⟩ hK
        have hm3 := hm2.cons hl2 (by omega) hD hK
        gi_wp2
        refine ⟨⟨⟨k + 1, by omega, ⟨_, _, _, _, _, _, _, _, _, _, _, _, _, _, _, _, _, _, _, _, by go_num⟩, ⟨bI2, bN2⟩, hB2⟩, ?_⟩, hm3⟩
        simp [intOf]; omega
      case stop =>
        rintro D c pre W _ _ h _
        exact h.elim
end Go.Proofs.Ytggpjddomicekaa
