/- fair.Turns, fair.Bound. -/
import Derived.Test.YtmnombfgahmfkaaGreatDoorOE
namespace Go.Proofs.YtmnombfgahmfkaaGreatDoor
open Go.RowKit Go.Maps

def u8V (x : Int) : Value := .int .u8 x
theorem infoU8 : (Tryz.prog.info? 5).map (fun i => (i.zero, i.size, i.bytes)) = some (some (.int .u8 0), 1, 1) := by kernel_rfl
theorem turn1_take (c j : Nat) (h : j < c) : (turn1 c).take (j + 1) = (turn1 c).take j ++ [(j : Int)] := by
  rw [List.take_add_one]
  congr 1
  unfold turn1
  rw [List.getElem?_map, List.getElem?_range h]
  rfl
theorem row_blockT {w : World} {base : Nat} {e : TypeId} {size k : Nat} {v : Value} {xs : List Value} (h : w.ownsRow base e size v k xs) : ∀ q, v.ownBlock = some q → base ≤ q := by
  intro q hq
  rcases h.2 with ⟨rfl, _⟩ | ⟨g, cap, cur, rfl, hg, _⟩
  · simp [Value.ownBlock] at hq
  · simp [Value.ownBlock] at hq
    omega
set_option maxRecDepth 100000 in
set_option maxHeartbeats 2000000 in
theorem t_turns (c parts : Nat) (w : World) (h1 : 1 ≤ c) (h2 : c ≤ 8) (h3 : 1 ≤ parts) (h4 : parts ≤ 100) :
    Calls Tryz.prog 6 #[.int .i64 c, .int .i64 parts] w fun e w' => ∃ v, e = .returned v ∧ w'.ownsRow w.heap.size 5 1 v (parts * c) ((turnsL c parts).map u8V) ∧ Below w.heap.size w w' := by
  obtain ⟨i0, hi, hz0, hz1, hz2⟩ := info_parts infoU8
  have hp2 : (parts : Int) ≤ 10000 := by omega
  have hp1 : (1 : Int) ≤ parts := by omega
  have hin1 : decide ((1 : Int) ≤ c ∧ (c : Int) ≤ 8) = true := decide_eq_true ⟨by omega, by omega⟩
  have hin2 : decide ((1 : Int) ≤ parts ∧ (parts : Int) ≤ 10000) = true := decide_eq_true ⟨by omega, by omega⟩
  go_enter Tryz.func6, Tryz.ntmps6
  go_wp2_with (go_at_call 10; refine (t_in _ _ _ _).mono ?_; rintro e w' ⟨rfl, rfl⟩; first | rw [hin1] | rw [hin2])
  go_loopw [4, 15] (fun t i wr => ∃ (k : Nat) (v : Value), k ≤ parts ∧ i = .int .i64 (k : Int) ∧ t = v ∧ wr.ownsRow w.heap.size 5 1 v (k * c) ((turnsL c k).map u8V) ∧ Hid (Below w.heap.size w wr)) (fun _ i _ => parts - (intOf i).toNat)
  case atStart => exact ⟨0, _, Nat.zero_le _, rfl, rfl, by rw [Nat.zero_mul]; exact World.ownsRow_nil _ _ _ _, Below.refl _ _⟩
  case round =>
    obtain ⟨k, v, hk, rfl, rfl, hrow, HB⟩ := hrel
    by_cases he : k < parts
    · have hlt : (k : Int) < parts := by omega
      have HR := Lib.hid hrow
      clear hrow
      go_wp2
      go_loopw [4, 18] (fun t x wr => ∃ (j : Nat) (v : Value), j ≤ c ∧ x = .int .i64 (j : Int) ∧ t = v ∧ wr.ownsRow w.heap.size 5 1 v (k * c + j) ((turnsL c k ++ (turn1 c).take j).map u8V) ∧ Hid (Below w.heap.size w wr)) (fun _ x _ => c - (intOf x).toNat)
      case atStart => exact ⟨0, _, Nat.zero_le _, rfl, rfl, by simpa using HR.out, HB⟩
      case round =>
        obtain ⟨j, v2, hj, rfl, rfl, hrow, HB2⟩ := hrel
        by_cases hjc : j < c
        · have hlt2 : (j : Int) < c := by omega
          have hj8 : (j : Int) ≤ 255 := by omega
          have hkc : k * c ≤ parts * c := Nat.mul_le_mul_right c hk
          have hkc2 : parts * c ≤ 100 * 8 := Nat.mul_le_mul h4 h2
          have HT := Lib.hid (turn1_take c j hjc)
          have HRow := Lib.hid hrow
          have hblk := row_blockT hrow
          have hszr := HB2.out.size
          go_wp2_with (first | (at_builtin; refine wpList_append_own _ rfl _ _ 22 rfl w.heap.size 5 i0 (.int .u8 0) 1 1 Tryz.underlying22 hi hz0 hz1 hz2 rfl (by decide) _ _ _ rfl (hrow.alloc _) ⟨wr.heap.size, 0, none⟩ 1 1 [.int .u8 j] rfl rfl (cell_one_new _ _ _) (by simp [Value.oneCell']) (by unfold maxLen; omega) (by omega) (by simp; omega) ?_; intro v' w1 hown' hgrow _))
          go_roundw
          case rel =>
            refine ⟨j + 1, _, hjc, by go_num, rfl, ?_, (HB2.out.alloc hszr _).grown hgrow (by simp; omega) (fun q hq => hblk q hq)⟩
            rw [HT.out, ← List.append_assoc, List.map_append]
            exact hown'
          case measure => simp [intOf]; omega
        · have hlt2 : ¬ (j : Int) < c := by omega
          have hjc2 : j = c := by omega
          have HT : Hid ((turn1 c).take j = turn1 c ∧ k * c + j = (k + 1) * c) := ⟨by rw [List.take_of_length_le (by rw [turn1_length]; omega)], by rw [Nat.add_mul, Nat.one_mul]; omega⟩
          have HRow := Lib.hid hrow
          clear hrow hjc2
          go_wp2
          go_roundw
          case rel => exact ⟨k + 1, _, by omega, by go_num, rfl, by have := HRow.out; rw [HT.out.1, HT.out.2] at this; exact this, HB2⟩
          case measure => simp [intOf]; omega
    · have hlt : ¬ (k : Int) < parts := by omega
      have hkp : k = parts := by omega
      have HR := Lib.hid hrow
      have HK := Lib.hid hkp
      clear hrow hkp
      go_wp2
      go_ret
      exact ⟨_, rfl, by rw [← HK.out]; exact HR.out, HB.out⟩
/-- What steps calls need. -/
theorem steps_bounds (i r : Int) : 0 ≤ stepsF i r ∧ stepsF i r ≤ 2000 := by
  unfold stepsF
  split
  · omega
  · omega
set_option maxRecDepth 100000 in
theorem t_bound (i c l r k : Int) (w : World) (h1 : 1 ≤ k) (h2 : k ≤ 1000000) : Calls Tryz.prog 7 #[confV i c l r, .int .i64 k] w fun e w' => e = .returned (.int .i64 (k * stepsF i r)) ∧ Below w.heap.size w w' := by
  have hin1 : decide ((1 : Int) ≤ k ∧ k ≤ 1000000) = true := decide_eq_true ⟨h1, h2⟩
  obtain ⟨s1, s2⟩ := steps_bounds i r
  obtain ⟨s, hs⟩ : ∃ s, s = stepsF i r := ⟨_, rfl⟩
  have hT := fun W => t_steps i c l r W
  rw [← hs] at hT s1 s2 ⊢
  clear hs
  have hm1 : 0 ≤ k * s := Int.mul_nonneg (by omega) s1
  have hm2 : k * s ≤ 1000000 * 2000 := Int.mul_le_mul h2 s2 s1 (by omega)
  go_enter Tryz.func7, Tryz.ntmps7
  go_wp2_with (first
    | (go_at_call 10; refine (t_in _ _ _ _).mono ?_; rintro e w' ⟨rfl, rfl⟩; rw [hin1])
    | (go_at_call 8; refine (hT _).mono ?_; rintro e w2 ⟨rfl, hb⟩))
  go_ret
  exact ⟨rfl, ((Below.refl _ w).alloc (Nat.le_refl _) _).trans (hb.mono (by simp))⟩
theorem u8_built (w : World) (l : List Int) (h : ∀ v ∈ l, 0 ≤ v ∧ v ≤ 255) : U8At (w.alloc (.cells (l.map u8V).toArray 5)) (some ⟨w.heap.size, 0, none⟩) l := by
  refine ⟨h, fun _ => ⟨w.heap.size, 0, rfl, fun k v hv => ?_⟩⟩
  have h1 := World.alloc_heap_new w (.cells (l.map u8V).toArray 5)
  have h2 : (l.map u8V).toArray[0 + k]? = some (.int .u8 v) := by rw [Nat.zero_add, List.getElem?_toArray, List.getElem?_map, hv]; rfl
  unfold World.cell?
  rw [h1]
  exact h2
theorem row_u8 {w : World} {base n : Nat} {v : Value} {l : List Int} (h : w.ownsRow base 5 1 v n (l.map u8V)) (hn : l.length = n) (h0 : 0 < n) (hl : ∀ v ∈ l, 0 ≤ v ∧ v ≤ 255) : ∃ g cap, v = .slice (some ⟨g, 0, none⟩) n cap ∧ n ≤ cap ∧ base ≤ g ∧ U8At w (some ⟨g, 0, none⟩) l := by
  rcases h.2 with ⟨_, e, _⟩ | ⟨g, cap, cur, rfl, hg, hh, hr⟩
  · omega
  · obtain ⟨r1, r2, r3, r4⟩ := hr
    refine ⟨g, cap, rfl, r1, hg, hl, fun _ => ⟨g, 0, rfl, fun k x hx => ?_⟩⟩
    have hk : k < n := by rw [← hn]; exact (List.getElem?_eq_some_iff.1 hx).1
    have h2 : cur[0 + k]? = some (.int .u8 x) := by
      rw [Nat.zero_add, ← Array.getElem?_toList]
      have : (cur.toList.take (n * 1))[k]? = some (.int .u8 x) := by rw [r4, List.getElem?_map, hx]; rfl
      rw [List.getElem?_take] at this
      split at this
      · exact this
      · cases this
    unfold World.cell?
    rw [hh]
    exact h2
theorem t_waits (k : Int) (w : World) : Calls Tryz.prog 9 #[.pointer none, .int .i64 k] w fun e w' => e = .returned (.bool false) ∧ w = w' := by
  go_enter Tryz.func9, Tryz.ntmps9
  go_wp2
  go_ret
  exact ⟨rfl, rfl⟩
theorem ptransF {a b c : World} (h : Below a.heap.size a b) (k : Below a.heap.size b c) : Below a.heap.size a c := h.trans k
theorem fair_one : fairP 2 3 [0, 1, 0, 1, 1, 0] = (2, true) := by decide
theorem fair_two : fairP 2 2 [0, 0] = (1, false) := by decide
set_option maxRecDepth 100000 in
set_option maxHeartbeats 400000 in
theorem t_alive34 (w : World) : Calls Tryz.prog 4 #[] w fun e w' => e = .returned (.bool true) ∧ Below w.heap.size w w' := by
  have F1 : ∀ W : World, Calls Tryz.prog 5 #[.int .i64 2, .int .i64 3, .slice (some ⟨W.heap.size, 0, none⟩) 6 6] (W.alloc (.cells #[.int .u8 0, .int .u8 1, .int .u8 0, .int .u8 1, .int .u8 1, .int .u8 0] 5)) fun e w' => e = .returned (.tuple #[.int .i64 2, .bool true]) ∧ Below W.heap.size W w' := fun W => by
    have := callsIn_wide.1 (t_fair 2 3 _ 6 6 [0, 1, 0, 1, 1, 0] _ (by decide) (by decide) (by decide) (u8_built W [0, 1, 0, 1, 1, 0] (by decide)) rfl (by decide) (by decide))
    rw [fair_one] at this
    exact this.mono fun e w' ⟨h1, h2⟩ => ⟨h1, ((Below.refl _ W).alloc (Nat.le_refl _) _).trans (h2.mono (by rw [World.size_alloc]; omega))⟩
  have F2 : ∀ W : World, Calls Tryz.prog 5 #[.int .i64 2, .int .i64 2, .slice (some ⟨W.heap.size, 0, none⟩) 2 2] (W.alloc (.cells #[.int .u8 0, .int .u8 0] 5)) fun e w' => e = .returned (.tuple #[.int .i64 1, .bool false]) ∧ Below W.heap.size W w' := fun W => by
    have := callsIn_wide.1 (t_fair 2 2 _ 2 2 [0, 0] _ (by decide) (by decide) (by decide) (u8_built W [0, 0] (by decide)) rfl (by decide) (by decide))
    rw [fair_two] at this
    exact this.mono fun e w' ⟨h1, h2⟩ => ⟨h1, ((Below.refl _ W).alloc (Nat.le_refl _) _).trans (h2.mono (by rw [World.size_alloc]; omega))⟩
  have F3 : ∀ W, Calls Tryz.prog 6 #[.int .i64 2, .int .i64 2] W fun e w' => ∃ g cap, e = .returned (.slice (some ⟨g, 0, none⟩) 4 cap) ∧ w'.cell? ⟨g, 0, none⟩ = some (.int .u8 0) ∧ w'.cell? ⟨g, 1, none⟩ = some (.int .u8 1) ∧ Below W.heap.size W w' := fun W => by
    refine (t_turns 2 2 W (by decide) (by decide) (by decide) (by decide)).mono ?_
    rintro e w' ⟨v, rfl, hr, hb⟩
    obtain ⟨g, cap, rfl, _, _, hu⟩ := row_u8 (n := 4) (l := turnsL 2 2) hr (by decide) (by decide) (by decide)
    obtain ⟨b, o, h1, h2⟩ := hu.2 (by decide)
    cases h1
    exact ⟨g, cap, rfl, h2 0 0 (by decide), h2 1 1 (by decide), hb⟩
  have F4 : ∀ W, Calls Tryz.prog 8 #[confV 8 0 0 2] W fun e w' => e = .returned (.int .i64 172) ∧ Below W.heap.size W w' := fun W => t_steps 8 0 0 2 W
  have F5 : ∀ W, Calls Tryz.prog 7 #[confV 8 0 0 2, .int .i64 2] W fun e w' => e = .returned (.int .i64 344) ∧ Below W.heap.size W w' := fun W => t_bound 8 0 0 2 2 W (by decide) (by decide)
  go_enter Tryz.func4, Tryz.ntmps4
  go_wp2_with (first
    | (go_at_call 5; (with_reducible refine (F1 _).mono ?_); rintro e w1 ⟨rfl, hb1⟩)
    | (go_at_call 5; (with_reducible refine (F2 _).mono ?_); rintro e w2 ⟨rfl, hb2⟩)
    | (go_at_call 6; (with_reducible refine (F3 _).mono ?_); rintro e w3 ⟨g, cap, rfl, hc0, hc1, hb3⟩)
    | (go_at_call 8; (with_reducible refine (F4 _).mono ?_); rintro e w4 ⟨rfl, hb4⟩; replace hc1 := (World.cell?_of_block (a := ⟨g, 1, none⟩) (hb4.block g (World.block_lt_of_cell? _ _ hc0))).trans hc1; replace hc0 := (World.cell?_of_block (a := ⟨g, 0, none⟩) (hb4.block g (World.block_lt_of_cell? _ _ hc0))).trans hc0)
    | (go_at_call 9; (with_reducible refine (t_waits _ _).mono ?_); rintro e w6 ⟨rfl, rfl⟩)
    | (go_at_call 7; (with_reducible refine (F5 _).mono ?_); rintro e w5 ⟨rfl, hb5⟩; replace hc1 := (World.cell?_of_block (a := ⟨g, 1, none⟩) (hb5.block g (World.block_lt_of_cell? _ _ hc0))).trans hc1; replace hc0 := (World.cell?_of_block (a := ⟨g, 0, none⟩) (hb5.block g (World.block_lt_of_cell? _ _ hc0))).trans hc0))
  go_ret
  have c2 := hb1.trans (hb2.mono hb1.size)
  have c3 := c2.trans (hb3.mono c2.size)
  have c4 := c3.trans (hb4.mono c3.size)
  exact ⟨rfl, c4.trans (hb5.mono c4.size)⟩
end Go.Proofs.YtmnombfgahmfkaaGreatDoor
