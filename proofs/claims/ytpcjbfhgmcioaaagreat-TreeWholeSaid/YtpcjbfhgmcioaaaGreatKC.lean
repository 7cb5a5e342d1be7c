/- Sorting a row of uint32: a range reversed; the length of a number; random numbers; patterns broken. -/
import Derived.Test.YtpcjbfhgmcioaaaGreatKA
import Derived.Lib.Tables
import Derived.Laws.Bits64
import Derived.Laws.Bits64b
import Derived.StillTailTactics
namespace Go.Proofs.YtpcjbfhgmcioaaaGreat
open Go.RowKit Go.Sort

/-- Within [a, b) the row was moved. -/
def Moved (w : World) (blk off : Nat) (d : Array Int) (a b : Nat) (e : Ending) (w' : World) : Prop := ∃ d', e = .returned (.tuple #[]) ∧ RowU w w' blk off d' ∧ PermIn a b d d'
theorem perm_size {d d' : Array Int} {a b : Nat} (h : PermIn a b d d') : d'.size = d.size := h.1
set_option maxHeartbeats 4000000 in
theorem u_rev (blk off n cap a b : Nat) (d : Array Int) (w : World) (hH : Holds (Value.int .u32) w blk off d) (hn : d.size = n) (hab : a < b) (hb : b ≤ n) (hsz : n < 4611686018427387904) :
    Calls Tryz.prog 141 #[.slice (some ⟨blk, off, none⟩) n cap, .int .i64 a, .int .i64 b] w (Moved w blk off d a b) := by
  have HR0 := Lib.hid (RowU.start hH)
  have HN := Lib.hid hn
  clear hH hn
  go_enter Tryz.func141, Tryz.ntmps141
  go_wp2
  go_loopw [6, 7] (fun vi vj wr => ∃ (i j : Nat) (dk : Array Int), vi = .int .i64 i ∧ vj = .int .i64 ((j : Int) - 1) ∧ a ≤ i ∧ i ≤ b ∧ a ≤ j ∧ j ≤ b ∧ Hid (RowU w wr blk off dk) ∧ Hid (PermIn a b d dk)) (fun vi _ _ => b + 1 - (intOf vi).toNat)
  case atStart => exact ⟨a, b, d, rfl, rfl, by omega, by omega, by omega, by omega, HR0, permIn_refl _ _ _⟩
  case round =>
    obtain ⟨i, j, dk, rfl, rfl, hai, hib, haj, hjb, HR, HP⟩ := hrel
    have HS : Hid (dk.size = n) := (perm_size HP.out).trans HN.out
    have hcw : ∀ t, t < n → wr.cell? ⟨blk, off + t, none⟩ = some (.int .u32 (gA dk t)) := fun t ht => HR.out.cell HS.out ht
    have hfw : ∀ t, t < n → wr.frozen? ⟨blk, off + t, none⟩ = false := fun t ht => HR.out.frozen HS.out ht
    by_cases hij : (i : Int) < (j : Int) - 1
    · have hjn : (j : Int) - 1 < (n : Int) := by omega
      have hin : (i : Int) < (n : Int) := by omega
      have hj0 : 1 ≤ (j : Int) := by omega
      have htn : ((j : Int) - 1).toNat = j - 1 := by omega
      go_wp2
      go_region
      all_goals go_wp2
      go_roundw
      case rel =>
        refine ⟨i + 1, j - 1, swp dk i (j - 1), by go_num, by congr 1; omega, by omega, by omega, by omega, by omega, ?_, ?_⟩
        · have hh := HR.out.swap 1 i (j - 1) (by rw [HS.out]; omega) (by rw [HS.out]; omega)
          exact hh
        · exact permIn_trans _ _ _ _ _ HP.out (swp_permIn _ _ _ _ _ (by omega) (by omega) (by omega) (by omega) (by rw [HS.out]; exact hb))
      case measure => simp [intOf]; omega
    · have HF : Hid (Moved w blk off d a b (.returned (.tuple #[])) wr) := ⟨dk, rfl, HR.out, HP.out⟩
      go_wp2
      go_end0
      exact HF.out

theorem len8_facts : ∀ k : Fin 256, (1 ≤ k.val → 2 ^ (Lib.len8 (k.val : Int)).toNat ≤ 2 * k.val) ∧ 0 ≤ Lib.len8 (k.val : Int) ∧ (Lib.len8 (k.val : Int)).toNat ≤ 8 := by decide +kernel
theorem len8_int (x : Int) (h0 : 1 ≤ x) (h1 : x ≤ 255) : ∃ L : Nat, Lib.len8 x = (L : Int) ∧ L ≤ 8 ∧ (2 : Int) ^ L ≤ 2 * x := by
  obtain ⟨f1, f2, f3⟩ := len8_facts ⟨x.toNat, by omega⟩
  simp only at f1 f2 f3
  have e : ((x.toNat : Nat) : Int) = x := by omega
  rw [e] at f1 f2 f3
  refine ⟨(Lib.len8 x).toNat, by omega, f3, ?_⟩
  have f := f1 (by omega)
  have g : ((2 ^ (Lib.len8 x).toNat : Nat) : Int) ≤ ((2 * x.toNat : Nat) : Int) := by exact_mod_cast f
  rw [show ((2 * x.toNat : Nat) : Int) = 2 * x by omega] at g
  simpa using g
def LenPost (x : Int) (w : World) (e : Ending) (w' : World) : Prop := ∃ L : Nat, e = .returned (.int .i64 (L : Int)) ∧ w = w' ∧ L ≤ 16 ∧ (2 : Int) ^ L ≤ 2 * x
theorem len8_tab (y : Int) (h : y.toNat < Lib.len8tab.size) : ((Lib.len8tab[y.toNat]'h).toNat : Int) = Lib.len8 y := by
  unfold Lib.len8
  rw [getElem?_pos Lib.len8tab y.toNat h]
  rfl
theorem len8_size : (Lib.len8tab.size : Int) = 256 := by
  have := Lib.len8tab_size
  omega
theorem wrap_little (a : Int) (h0 : 0 ≤ a) (h1 : a ≤ 60000) : wrap64 a = a := by
  unfold wrap64
  omega
theorem ret_int {k : IntKind} {a b : Int} (h : a = b) : Ending.returned (.int k a) = .returned (.int k b) := by rw [h]
set_option maxRecDepth 100000 in
set_option maxHeartbeats 4000000 in
theorem u_len64 (x : Int) (w : World) (h1 : 1 ≤ x) (h2 : x ≤ 60000) : Calls Tryz.prog 135 #[.int .u64 x] w (LenPost x w) := by
  by_cases h3 : x ≤ 255
  · obtain ⟨L, hL, hl8, hp⟩ := len8_int x h1 h3
    have HL := Lib.hid hL
    have HP : Hid (∀ v : Int, v = (L : Int) → LenPost x w (.returned (.int .i64 v)) w) := fun v hv => ⟨L, by rw [hv], rfl, by omega, hp⟩
    have hs8 := len8_size
    clear hp h2 hL
    go_enter Tryz.func135, Tryz.ntmps135
    go_wp2
    go_ret
    refine HP.out _ ?_
    rw [len8_tab, HL.out, wrap_little (L : Int) (by omega) (by omega), wrap_little (L : Int) (by omega) (by omega)]
  · obtain ⟨y, hy⟩ : ∃ y, x / 256 = y := ⟨_, rfl⟩
    have y1 : 1 ≤ y := by omega
    have y2 : y ≤ 234 := by omega
    obtain ⟨L, hL, hl8, hp⟩ := len8_int y y1 (by omega)
    have HL := Lib.hid hL
    have HP : Hid (∀ v : Int, v = 8 + (L : Int) → LenPost x w (.returned (.int .i64 v)) w) := fun v hv => ⟨8 + L, by rw [hv]; rfl, rfl, by omega, by
      rw [show 8 + L = L + 8 by omega, Int.pow_add]
      have : (2 : Int) ^ 8 = 256 := by decide
      rw [this]
      omega⟩
    have h256 : 256 ≤ x := by omega
    have hs8 := len8_size
    clear hp hL h3
    go_enter Tryz.func135, Tryz.ntmps135
    go_wp2
    go_ret
    refine HP.out _ ?_
    rw [len8_tab, HL.out, wrap_little (L : Int) (by omega) (by omega)]
    exact wrap_little _ (by omega) (by omega)
theorem u_len (x : Int) (w : World) (h1 : 1 ≤ x) (h2 : x ≤ 60000) : Calls Tryz.prog 116 #[.int .u64 x] w (LenPost x w) := by
  have HC := Lib.hid (fun w => u_len64 x w h1 h2)
  go_enter Tryz.func116, Tryz.ntmps116
  go_wp2_with (go_at_call 135; refine (HC.out _).mono ?_; rintro e w' ⟨L, rfl, rfl, hL, hp⟩; have HP := Lib.hid hp; clear hp)
  go_ret
  exact ⟨L, rfl, rfl, hL, HP.out⟩
def PowPost (x : Int) (w : World) (e : Ending) (w' : World) : Prop := ∃ M : Nat, e = .returned (.int .u64 (M : Int)) ∧ w = w' ∧ 1 ≤ M ∧ (M : Int) ≤ 2 * x
theorem wrap_pow (L M : Nat) (hL : L ≤ 16) (hM : 2 ^ L = M) : IntKind.u64.wrap ((2 : Int) ^ L) = (M : Int) ∧ 1 ≤ M ∧ M ≤ 65536 := by
  have h1 : M ≤ 2 ^ 16 := by rw [← hM]; exact Nat.pow_le_pow_right (by decide) hL
  have h2 : 1 ≤ M := by rw [← hM]; exact Nat.one_le_two_pow
  have h3 : ((2 : Int) ^ L) = (M : Int) := by rw [← hM]; push_cast; rfl
  have h4 : M ≤ 65536 := by simpa using h1
  refine ⟨?_, h2, h4⟩
  rw [h3, IntKind.wrap_u64]
  omega
set_option maxRecDepth 100000 in
theorem u_pow2 (x : Int) (w : World) (h1 : 1 ≤ x) (h2 : x ≤ 60000) : Calls Tryz.prog 147 #[.int .i64 x] w (PowPost x w) := by
  have HC := Lib.hid (fun w => u_len x w h1 h2)
  go_enter Tryz.func147, Tryz.ntmps147
  go_wp2_with (go_at_call 116; refine (HC.out _).mono ?_; rintro e w' ⟨L, rfl, rfl, hL, hp⟩; obtain ⟨M, hM⟩ : ∃ M : Nat, 2 ^ L = M := ⟨_, rfl⟩; obtain ⟨e1, e2, e3⟩ := wrap_pow L M hL hM; have HP : Hid ((M : Int) ≤ 2 * x) := (by show _ ≤ _; rw [← hM]; push_cast; exact hp); clear hp hM)
  go_ret
  exact ⟨M, rfl, rfl, e2, HP.out⟩
/-- A number of the random row. -/
def RandPost (S : Nat) (w : World) (e : Ending) (w' : World) : Prop := ∃ r : Nat, e = .returned (.int .u64 (r : Int)) ∧ r < 18446744073709551616 ∧ w'.heap[S]? = some (.cells #[.int .u64 (r : Int)] 153 (0, 0)) ∧ w.grownBy w' (some S)
theorem set_set (w : World) (S : Nat) (v0 v v' : Value) (T : TypeId) (h : w.heap[S]? = some (.cells #[v0] T (0, 0))) : (w.setCell ⟨S, 0, none⟩ v).setCell ⟨S, 0, none⟩ v' = w.setCell ⟨S, 0, none⟩ v' := by
  rw [setCell_eq, setCell_eq, mapBlock_mapBlock, setCell_eq]
  congr 1
  funext c
  simp
set_option maxRecDepth 100000 in
set_option maxHeartbeats 4000000 in
theorem u_next (S X : Nat) (hX : X < 18446744073709551616) (w : World) (hS : w.heap[S]? = some (.cells #[.int .u64 (X : Int)] 153 (0, 0))) :
    Calls Tryz.prog 148 #[.pointer (some ⟨S, 0, none⟩)] w (RandPost S w) := by
  obtain ⟨A, hA⟩ : ∃ A : Nat, A = X ^^^ (X * 8192 % 18446744073709551616) := ⟨_, rfl⟩
  obtain ⟨B, hB⟩ : ∃ B : Nat, B = A ^^^ (A / 128) := ⟨_, rfl⟩
  obtain ⟨C, hC⟩ : ∃ C : Nat, C = B ^^^ (B * 131072 % 18446744073709551616) := ⟨_, rfl⟩
  have lA : A < 18446744073709551616 := by rw [hA]; exact Nat.xor_lt_two_pow (n := 64) (by omega) (by omega)
  have lB : B < 18446744073709551616 := by rw [hB]; exact Nat.xor_lt_two_pow (n := 64) (by omega) (by omega)
  have lC : C < 18446744073709551616 := by rw [hC]; exact Nat.xor_lt_two_pow (n := 64) (by omega) (by omega)
  have e1 : bits .xor .u64 (X : Int) (IntKind.u64.wrap ((X : Int) * 8192)) = (A : Int) := by
    rw [IntKind.wrap_u64, show ((X : Int) * 8192 % 18446744073709551616) = ((X * 8192 % 18446744073709551616 : Nat) : Int) by omega, bits_xor_u64_nat _ _ hX (by omega), hA]
  have e2 : bits .xor .u64 (A : Int) ((A : Int) / 128) = (B : Int) := by
    rw [show ((A : Int) / 128) = ((A / 128 : Nat) : Int) by omega, bits_xor_u64_nat _ _ lA (by omega), hB]
  have e3 : bits .xor .u64 (B : Int) (IntKind.u64.wrap ((B : Int) * 131072)) = (C : Int) := by
    rw [IntKind.wrap_u64, show ((B : Int) * 131072 % 18446744073709551616) = ((B * 131072 % 18446744073709551616 : Nat) : Int) by omega, bits_xor_u64_nat _ _ lB (by omega), hC]
  have HLC : Hid (C < 18446744073709551616) := lC
  have HS := Lib.hid hS
  have hc : w.cell? ⟨S, 0, none⟩ = some (.int .u64 (X : Int)) := by simp [World.cell?, hS]
  have hf : w.frozen? ⟨S, 0, none⟩ = false := by simp [World.frozen?, hS]
  have hss := fun v v' => set_set w S _ v v' _ hS
  clear hA hB hC hX hS lA lB lC
  go_enter Tryz.func148, Tryz.ntmps148
  go_wp2
  go_region
  all_goals go_wp2
  all_goals go_region
  all_goals go_wp2
  all_goals go_region
  all_goals go_wp2
  go_ret
  exact ⟨C, rfl, HLC.out, (by have := pheap_set w S 0 (.int .u64 (C : Int)) _ _ HS.out; exact this), pgrown_trans (pgrown_set w S 0 _) (pgrown_drewN (grown_refl _ _) 3)⟩
theorem RowU.beside {w w1 w2 : World} {blk off S : Nat} {d : Array Int} (h : RowU w w1 blk off d) (hg : w1.grownBy w2 (some S)) (hS : w.heap.size ≤ S) (hlt : blk < w.heap.size) : RowU w w2 blk off d :=
  ⟨holds_grown h.holds hg (Nat.lt_of_lt_of_le hlt h.grown.size) (by omega),
   ⟨hg.os.trans h.grown.os, hg.tape.trans h.grown.tape, hg.output.trans h.grown.output, Nat.le_trans h.grown.size hg.size, fun b hb hn => (hg.block b (Nat.lt_of_lt_of_le hb h.grown.size) (fun e => by injection e with e; omega)).trans (h.grown.block b hb hn)⟩⟩
theorem and_low (r M : Nat) (hr : r < 18446744073709551616) (h1 : 1 ≤ M) (hM : M ≤ 200000) : ∃ K : Nat, bits .and .u64 (r : Int) ((M : Int) - 1) = (K : Int) ∧ K < M := by
  refine ⟨r &&& (M - 1), ?_, ?_⟩
  · rw [show (M : Int) - 1 = ((M - 1 : Nat) : Int) by omega, bits_and_u64_nat _ _ hr (by omega)]
  · have := Nat.and_le_right (n := r) (m := M - 1)
    omega
theorem two_other (w : World) (blk j k S : Nat) (v v' : Value) (h : S ≠ blk) : (((w.drewN 1).setCell ⟨blk, j, none⟩ v).setCell ⟨blk, k, none⟩ v').heap[S]? = w.heap[S]? :=
  (RowKit.Below.heap_setCell _ ⟨blk, k, none⟩ v' S h).trans (RowKit.Below.heap_setCell _ ⟨blk, j, none⟩ v S h)
set_option maxRecDepth 100000 in
set_option maxHeartbeats 8000000 in
theorem u_break (blk off n cap a L : Nat) (d : Array Int) (w : World) (hH : Holds (Value.int .u32) w blk off d) (hn : d.size = n) (h8 : 8 ≤ L) (hb : a + L ≤ n) (hsz : n ≤ 60000) (hlt : blk < w.heap.size) :
    Calls Tryz.prog 139 #[.slice (some ⟨blk, off, none⟩) n cap, .int .i64 a, .int .i64 ((a : Int) + (L : Int))] w (Moved w blk off d a (a + L)) := by
  have HR0 := Lib.hid ((RowU.start hH).trans (w2 := w.alloc (.cells #[.int .u64 (L : Int)] 153)) ⟨holds_grown hH (pgrown_below (u_alloc1 w _) (some w.heap.size)) hlt (by omega), pgrown_below (u_alloc1 w _) _⟩)
  have HN := Lib.hid hn
  have hq : ∃ q : Nat, (L : Int) / 4 = (q : Int) ∧ 2 ≤ q ∧ q * 4 ≤ L := ⟨L / 4, by omega, by omega, by omega⟩
  obtain ⟨q, hq, q2, q4⟩ := hq
  have HPW := Lib.hid (fun w => u_pow2 (L : Int) w (by omega) (by omega))
  have hS0 : w.heap.size < (w.alloc (.cells #[.int .u64 (L : Int)] 153)).heap.size := by simp
  have HB0 : Hid ((w.alloc (.cells #[.int .u64 (L : Int)] 153)).heap[w.heap.size]? = some (.cells #[.int .u64 (L : Int)] 153 (0, 0))) := heap_alloc_new w _
  have hLa : (a : Int) + (L : Int) - (a : Int) = (L : Int) := by omega
  clear hH hn
  go_enter Tryz.func139, Tryz.ntmps139
  go_wp2_with (go_at_call 147; refine (HPW.out _).mono ?_; rintro e w' ⟨M, rfl, rfl, hM1, hM2⟩)
  obtain ⟨S, hS⟩ : ∃ S, w.heap.size = S := ⟨_, rfl⟩
  rw [hS] at hS0 HB0 ⊢
  have hSw : w.heap.size ≤ S := by omega
  go_loopw [9] (fun vi wr => ∃ (i X : Nat) (dk : Array Int), vi = .int .i64 ((a : Int) + (q : Int) * 2 - 1 + (i : Int)) ∧ i ≤ 3 ∧ Hid (RowU w wr blk off dk) ∧ Hid (PermIn a (a + L) d dk) ∧ Hid (wr.heap[S]? = some (.cells #[.int .u64 (X : Int)] 153 (0, 0))) ∧ Hid (X < 18446744073709551616)) (fun vi _ => ((a : Int) + (q : Int) * 2 + 3 - intOf vi).toNat)
  case atStart => exact ⟨0, L, d, by congr 1; omega, by omega, HR0, permIn_refl _ _ _, HB0, by show L < 18446744073709551616; omega⟩
  case round =>
    obtain ⟨i, X, dk, rfl, hi, HR, HP, HX, HXL⟩ := hrel
    by_cases hi3 : i < 3
    · have hi3' : (i : Int) < 3 := by omega
      have hqL : (q : Int) * 4 ≤ (L : Int) := by omega
      have hLn : (a : Int) + (L : Int) ≤ (n : Int) := by omega
      have hq2 : 2 ≤ (q : Int) := by omega
      have HS : Hid (dk.size = n) := (perm_size HP.out).trans HN.out
      obtain ⟨p, hp⟩ : ∃ p : Nat, a + (q * 2 - 1 + i) = p := ⟨_, rfl⟩
      have hidx : ((a : Int) + (q : Int) * 2 - 1 + (i : Int)).toNat = p := by omega
      have hpa : a ≤ p := by omega
      have hpn : p < a + L := by omega
      have HPP := Lib.hid hp
      clear hp
      go_wp2_with (go_at_call 148; refine (u_next S X HXL.out wr HX.out).mono ?_; rintro e w2 ⟨r, rfl, hr, hb2, hg2⟩
                   obtain ⟨K, hK, hKM⟩ := and_low r M hr hM1 (by omega)
                   have HR2 := Lib.hid (HR.out.beside hg2 hSw hlt)
                   have HB2 := Lib.hid hb2
                   have HRL := Lib.hid hr
                   have hcw : ∀ t, t < n → w2.cell? ⟨blk, off + t, none⟩ = some (.int .u32 (gA dk t)) := fun t ht => HR2.out.cell HS.out ht
                   have hfw : ∀ t, t < n → w2.frozen? ⟨blk, off + t, none⟩ = false := fun t ht => HR2.out.frozen HS.out ht
                   clear hg2 hb2 hr)
      · have hLK : L ≤ K := by assumption
        have hLK' : (L : Int) ≤ (K : Int) := by omega
        have hKL : (K : Int) - (L : Int) < (L : Int) := by omega
        obtain ⟨o, ho⟩ : ∃ o : Nat, a + (K - L) = o := ⟨_, rfl⟩
        have hO : ((a : Int) + ((K : Int) - (L : Int))).toNat = o := by omega
        have ho1 : a ≤ o := by omega
        have ho2 : o < a + L := by omega
        clear ho
        obtain ⟨v', hv'⟩ := cell?_setCell_some (w := w2) (p := ⟨blk, off + p, none⟩) (x := .int .u32 (gA dk o)) (q := ⟨blk, off + o, none⟩) (v := .int .u32 (gA dk o)) (hcw o (by omega))
        go_region
        all_goals go_wp2
        go_roundw
        case rel =>
          refine ⟨i + 1, r, swp dk p o, by congr 1; omega, by omega, ?_, ?_, ?_, HRL⟩
          · have hh := HR2.out.swap 1 p o (by rw [HS.out]; omega) (by rw [HS.out]; omega)
            exact hh
          · exact permIn_trans _ _ _ _ _ HP.out (swp_permIn _ _ _ _ _ (by omega) (by omega) (by omega) (by omega) (by rw [HS.out]; exact hb))
          · exact (two_other w2 blk _ _ S _ _ (by omega)).trans HB2.out
        case measure => simp [intOf]; omega
      · have hLK : ¬ L ≤ K := by omega
        have hLK' : (K : Int) < (L : Int) := by omega
        obtain ⟨o, ho⟩ : ∃ o : Nat, a + K = o := ⟨_, rfl⟩
        have hO : ((a : Int) + (K : Int)).toNat = o := by omega
        have ho1 : a ≤ o := by omega
        have ho2 : o < a + L := by omega
        clear ho
        obtain ⟨v', hv'⟩ := cell?_setCell_some (w := w2) (p := ⟨blk, off + p, none⟩) (x := .int .u32 (gA dk o)) (q := ⟨blk, off + o, none⟩) (v := .int .u32 (gA dk o)) (hcw o (by omega))
        go_region
        all_goals go_wp2
        go_roundw
        case rel =>
          refine ⟨i + 1, r, swp dk p o, by congr 1; omega, by omega, ?_, ?_, ?_, HRL⟩
          · have hh := HR2.out.swap 1 p o (by rw [HS.out]; omega) (by rw [HS.out]; omega)
            exact hh
          · exact permIn_trans _ _ _ _ _ HP.out (swp_permIn _ _ _ _ _ (by omega) (by omega) (by omega) (by omega) (by rw [HS.out]; exact hb))
          · exact (two_other w2 blk _ _ S _ _ (by omega)).trans HB2.out
        case measure => simp [intOf]; omega
    · have hi3' : 3 ≤ (i : Int) := by omega
      have HF : Hid (Moved w blk off d a (a + L) (.returned (.tuple #[])) wr) := ⟨dk, rfl, HR.out, HP.out⟩
      go_wp2
      go_end0
      exact HF.out
end Go.Proofs.YtpcjbfhgmcioaaaGreat
