/- RecBack: what was put is got, with whatever stands behind it, and what is got is put as it stood. Conditions: none. -/
import Derived.Test.YtehckjkihaalfaaGreatBW
import Derived.Laws.StructEq
namespace Go.Proofs.YtehckjkihaalfaaGreat
open Go.RowKit Go.Maps

set_option maxRecDepth 100000 in
theorem t_long22 (r : R) (w : World) : Calls Tryz.prog 31 #[.agg #[.int .u64 r.stamp, .int .u8 r.act, .int .u32 r.dir, .string r.name, .int .u32 r.ino, .int .u8 r.kind, .int .u32 r.dir2, .string r.name2, .int .u32 r.old, .int .u32 r.size, .int .i64 r.page, .string r.data]] w fun e w' => (∃ b : Bool, e = .returned (.bool b)) ∧ Below w.heap.size w w' := by
  go_enter Tryz.func31, Tryz.ntmps31
  go_wp2
  go_ret
  exact ⟨⟨_, rfl⟩, below_a1' w _⟩
theorem mk_append (l : List UInt8) (s : ByteArray) : (⟨l.toArray⟩ : ByteArray) ++ s = ⟨(l ++ s.data.toList).toArray⟩ := by
  apply ByteArray.ext
  rw [ByteArray.data_append]
  apply Array.ext'
  simp
theorem mk_list' (l : List UInt8) : (⟨l.toArray⟩ : ByteArray).data.toList = l := by simp

theorem put_fits (r : R) (s : ByteArray) (h : r.Bare) (hS : ¬ 4096 < s.size) : ((⟨r.bytes.toArray⟩ : ByteArray) ++ s).size ≤ maxLen := by
  rw [mk_append, size_mk, List.length_append]
  have e : s.data.toList.length = s.size := (Lib.size_eq s).symm
  have hb : r.bytes.length ≤ 2000 := by
    have n1 := h.name_
    have n2 := h.name2_
    have n3 : r.data.data.toList.length ≤ 64 := by
      cases hk : kData r.act
      · rw [h.data hk]; simp
      · rw [h.data_ hk]; exact Nat.le_refl _
    have ob : ∀ (c : Bool) (l : List UInt8), (onB c l).length ≤ l.length := onB_len
    unfold R.bytes
    have o1 := ob (kEntry r.act) (leB r.dir.toNat 4)
    have o2 := ob (kEntry r.act) (leB r.name.data.toList.length 1 ++ r.name.data.toList)
    have o3 := ob (kKind r.act) (leB r.kind.toNat 1)
    have o4 := ob (kMove r.act) (leB r.dir2.toNat 4)
    have o5 := ob (kMove r.act) (leB r.name2.data.toList.length 1 ++ r.name2.data.toList)
    have o6 := ob (kMove r.act) (leB r.old.toNat 4)
    have o7 := ob (kSized r.act) (leB r.size.toNat 4)
    have o8 := ob (kData r.act) (leB r.page.toNat 1)
    have o9 := ob (kData r.act) r.data.data.toList
    simp only [List.length_append, leB_len] at *
    omega
  rw [e]
  exact Nat.le_trans (by omega : r.bytes.length + s.size ≤ 6096) (by decide)
theorem put_fits2 (r : R) (s : ByteArray) (h : r.Bare) (hS : ¬ 4096 < s.size) : ¬ 9223372036854775807 < r.bytes.length + s.size := by
  have := put_fits r s h hS
  rw [mk_append, size_mk, List.length_append, ← Lib.size_eq] at this
  have e : maxLen = 9223372036854775807 := rfl
  omega
set_option maxRecDepth 100000 in
set_option maxHeartbeats 16000000 in
theorem t_recBack (r : R) (hr : r.Ok) (h1 : r.name.size ≤ maxLen) (h2 : r.name2.size ≤ maxLen) (h3 : r.data.size ≤ maxLen) (s : ByteArray) (hs : s.size ≤ maxLen) (w : World) : Calls Tryz.prog 6 #[r.val, .string s] w fun e w' => e = .returned (.bool true) ∧ Below w.heap.size w w' := by
  unfold R.val
  have hlg := fun w => t_long22 r w
  obtain ⟨⟨r2, d2⟩, hg⟩ : ∃ x, getR s.data.toList = x := ⟨_, rfl⟩
  have hget2 := fun w => t_get s hs w
  rw [hg] at hget2
  have hput1 := fun w => t_put r hr h1 h2 w
  have hchk1 := fun w => t_chk r hr h1 h2 w
  unfold R.val at hput1 hchk1
  by_cases hG : d2.bad = false ∧ checkB r2 = true
  · obtain ⟨hsb, hbare⟩ := put_get hg hG.1
    have hsz2 : r2.name.size ≤ maxLen ∧ r2.name2.size ≤ maxLen := by
      have e1 := hbare.name_
      have e2 := hbare.name2_
      rw [← Lib.size_eq] at e1 e2
      exact ⟨Nat.le_trans (Nat.le_of_lt e1) (by decide), Nat.le_trans (Nat.le_of_lt e2) (by decide)⟩
    have hput2 := fun w => t_put r2 hbare.ok hsz2.1 hsz2.2 w
    have hsum : (⟨r2.bytes.toArray⟩ : ByteArray) ++ ⟨d2.s.toArray⟩ = s := by
      rw [mk_append, mk_list', ← hsb, mk_list]
    simp only [if_pos hG.2] at hput2
    simp only [if_pos hG] at hget2
    unfold R.val at hput2 hget2
    have hsum2 : ((⟨r2.bytes.toArray⟩ : ByteArray) ++ ⟨d2.s.toArray⟩).toList = s.toList := by rw [hsum]
    have HSUM := Lib.hid hsum
    have hq2 : ¬ 9223372036854775807 < r2.bytes.length + d2.s.length := by
      have e := congrArg List.length hsb
      rw [List.length_append, ← Lib.size_eq] at e
      have : maxLen = 9223372036854775807 := rfl
      omega
    clear hsum hsb hbare hsz2 hg hG
    cases hck : checkB r
    · by_cases hS : 4096 < s.size
      · have hS2 : (4096 : Int) < s.size := by omega
        clear hget2 hput1 hchk1 hput2
        go_enter Tryz.func6, Tryz.ntmps6
        go_wp2_with (first | (go_at_call 31; (with_reducible refine (hlg _).mono ?_); rintro e w1 ⟨⟨lb, rfl⟩, hb⟩; have HB1 := Lib.hid hb; clear hb) | (go_at_call 32; (with_reducible refine (t_alive22 _).mono ?_); rintro e w9 ⟨rfl, hb⟩; have HB9 := Lib.hid hb; clear hb))
        all_goals
          go_ret
          exact ⟨rfl, ptrans (ptrans (below_a1' w _) HB1.out) HB9.out⟩
      have hS2 : ¬ (4096 : Int) < s.size := by omega
      simp only [if_neg (show ¬ checkB r = true by rw [hck]; simp)] at hput1
      rw [show checkE r = 2 by unfold checkE; rw [hck]; rfl] at hchk1
      clear hck
      go_enter Tryz.func6, Tryz.ntmps6
      go_wp2_with (first
        | (go_at_call 31; (with_reducible refine (hlg _).mono ?_); rintro e w1 ⟨⟨lb, rfl⟩, hb⟩; have hk1 : w1.heap[w.heap.size]? = some (.cells (cellsR r) 34 (0, 0)) := (hb.block _ (by simp)).trans (heap_alloc_new _ _); have HR1 := Lib.hid hk1; have HB1 := Lib.hid (ptrans (below_a1' w _) hb); clear hb hk1; have c0_1 := rec_cell0 HR1.out 0 _ rfl; have c1_1 := rec_cell0 HR1.out 1 _ rfl; have c2_1 := rec_cell0 HR1.out 2 _ rfl; have c3_1 := rec_cell0 HR1.out 3 _ rfl; have c4_1 := rec_cell0 HR1.out 4 _ rfl; have c5_1 := rec_cell0 HR1.out 5 _ rfl; have c6_1 := rec_cell0 HR1.out 6 _ rfl; have c7_1 := rec_cell0 HR1.out 7 _ rfl; have c8_1 := rec_cell0 HR1.out 8 _ rfl; have c9_1 := rec_cell0 HR1.out 9 _ rfl; have c10_1 := rec_cell0 HR1.out 10 _ rfl; have c11_1 := rec_cell0 HR1.out 11 _ rfl)
        | (go_at_call 33; (with_reducible refine (hput1 _).mono ?_); rintro e w2 ⟨rfl, hb⟩; have hk2 := (hb.block _ (lt_heap HR1.out)).trans HR1.out; have HR2 := Lib.hid hk2; clear hk2; have c0_2 := rec_cell0 HR2.out 0 _ rfl; have c1_2 := rec_cell0 HR2.out 1 _ rfl; have c2_2 := rec_cell0 HR2.out 2 _ rfl; have c3_2 := rec_cell0 HR2.out 3 _ rfl; have c4_2 := rec_cell0 HR2.out 4 _ rfl; have c5_2 := rec_cell0 HR2.out 5 _ rfl; have c6_2 := rec_cell0 HR2.out 6 _ rfl; have c7_2 := rec_cell0 HR2.out 7 _ rfl; have c8_2 := rec_cell0 HR2.out 8 _ rfl; have c9_2 := rec_cell0 HR2.out 9 _ rfl; have c10_2 := rec_cell0 HR2.out 10 _ rfl; have c11_2 := rec_cell0 HR2.out 11 _ rfl; have HB2 := Lib.hid (ptrans HB1.out hb); clear hb)
        | (go_at_call 34; (with_reducible refine (hchk1 _).mono ?_); rintro e w3 ⟨rfl, hb⟩; have hk3 := (hb.block _ (lt_heap HR2.out)).trans HR2.out; have HR3 := Lib.hid hk3; clear hk3; have c0_3 := rec_cell0 HR3.out 0 _ rfl; have c1_3 := rec_cell0 HR3.out 1 _ rfl; have c2_3 := rec_cell0 HR3.out 2 _ rfl; have c3_3 := rec_cell0 HR3.out 3 _ rfl; have c4_3 := rec_cell0 HR3.out 4 _ rfl; have c5_3 := rec_cell0 HR3.out 5 _ rfl; have c6_3 := rec_cell0 HR3.out 6 _ rfl; have c7_3 := rec_cell0 HR3.out 7 _ rfl; have c8_3 := rec_cell0 HR3.out 8 _ rfl; have c9_3 := rec_cell0 HR3.out 9 _ rfl; have c10_3 := rec_cell0 HR3.out 10 _ rfl; have c11_3 := rec_cell0 HR3.out 11 _ rfl; have HB3 := Lib.hid (ptrans HB2.out hb); clear hb)
        | (go_at_call 35; (with_reducible refine (hget2 _).mono ?_); rintro e w5 ⟨rfl, hb⟩; have HB5 := Lib.hid (ptrans HB3.out hb); clear hb)
        | (go_at_call 33; (with_reducible refine (hput2 _).mono ?_); rintro e w6 ⟨rfl, hb⟩; have HB6 := Lib.hid (ptrans (ptrans HB5.out (below_a1' w5 _)) hb); clear hb)
        | (go_at_call 32; (with_reducible refine (t_alive22 _).mono ?_); rintro e w9 ⟨rfl, hb⟩; have HB9 := Lib.hid hb; clear hb))
      all_goals
        go_ret
        first
          | exact ⟨rfl, ptrans HB1.out HB9.out⟩
          | exact ⟨rfl, ptrans (ptrans HB5.out (below_a1' w5 _)) HB9.out⟩
          | exact ⟨rfl, ptrans HB6.out HB9.out⟩
    · by_cases hS : 4096 < s.size
      · have hS2 : (4096 : Int) < s.size := by omega
        clear hget2 hput1 hchk1 hput2
        go_enter Tryz.func6, Tryz.ntmps6
        go_wp2_with (first | (go_at_call 31; (with_reducible refine (hlg _).mono ?_); rintro e w1 ⟨⟨lb, rfl⟩, hb⟩; have HB1 := Lib.hid hb; clear hb) | (go_at_call 32; (with_reducible refine (t_alive22 _).mono ?_); rintro e w9 ⟨rfl, hb⟩; have HB9 := Lib.hid hb; clear hb))
        all_goals
          go_ret
          exact ⟨rfl, ptrans (ptrans (below_a1' w _) HB1.out) HB9.out⟩
      have hS2 : ¬ (4096 : Int) < s.size := by omega
      have hbr := bare_of_check hr hck
      have hgp := get_put hbr s.data.toList
      have hget1 : ∀ w, Calls Tryz.prog 35 #[.string (⟨r.bytes.toArray⟩ ++ s)] w fun e w' => e = .returned (.tuple #[.agg #[.int .u64 r.stamp, .int .u8 r.act, .int .u32 r.dir, .string r.name, .int .u32 r.ino, .int .u8 r.kind, .int .u32 r.dir2, .string r.name2, .int .u32 r.old, .int .u32 r.size, .int .i64 r.page, .string r.data], .string s, .int .i64 0]) ∧ Below w.heap.size w w' := fun w => by
        have h := t_get (⟨r.bytes.toArray⟩ ++ s) (put_fits r s hbr hS) w
        have e : ((⟨r.bytes.toArray⟩ : ByteArray) ++ s).data.toList = r.bytes ++ s.data.toList := by rw [mk_append, mk_list']
        rw [e, hgp, if_pos ⟨rfl, hck⟩, mk_list] at h
        exact h
      simp only [if_pos hck] at hput1
      rw [show checkE r = 0 by unfold checkE; rw [if_pos hck]] at hchk1
      have hq1 := put_fits2 r s hbr hS
      clear hbr hgp hck
      go_enter Tryz.func6, Tryz.ntmps6
      go_wp2_with (first
        | (go_at_call 31; (with_reducible refine (hlg _).mono ?_); rintro e w1 ⟨⟨lb, rfl⟩, hb⟩; have hk1 : w1.heap[w.heap.size]? = some (.cells (cellsR r) 34 (0, 0)) := (hb.block _ (by simp)).trans (heap_alloc_new _ _); have HR1 := Lib.hid hk1; have HB1 := Lib.hid (ptrans (below_a1' w _) hb); clear hb hk1; have c0_1 := rec_cell0 HR1.out 0 _ rfl; have c1_1 := rec_cell0 HR1.out 1 _ rfl; have c2_1 := rec_cell0 HR1.out 2 _ rfl; have c3_1 := rec_cell0 HR1.out 3 _ rfl; have c4_1 := rec_cell0 HR1.out 4 _ rfl; have c5_1 := rec_cell0 HR1.out 5 _ rfl; have c6_1 := rec_cell0 HR1.out 6 _ rfl; have c7_1 := rec_cell0 HR1.out 7 _ rfl; have c8_1 := rec_cell0 HR1.out 8 _ rfl; have c9_1 := rec_cell0 HR1.out 9 _ rfl; have c10_1 := rec_cell0 HR1.out 10 _ rfl; have c11_1 := rec_cell0 HR1.out 11 _ rfl)
        | (go_at_call 33; (with_reducible refine (hput1 _).mono ?_); rintro e w2 ⟨rfl, hb⟩; have hk2 := (hb.block _ (lt_heap HR1.out)).trans HR1.out; have HR2 := Lib.hid hk2; clear hk2; have c0_2 := rec_cell0 HR2.out 0 _ rfl; have c1_2 := rec_cell0 HR2.out 1 _ rfl; have c2_2 := rec_cell0 HR2.out 2 _ rfl; have c3_2 := rec_cell0 HR2.out 3 _ rfl; have c4_2 := rec_cell0 HR2.out 4 _ rfl; have c5_2 := rec_cell0 HR2.out 5 _ rfl; have c6_2 := rec_cell0 HR2.out 6 _ rfl; have c7_2 := rec_cell0 HR2.out 7 _ rfl; have c8_2 := rec_cell0 HR2.out 8 _ rfl; have c9_2 := rec_cell0 HR2.out 9 _ rfl; have c10_2 := rec_cell0 HR2.out 10 _ rfl; have c11_2 := rec_cell0 HR2.out 11 _ rfl; have HB2 := Lib.hid (ptrans HB1.out hb); clear hb)
        | (go_at_call 34; (with_reducible refine (hchk1 _).mono ?_); rintro e w3 ⟨rfl, hb⟩; have hk3 := (hb.block _ (lt_heap HR2.out)).trans HR2.out; have HR3 := Lib.hid hk3; clear hk3; have c0_3 := rec_cell0 HR3.out 0 _ rfl; have c1_3 := rec_cell0 HR3.out 1 _ rfl; have c2_3 := rec_cell0 HR3.out 2 _ rfl; have c3_3 := rec_cell0 HR3.out 3 _ rfl; have c4_3 := rec_cell0 HR3.out 4 _ rfl; have c5_3 := rec_cell0 HR3.out 5 _ rfl; have c6_3 := rec_cell0 HR3.out 6 _ rfl; have c7_3 := rec_cell0 HR3.out 7 _ rfl; have c8_3 := rec_cell0 HR3.out 8 _ rfl; have c9_3 := rec_cell0 HR3.out 9 _ rfl; have c10_3 := rec_cell0 HR3.out 10 _ rfl; have c11_3 := rec_cell0 HR3.out 11 _ rfl; have HB3 := Lib.hid (ptrans HB2.out hb); clear hb)
        | (go_at_call 35; (with_reducible refine (hget1 _).mono ?_); rintro e w4 ⟨rfl, hb⟩; have hk4 := (hb.block _ (lt_heap HR3.out)).trans HR3.out; have HR4 := Lib.hid hk4; clear hk4; have c0_4 := rec_cell0 HR4.out 0 _ rfl; have c1_4 := rec_cell0 HR4.out 1 _ rfl; have c2_4 := rec_cell0 HR4.out 2 _ rfl; have c3_4 := rec_cell0 HR4.out 3 _ rfl; have c4_4 := rec_cell0 HR4.out 4 _ rfl; have c5_4 := rec_cell0 HR4.out 5 _ rfl; have c6_4 := rec_cell0 HR4.out 6 _ rfl; have c7_4 := rec_cell0 HR4.out 7 _ rfl; have c8_4 := rec_cell0 HR4.out 8 _ rfl; have c9_4 := rec_cell0 HR4.out 9 _ rfl; have c10_4 := rec_cell0 HR4.out 10 _ rfl; have c11_4 := rec_cell0 HR4.out 11 _ rfl; have hx4 := ptrans (ptrans HB3.out hb) (below_a1' w4 (.cells #[.int .u64 r.stamp, .int .u8 r.act, .int .u32 r.dir, .string r.name, .int .u32 r.ino, .int .u8 r.kind, .int .u32 r.dir2, .string r.name2, .int .u32 r.old, .int .u32 r.size, .int .i64 r.page, .string r.data] 34)); have z0 := rec_cell0 (RelB.rec (RelB.of (below_a1' w4 (.cells #[.int .u64 r.stamp, .int .u8 r.act, .int .u32 r.dir, .string r.name, .int .u32 r.ino, .int .u8 r.kind, .int .u32 r.dir2, .string r.name2, .int .u32 r.old, .int .u32 r.size, .int .i64 r.page, .string r.data] 34))) HR4.out) 0 _ rfl; have z1 := rec_cell0 (RelB.rec (RelB.of (below_a1' w4 (.cells #[.int .u64 r.stamp, .int .u8 r.act, .int .u32 r.dir, .string r.name, .int .u32 r.ino, .int .u8 r.kind, .int .u32 r.dir2, .string r.name2, .int .u32 r.old, .int .u32 r.size, .int .i64 r.page, .string r.data] 34))) HR4.out) 1 _ rfl; have z2 := rec_cell0 (RelB.rec (RelB.of (below_a1' w4 (.cells #[.int .u64 r.stamp, .int .u8 r.act, .int .u32 r.dir, .string r.name, .int .u32 r.ino, .int .u8 r.kind, .int .u32 r.dir2, .string r.name2, .int .u32 r.old, .int .u32 r.size, .int .i64 r.page, .string r.data] 34))) HR4.out) 2 _ rfl; have z3 := rec_cell0 (RelB.rec (RelB.of (below_a1' w4 (.cells #[.int .u64 r.stamp, .int .u8 r.act, .int .u32 r.dir, .string r.name, .int .u32 r.ino, .int .u8 r.kind, .int .u32 r.dir2, .string r.name2, .int .u32 r.old, .int .u32 r.size, .int .i64 r.page, .string r.data] 34))) HR4.out) 3 _ rfl; have z4 := rec_cell0 (RelB.rec (RelB.of (below_a1' w4 (.cells #[.int .u64 r.stamp, .int .u8 r.act, .int .u32 r.dir, .string r.name, .int .u32 r.ino, .int .u8 r.kind, .int .u32 r.dir2, .string r.name2, .int .u32 r.old, .int .u32 r.size, .int .i64 r.page, .string r.data] 34))) HR4.out) 4 _ rfl; have z5 := rec_cell0 (RelB.rec (RelB.of (below_a1' w4 (.cells #[.int .u64 r.stamp, .int .u8 r.act, .int .u32 r.dir, .string r.name, .int .u32 r.ino, .int .u8 r.kind, .int .u32 r.dir2, .string r.name2, .int .u32 r.old, .int .u32 r.size, .int .i64 r.page, .string r.data] 34))) HR4.out) 5 _ rfl; have z6 := rec_cell0 (RelB.rec (RelB.of (below_a1' w4 (.cells #[.int .u64 r.stamp, .int .u8 r.act, .int .u32 r.dir, .string r.name, .int .u32 r.ino, .int .u8 r.kind, .int .u32 r.dir2, .string r.name2, .int .u32 r.old, .int .u32 r.size, .int .i64 r.page, .string r.data] 34))) HR4.out) 6 _ rfl; have z7 := rec_cell0 (RelB.rec (RelB.of (below_a1' w4 (.cells #[.int .u64 r.stamp, .int .u8 r.act, .int .u32 r.dir, .string r.name, .int .u32 r.ino, .int .u8 r.kind, .int .u32 r.dir2, .string r.name2, .int .u32 r.old, .int .u32 r.size, .int .i64 r.page, .string r.data] 34))) HR4.out) 7 _ rfl; have z8 := rec_cell0 (RelB.rec (RelB.of (below_a1' w4 (.cells #[.int .u64 r.stamp, .int .u8 r.act, .int .u32 r.dir, .string r.name, .int .u32 r.ino, .int .u8 r.kind, .int .u32 r.dir2, .string r.name2, .int .u32 r.old, .int .u32 r.size, .int .i64 r.page, .string r.data] 34))) HR4.out) 8 _ rfl; have z9 := rec_cell0 (RelB.rec (RelB.of (below_a1' w4 (.cells #[.int .u64 r.stamp, .int .u8 r.act, .int .u32 r.dir, .string r.name, .int .u32 r.ino, .int .u8 r.kind, .int .u32 r.dir2, .string r.name2, .int .u32 r.old, .int .u32 r.size, .int .i64 r.page, .string r.data] 34))) HR4.out) 9 _ rfl; have z10 := rec_cell0 (RelB.rec (RelB.of (below_a1' w4 (.cells #[.int .u64 r.stamp, .int .u8 r.act, .int .u32 r.dir, .string r.name, .int .u32 r.ino, .int .u8 r.kind, .int .u32 r.dir2, .string r.name2, .int .u32 r.old, .int .u32 r.size, .int .i64 r.page, .string r.data] 34))) HR4.out) 10 _ rfl; have z11 := rec_cell0 (RelB.rec (RelB.of (below_a1' w4 (.cells #[.int .u64 r.stamp, .int .u8 r.act, .int .u32 r.dir, .string r.name, .int .u32 r.ino, .int .u8 r.kind, .int .u32 r.dir2, .string r.name2, .int .u32 r.old, .int .u32 r.size, .int .i64 r.page, .string r.data] 34))) HR4.out) 11 _ rfl; have HB4 := Lib.hid hx4; clear hb hx4)
        | (go_at_call 35; (with_reducible refine (hget2 _).mono ?_); rintro e w5 ⟨rfl, hb⟩; have HB5 := Lib.hid (ptrans HB4.out hb); clear hb)
        | (go_at_call 33; (with_reducible refine (hput2 _).mono ?_); rintro e w6 ⟨rfl, hb⟩; have HB6 := Lib.hid (ptrans (ptrans HB5.out (below_a1' w5 _)) hb); clear hb)
        | (go_at_call 32; (with_reducible refine (t_alive22 _).mono ?_); rintro e w9 ⟨rfl, hb⟩; have HB9 := Lib.hid hb; clear hb))
      all_goals
        go_ret
        first
          | exact ⟨rfl, ptrans HB1.out HB9.out⟩
          | exact ⟨rfl, ptrans (ptrans HB5.out (below_a1' w5 _)) HB9.out⟩
          | exact ⟨rfl, ptrans HB6.out HB9.out⟩
  · simp only [if_neg hG] at hget2
    unfold R.val at hget2
    clear hg hG
    cases hck : checkB r
    · by_cases hS : 4096 < s.size
      · have hS2 : (4096 : Int) < s.size := by omega
        clear hget2 hput1 hchk1
        go_enter Tryz.func6, Tryz.ntmps6
        go_wp2_with (first | (go_at_call 31; (with_reducible refine (hlg _).mono ?_); rintro e w1 ⟨⟨lb, rfl⟩, hb⟩; have HB1 := Lib.hid hb; clear hb) | (go_at_call 32; (with_reducible refine (t_alive22 _).mono ?_); rintro e w9 ⟨rfl, hb⟩; have HB9 := Lib.hid hb; clear hb))
        all_goals
          go_ret
          exact ⟨rfl, ptrans (ptrans (below_a1' w _) HB1.out) HB9.out⟩
      have hS2 : ¬ (4096 : Int) < s.size := by omega
      simp only [if_neg (show ¬ checkB r = true by rw [hck]; simp)] at hput1
      rw [show checkE r = 2 by unfold checkE; rw [hck]; rfl] at hchk1
      clear hck
      go_enter Tryz.func6, Tryz.ntmps6
      go_wp2_with (first
        | (go_at_call 31; (with_reducible refine (hlg _).mono ?_); rintro e w1 ⟨⟨lb, rfl⟩, hb⟩; have hk1 : w1.heap[w.heap.size]? = some (.cells (cellsR r) 34 (0, 0)) := (hb.block _ (by simp)).trans (heap_alloc_new _ _); have HR1 := Lib.hid hk1; have HB1 := Lib.hid (ptrans (below_a1' w _) hb); clear hb hk1; have c0_1 := rec_cell0 HR1.out 0 _ rfl; have c1_1 := rec_cell0 HR1.out 1 _ rfl; have c2_1 := rec_cell0 HR1.out 2 _ rfl; have c3_1 := rec_cell0 HR1.out 3 _ rfl; have c4_1 := rec_cell0 HR1.out 4 _ rfl; have c5_1 := rec_cell0 HR1.out 5 _ rfl; have c6_1 := rec_cell0 HR1.out 6 _ rfl; have c7_1 := rec_cell0 HR1.out 7 _ rfl; have c8_1 := rec_cell0 HR1.out 8 _ rfl; have c9_1 := rec_cell0 HR1.out 9 _ rfl; have c10_1 := rec_cell0 HR1.out 10 _ rfl; have c11_1 := rec_cell0 HR1.out 11 _ rfl)
        | (go_at_call 33; (with_reducible refine (hput1 _).mono ?_); rintro e w2 ⟨rfl, hb⟩; have hk2 := (hb.block _ (lt_heap HR1.out)).trans HR1.out; have HR2 := Lib.hid hk2; clear hk2; have c0_2 := rec_cell0 HR2.out 0 _ rfl; have c1_2 := rec_cell0 HR2.out 1 _ rfl; have c2_2 := rec_cell0 HR2.out 2 _ rfl; have c3_2 := rec_cell0 HR2.out 3 _ rfl; have c4_2 := rec_cell0 HR2.out 4 _ rfl; have c5_2 := rec_cell0 HR2.out 5 _ rfl; have c6_2 := rec_cell0 HR2.out 6 _ rfl; have c7_2 := rec_cell0 HR2.out 7 _ rfl; have c8_2 := rec_cell0 HR2.out 8 _ rfl; have c9_2 := rec_cell0 HR2.out 9 _ rfl; have c10_2 := rec_cell0 HR2.out 10 _ rfl; have c11_2 := rec_cell0 HR2.out 11 _ rfl; have HB2 := Lib.hid (ptrans HB1.out hb); clear hb)
        | (go_at_call 34; (with_reducible refine (hchk1 _).mono ?_); rintro e w3 ⟨rfl, hb⟩; have hk3 := (hb.block _ (lt_heap HR2.out)).trans HR2.out; have HR3 := Lib.hid hk3; clear hk3; have c0_3 := rec_cell0 HR3.out 0 _ rfl; have c1_3 := rec_cell0 HR3.out 1 _ rfl; have c2_3 := rec_cell0 HR3.out 2 _ rfl; have c3_3 := rec_cell0 HR3.out 3 _ rfl; have c4_3 := rec_cell0 HR3.out 4 _ rfl; have c5_3 := rec_cell0 HR3.out 5 _ rfl; have c6_3 := rec_cell0 HR3.out 6 _ rfl; have c7_3 := rec_cell0 HR3.out 7 _ rfl; have c8_3 := rec_cell0 HR3.out 8 _ rfl; have c9_3 := rec_cell0 HR3.out 9 _ rfl; have c10_3 := rec_cell0 HR3.out 10 _ rfl; have c11_3 := rec_cell0 HR3.out 11 _ rfl; have HB3 := Lib.hid (ptrans HB2.out hb); clear hb)
        | (go_at_call 35; (with_reducible refine (hget2 _).mono ?_); rintro e w5 ⟨rfl, hb⟩; have HB5 := Lib.hid (ptrans HB3.out hb); clear hb)
        | (go_at_call 32; (with_reducible refine (t_alive22 _).mono ?_); rintro e w9 ⟨rfl, hb⟩; have HB9 := Lib.hid hb; clear hb))
      all_goals
        go_ret
        first
          | exact ⟨rfl, ptrans HB1.out HB9.out⟩
          | exact ⟨rfl, ptrans (ptrans HB5.out (below_a1' w5 _)) HB9.out⟩
    · by_cases hS : 4096 < s.size
      · have hS2 : (4096 : Int) < s.size := by omega
        clear hget2 hput1 hchk1
        go_enter Tryz.func6, Tryz.ntmps6
        go_wp2_with (first | (go_at_call 31; (with_reducible refine (hlg _).mono ?_); rintro e w1 ⟨⟨lb, rfl⟩, hb⟩; have HB1 := Lib.hid hb; clear hb) | (go_at_call 32; (with_reducible refine (t_alive22 _).mono ?_); rintro e w9 ⟨rfl, hb⟩; have HB9 := Lib.hid hb; clear hb))
        all_goals
          go_ret
          exact ⟨rfl, ptrans (ptrans (below_a1' w _) HB1.out) HB9.out⟩
      have hS2 : ¬ (4096 : Int) < s.size := by omega
      have hbr := bare_of_check hr hck
      have hgp := get_put hbr s.data.toList
      have hget1 : ∀ w, Calls Tryz.prog 35 #[.string (⟨r.bytes.toArray⟩ ++ s)] w fun e w' => e = .returned (.tuple #[.agg #[.int .u64 r.stamp, .int .u8 r.act, .int .u32 r.dir, .string r.name, .int .u32 r.ino, .int .u8 r.kind, .int .u32 r.dir2, .string r.name2, .int .u32 r.old, .int .u32 r.size, .int .i64 r.page, .string r.data], .string s, .int .i64 0]) ∧ Below w.heap.size w w' := fun w => by
        have h := t_get (⟨r.bytes.toArray⟩ ++ s) (put_fits r s hbr hS) w
        have e : ((⟨r.bytes.toArray⟩ : ByteArray) ++ s).data.toList = r.bytes ++ s.data.toList := by rw [mk_append, mk_list']
        rw [e, hgp, if_pos ⟨rfl, hck⟩, mk_list] at h
        exact h
      simp only [if_pos hck] at hput1
      rw [show checkE r = 0 by unfold checkE; rw [if_pos hck]] at hchk1
      have hq1 := put_fits2 r s hbr hS
      clear hbr hgp hck
      go_enter Tryz.func6, Tryz.ntmps6
      go_wp2_with (first
        | (go_at_call 31; (with_reducible refine (hlg _).mono ?_); rintro e w1 ⟨⟨lb, rfl⟩, hb⟩; have hk1 : w1.heap[w.heap.size]? = some (.cells (cellsR r) 34 (0, 0)) := (hb.block _ (by simp)).trans (heap_alloc_new _ _); have HR1 := Lib.hid hk1; have HB1 := Lib.hid (ptrans (below_a1' w _) hb); clear hb hk1; have c0_1 := rec_cell0 HR1.out 0 _ rfl; have c1_1 := rec_cell0 HR1.out 1 _ rfl; have c2_1 := rec_cell0 HR1.out 2 _ rfl; have c3_1 := rec_cell0 HR1.out 3 _ rfl; have c4_1 := rec_cell0 HR1.out 4 _ rfl; have c5_1 := rec_cell0 HR1.out 5 _ rfl; have c6_1 := rec_cell0 HR1.out 6 _ rfl; have c7_1 := rec_cell0 HR1.out 7 _ rfl; have c8_1 := rec_cell0 HR1.out 8 _ rfl; have c9_1 := rec_cell0 HR1.out 9 _ rfl; have c10_1 := rec_cell0 HR1.out 10 _ rfl; have c11_1 := rec_cell0 HR1.out 11 _ rfl)
        | (go_at_call 33; (with_reducible refine (hput1 _).mono ?_); rintro e w2 ⟨rfl, hb⟩; have hk2 := (hb.block _ (lt_heap HR1.out)).trans HR1.out; have HR2 := Lib.hid hk2; clear hk2; have c0_2 := rec_cell0 HR2.out 0 _ rfl; have c1_2 := rec_cell0 HR2.out 1 _ rfl; have c2_2 := rec_cell0 HR2.out 2 _ rfl; have c3_2 := rec_cell0 HR2.out 3 _ rfl; have c4_2 := rec_cell0 HR2.out 4 _ rfl; have c5_2 := rec_cell0 HR2.out 5 _ rfl; have c6_2 := rec_cell0 HR2.out 6 _ rfl; have c7_2 := rec_cell0 HR2.out 7 _ rfl; have c8_2 := rec_cell0 HR2.out 8 _ rfl; have c9_2 := rec_cell0 HR2.out 9 _ rfl; have c10_2 := rec_cell0 HR2.out 10 _ rfl; have c11_2 := rec_cell0 HR2.out 11 _ rfl; have HB2 := Lib.hid (ptrans HB1.out hb); clear hb)
        | (go_at_call 34; (with_reducible refine (hchk1 _).mono ?_); rintro e w3 ⟨rfl, hb⟩; have hk3 := (hb.block _ (lt_heap HR2.out)).trans HR2.out; have HR3 := Lib.hid hk3; clear hk3; have c0_3 := rec_cell0 HR3.out 0 _ rfl; have c1_3 := rec_cell0 HR3.out 1 _ rfl; have c2_3 := rec_cell0 HR3.out 2 _ rfl; have c3_3 := rec_cell0 HR3.out 3 _ rfl; have c4_3 := rec_cell0 HR3.out 4 _ rfl; have c5_3 := rec_cell0 HR3.out 5 _ rfl; have c6_3 := rec_cell0 HR3.out 6 _ rfl; have c7_3 := rec_cell0 HR3.out 7 _ rfl; have c8_3 := rec_cell0 HR3.out 8 _ rfl; have c9_3 := rec_cell0 HR3.out 9 _ rfl; have c10_3 := rec_cell0 HR3.out 10 _ rfl; have c11_3 := rec_cell0 HR3.out 11 _ rfl; have HB3 := Lib.hid (ptrans HB2.out hb); clear hb)
        | (go_at_call 35; (with_reducible refine (hget1 _).mono ?_); rintro e w4 ⟨rfl, hb⟩; have hk4 := (hb.block _ (lt_heap HR3.out)).trans HR3.out; have HR4 := Lib.hid hk4; clear hk4; have c0_4 := rec_cell0 HR4.out 0 _ rfl; have c1_4 := rec_cell0 HR4.out 1 _ rfl; have c2_4 := rec_cell0 HR4.out 2 _ rfl; have c3_4 := rec_cell0 HR4.out 3 _ rfl; have c4_4 := rec_cell0 HR4.out 4 _ rfl; have c5_4 := rec_cell0 HR4.out 5 _ rfl; have c6_4 := rec_cell0 HR4.out 6 _ rfl; have c7_4 := rec_cell0 HR4.out 7 _ rfl; have c8_4 := rec_cell0 HR4.out 8 _ rfl; have c9_4 := rec_cell0 HR4.out 9 _ rfl; have c10_4 := rec_cell0 HR4.out 10 _ rfl; have c11_4 := rec_cell0 HR4.out 11 _ rfl; have hx4 := ptrans (ptrans HB3.out hb) (below_a1' w4 (.cells #[.int .u64 r.stamp, .int .u8 r.act, .int .u32 r.dir, .string r.name, .int .u32 r.ino, .int .u8 r.kind, .int .u32 r.dir2, .string r.name2, .int .u32 r.old, .int .u32 r.size, .int .i64 r.page, .string r.data] 34)); have z0 := rec_cell0 (RelB.rec (RelB.of (below_a1' w4 (.cells #[.int .u64 r.stamp, .int .u8 r.act, .int .u32 r.dir, .string r.name, .int .u32 r.ino, .int .u8 r.kind, .int .u32 r.dir2, .string r.name2, .int .u32 r.old, .int .u32 r.size, .int .i64 r.page, .string r.data] 34))) HR4.out) 0 _ rfl; have z1 := rec_cell0 (RelB.rec (RelB.of (below_a1' w4 (.cells #[.int .u64 r.stamp, .int .u8 r.act, .int .u32 r.dir, .string r.name, .int .u32 r.ino, .int .u8 r.kind, .int .u32 r.dir2, .string r.name2, .int .u32 r.old, .int .u32 r.size, .int .i64 r.page, .string r.data] 34))) HR4.out) 1 _ rfl; have z2 := rec_cell0 (RelB.rec (RelB.of (below_a1' w4 (.cells #[.int .u64 r.stamp, .int .u8 r.act, .int .u32 r.dir, .string r.name, .int .u32 r.ino, .int .u8 r.kind, .int .u32 r.dir2, .string r.name2, .int .u32 r.old, .int .u32 r.size, .int .i64 r.page, .string r.data] 34))) HR4.out) 2 _ rfl; have z3 := rec_cell0 (RelB.rec (RelB.of (below_a1' w4 (.cells #[.int .u64 r.stamp, .int .u8 r.act, .int .u32 r.dir, .string r.name, .int .u32 r.ino, .int .u8 r.kind, .int .u32 r.dir2, .string r.name2, .int .u32 r.old, .int .u32 r.size, .int .i64 r.page, .string r.data] 34))) HR4.out) 3 _ rfl; have z4 := rec_cell0 (RelB.rec (RelB.of (below_a1' w4 (.cells #[.int .u64 r.stamp, .int .u8 r.act, .int .u32 r.dir, .string r.name, .int .u32 r.ino, .int .u8 r.kind, .int .u32 r.dir2, .string r.name2, .int .u32 r.old, .int .u32 r.size, .int .i64 r.page, .string r.data] 34))) HR4.out) 4 _ rfl; have z5 := rec_cell0 (RelB.rec (RelB.of (below_a1' w4 (.cells #[.int .u64 r.stamp, .int .u8 r.act, .int .u32 r.dir, .string r.name, .int .u32 r.ino, .int .u8 r.kind, .int .u32 r.dir2, .string r.name2, .int .u32 r.old, .int .u32 r.size, .int .i64 r.page, .string r.data] 34))) HR4.out) 5 _ rfl; have z6 := rec_cell0 (RelB.rec (RelB.of (below_a1' w4 (.cells #[.int .u64 r.stamp, .int .u8 r.act, .int .u32 r.dir, .string r.name, .int .u32 r.ino, .int .u8 r.kind, .int .u32 r.dir2, .string r.name2, .int .u32 r.old, .int .u32 r.size, .int .i64 r.page, .string r.data] 34))) HR4.out) 6 _ rfl; have z7 := rec_cell0 (RelB.rec (RelB.of (below_a1' w4 (.cells #[.int .u64 r.stamp, .int .u8 r.act, .int .u32 r.dir, .string r.name, .int .u32 r.ino, .int .u8 r.kind, .int .u32 r.dir2, .string r.name2, .int .u32 r.old, .int .u32 r.size, .int .i64 r.page, .string r.data] 34))) HR4.out) 7 _ rfl; have z8 := rec_cell0 (RelB.rec (RelB.of (below_a1' w4 (.cells #[.int .u64 r.stamp, .int .u8 r.act, .int .u32 r.dir, .string r.name, .int .u32 r.ino, .int .u8 r.kind, .int .u32 r.dir2, .string r.name2, .int .u32 r.old, .int .u32 r.size, .int .i64 r.page, .string r.data] 34))) HR4.out) 8 _ rfl; have z9 := rec_cell0 (RelB.rec (RelB.of (below_a1' w4 (.cells #[.int .u64 r.stamp, .int .u8 r.act, .int .u32 r.dir, .string r.name, .int .u32 r.ino, .int .u8 r.kind, .int .u32 r.dir2, .string r.name2, .int .u32 r.old, .int .u32 r.size, .int .i64 r.page, .string r.data] 34))) HR4.out) 9 _ rfl; have z10 := rec_cell0 (RelB.rec (RelB.of (below_a1' w4 (.cells #[.int .u64 r.stamp, .int .u8 r.act, .int .u32 r.dir, .string r.name, .int .u32 r.ino, .int .u8 r.kind, .int .u32 r.dir2, .string r.name2, .int .u32 r.old, .int .u32 r.size, .int .i64 r.page, .string r.data] 34))) HR4.out) 10 _ rfl; have z11 := rec_cell0 (RelB.rec (RelB.of (below_a1' w4 (.cells #[.int .u64 r.stamp, .int .u8 r.act, .int .u32 r.dir, .string r.name, .int .u32 r.ino, .int .u8 r.kind, .int .u32 r.dir2, .string r.name2, .int .u32 r.old, .int .u32 r.size, .int .i64 r.page, .string r.data] 34))) HR4.out) 11 _ rfl; have HB4 := Lib.hid hx4; clear hb hx4)
        | (go_at_call 35; (with_reducible refine (hget2 _).mono ?_); rintro e w5 ⟨rfl, hb⟩; have HB5 := Lib.hid (ptrans HB4.out hb); clear hb)
        | (go_at_call 32; (with_reducible refine (t_alive22 _).mono ?_); rintro e w9 ⟨rfl, hb⟩; have HB9 := Lib.hid hb; clear hb))
      all_goals
        go_ret
        first
          | exact ⟨rfl, ptrans HB1.out HB9.out⟩
          | exact ⟨rfl, ptrans (ptrans HB5.out (below_a1' w5 _)) HB9.out⟩
end Go.Proofs.YtehckjkihaalfaaGreat
