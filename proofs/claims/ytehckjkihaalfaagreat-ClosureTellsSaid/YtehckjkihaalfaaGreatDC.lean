/- The document's parts of a record, walked. -/
import Derived.Test.YtehckjkihaalfaaGreatDB
import Derived.Test.YtehckjkihaalfaaGreatBQ
namespace Go.Proofs.YtehckjkihaalfaaGreat
open Go.RowKit Go.Maps

theorem rname_eq (s : ByteArray) : nameB s = pnameB s := rfl
theorem may_check (r : R) : mayB r = checkB r := by
  have e0 : ∀ s : ByteArray, s.toList.isEmpty = (s.size == 0) := fun s => by
    rw [ByteArray.toList_eq, Bool.eq_iff_iff]
    simp [List.isEmpty_iff, Array.toList_eq_nil_iff, ← ByteArray.size_data]
  unfold mayB checkB fitB kEntry kKind kMove kSized kData
  rw [e0, e0, e0, rname_eq, rname_eq]
  have e1 : ∀ v, rinoB v = inoB v := fun v => by unfold rinoB inoB; rw [Bool.eq_iff_iff]; simp
  simp only [e1]
  by_cases h1 : 1 ≤ r.act
  · by_cases h7 : r.act ≤ 7
    · have : r.act = 1 ∨ r.act = 2 ∨ r.act = 3 ∨ r.act = 4 ∨ r.act = 5 ∨ r.act = 6 ∨ r.act = 7 := by omega
      rcases this with h | h | h | h | h | h | h <;> simp [h, Bool.and_assoc]
    · have : decide (r.act ≤ 7) = false := by simpa using h7
      simp [h7]
  · simp [h1]
theorem needs_entry {d : Int} (h : 1 ≤ d ∧ d ≤ 4) : ∃ a b, needsA d = #[.bool true, .bool a, .bool b, .bool false, .bool false] := by
  have : d = 1 ∨ d = 2 ∨ d = 3 ∨ d = 4 := by omega
  rcases this with h | h | h | h <;> subst h
  · exact ⟨true, false, rfl⟩
  · exact ⟨false, false, rfl⟩
  · exact ⟨true, false, rfl⟩
  · exact ⟨true, true, rfl⟩
theorem needs_bare {d : Int} (h : 5 ≤ d ∧ d ≤ 7) : ∃ a b, needsA d = #[.bool false, .bool false, .bool false, .bool a, .bool b] := by
  have : d = 5 ∨ d = 6 ∨ d = 7 := by omega
  rcases this with h | h | h <;> subst h
  · exact ⟨true, false, rfl⟩
  · exact ⟨true, true, rfl⟩
  · exact ⟨false, false, rfl⟩
theorem cell_blk {W : World} {B : Nat} {c : Array Value} {T : TypeId} (h : W.heap[B]? = some (.cells c T (0, 0))) (i : Nat) (v : Value) (hv : c[i]? = some v) : W.cell? ⟨B, i, none⟩ = some v := by simp only [World.cell?, h]; exact hv
/-- The record in its block, its own part in another one. -/
def Pr0 (w : World) (r : R) (B : Nat) (W : World) : Prop :=
  W.heap[w.heap.size]? = some (.cells (cellsR r) 34 (0, 0)) ∧ W.heap[B]? = some (.cells #[.int .u8 2, .int .u32 r.ino, .string ⟨#[]⟩, .bool true] 142 (0, 0)) ∧ Below w.heap.size w W ∧ w.heap.size < B ∧ B + 1 ≤ W.heap.size
theorem Pr0.made {w w1 : World} {r : R} (hb : Below (w.alloc (.cells (cellsR r) 34)).heap.size (w.alloc (.cells (cellsR r) 34)) w1) : Pr0 w r w1.heap.size (w1.alloc (.cells #[.int .u8 2, .int .u32 r.ino, .string ⟨#[]⟩, .bool true] 142)) := by
  have h1 : w1.heap[w.heap.size]? = some (.cells (cellsR r) 34 (0, 0)) := (hb.block _ (by simp)).trans (heap_alloc_new _ _)
  have hs := hb.size
  rw [World.alloc_size'] at hs
  exact ⟨(heap_alloc_old _ _ (lt_heap h1)).trans h1, heap_alloc_new _ _, (ptrans (below_a1' w _) hb).alloc (by omega) _, by omega, by rw [World.alloc_size']; omega⟩
theorem Pr0.alloc {w W : World} {r : R} {B : Nat} (h : Pr0 w r B W) (o : Obj) : Pr0 w r B (W.alloc o) := by
  obtain ⟨h1, h2, h3, h4, h5⟩ := h
  exact ⟨(heap_alloc_old _ _ (lt_heap h1)).trans h1, (heap_alloc_old _ _ (lt_heap h2)).trans h2, h3.alloc h3.size _, h4, by rw [World.alloc_size']; omega⟩
/-- What has been collected beside them. -/
def Pr (w : World) (r : R) (B : Nat) (W : World) (v : Value) (n : Nat) (l : List Pt) : Prop := Pr0 w r B W ∧ W.ownsRow (B + 1) 142 4 v n (flatP l)
theorem Pr.more {w W W' : World} {r : R} {B : Nat} {v v' : Value} {n k : Nat} {l l' : List Pt} {o : Obj} (h : Pr w r B W v n l) (g2 : W'.ownsRow (B + 1) 142 4 v' k (flatP l')) (g3 : (W.alloc o).grownBy W' v.ownBlock) : Pr w r B W' v' k l' := by
  obtain ⟨h0, h2⟩ := h
  obtain ⟨h1, h5, h3, h4, h6⟩ := h0.alloc o
  have hs := g3.size
  refine ⟨⟨?_, ?_, h3.grown g3 (by omega) (fun q hq => by have := (h2.lt q hq).1; omega), h4, by omega⟩, g2⟩
  · rw [g3.block _ (lt_heap h1) (fun e => by have := (h2.lt _ e.symm).1; omega)]
    exact h1
  · rw [g3.block _ (lt_heap h5) (fun e => by have := (h2.lt _ e.symm).1; omega)]
    exact h5
theorem Pr.start {w W : World} {r : R} {B : Nat} (h : Pr0 w r B W) (p : Pt) : Pr w r B (W.alloc (.cells (flatP [p]).toArray 142)) (.slice (some ⟨W.heap.size, 0, none⟩) 1 1) 1 [p] := by
  refine ⟨h.alloc _, ?_⟩
  have := World.ownsRow_lit (base := B + 1) (e := 142) (size := 4) W (flatP [p]).toArray 1 h.2.2.2.2 (by decide) rfl
  exact this
theorem Pr.row {w W : World} {r : R} {B : Nat} {v : Value} {n : Nat} {l : List Pt} (h : Pr w r B W v n l) : W.ownsRow w.heap.size 142 4 v n (flatP l) := ⟨h.2.1, h.2.2.elim .inl fun ⟨g, cap, cur, a, b, c⟩ => .inr ⟨g, cap, cur, a, by have := h.1.2.2.2.1; omega, c⟩⟩
theorem needs_field (x a b c d : Bool) (W : World) : (Instr.field 151 (.agg #[.bool x, .bool a, .bool b, .bool c, .bool d]) 0).run Tryz.prog W = .ok (.bool x) W := by kernel_rfl
set_option maxRecDepth 100000 in
set_option maxHeartbeats 16000000 in
theorem t_rparts_bare (stamp act dir ino kind dir2 old size page : Int) (name name2 data : ByteArray) (ha : 5 ≤ act ∧ act ≤ 7) (h1 : name.size ≤ maxLen) (h2 : name2.size ≤ maxLen) (h3 : data.size ≤ maxLen) (hck : checkB ⟨stamp, act, dir, name, ino, kind, dir2, name2, old, size, page, data⟩ = true) (w : World) :
    Calls Tryz.prog 95 #[.agg #[.int .u64 stamp, .int .u8 act, .int .u32 dir, .string name, .int .u32 ino, .int .u8 kind, .int .u32 dir2, .string name2, .int .u32 old, .int .u32 size, .int .i64 page, .string data]] w fun e w' => ∃ v, e = .returned v ∧ w'.ownsRow w.heap.size 142 4 v 1 (flatP [⟨2, ino, ⟨#[]⟩, true⟩]) ∧ Below w.heap.size w w' := by
  have hmay := fun w => t_may ⟨stamp, act, dir, name, ino, kind, dir2, name2, old, size, page, data⟩ w h1 h2 h3
  rw [may_check, hck] at hmay
  unfold R.val at hmay
  obtain ⟨a, b, hnd⟩ := needs_bare (d := act) ha
  have hof := fun w => t_of_lit act (by omega) w
  rw [hnd] at hof
  clear hck hnd
  have HOF := Lib.hid hof
  clear hof
  have hfd := needs_field
  go_enter Tryz.func95, Tryz.ntmps95
  go_wp2_with (first
    | (go_at_call 64; (with_reducible refine (hmay _).mono ?_); rintro e w1 ⟨rfl, hb⟩; have c4_0 := rec_cell0 (r := ⟨stamp, act, dir, name, ino, kind, dir2, name2, old, size, page, data⟩) ((hb.block _ (by simp)).trans (heap_alloc_new w _)) 4 _ rfl; have HU := Lib.hid (Pr0.made (r := ⟨stamp, act, dir, name, ino, kind, dir2, name2, old, size, page, data⟩) hb); have c1_1 := rec_cell0 HU.out.1 1 _ rfl; have c2_1 := rec_cell0 HU.out.1 2 _ rfl; have c3_1 := rec_cell0 HU.out.1 3 _ rfl; have c4_1 := rec_cell0 HU.out.1 4 _ rfl; have c5_1 := rec_cell0 HU.out.1 5 _ rfl; have c6_1 := rec_cell0 HU.out.1 6 _ rfl; have c7_1 := rec_cell0 HU.out.1 7 _ rfl; have c8_1 := rec_cell0 HU.out.1 8 _ rfl; have o0_1 := cell_blk HU.out.2.1 0 _ rfl; have o1_1 := cell_blk HU.out.2.1 1 _ rfl; have o2_1 := cell_blk HU.out.2.1 2 _ rfl; have o3_1 := cell_blk HU.out.2.1 3 _ rfl; clear hb)
    | (go_at_call 99; (with_reducible refine (HOF.out _).mono ?_); rintro e w2 ⟨rfl, hw2⟩; have HB2 : Hid (Pr0 w ⟨stamp, act, dir, name, ino, kind, dir2, name2, old, size, page, data⟩ w1.heap.size w2) := (by subst hw2; exact HU.out.alloc _); clear hw2; clear c4_0; clear c1_1 c2_1 c3_1 c4_1 c5_1 c6_1 c7_1 c8_1 o0_1 o1_1 o2_1 o3_1; have c1_2 := rec_cell0 HB2.out.1 1 _ rfl; have c2_2 := rec_cell0 HB2.out.1 2 _ rfl; have c3_2 := rec_cell0 HB2.out.1 3 _ rfl; have c4_2 := rec_cell0 HB2.out.1 4 _ rfl; have c5_2 := rec_cell0 HB2.out.1 5 _ rfl; have c6_2 := rec_cell0 HB2.out.1 6 _ rfl; have c7_2 := rec_cell0 HB2.out.1 7 _ rfl; have c8_2 := rec_cell0 HB2.out.1 8 _ rfl; have o0_2 := cell_blk HB2.out.2.1 0 _ rfl; have o1_2 := cell_blk HB2.out.2.1 1 _ rfl; have o2_2 := cell_blk HB2.out.2.1 2 _ rfl; have o3_2 := cell_blk HB2.out.2.1 3 _ rfl))
  go_ret
  exact ⟨_, rfl, (Pr.start HB2.out ⟨2, ino, ⟨#[]⟩, true⟩).row, (Pr.start HB2.out ⟨2, ino, ⟨#[]⟩, true⟩).1.2.2.1⟩
set_option maxRecDepth 100000 in
set_option maxHeartbeats 16000000 in
theorem t_rparts_entry (stamp act dir ino kind dir2 size page : Int) (name name2 data : ByteArray) (ha : 1 ≤ act ∧ act ≤ 3) (h4 : (act == 4) = false) (h1 : name.size ≤ maxLen) (h2 : name2.size ≤ maxLen) (h3 : data.size ≤ maxLen) (hck : checkB ⟨stamp, act, dir, name, ino, kind, dir2, name2, 0, size, page, data⟩ = true) (w : World) :
    Calls Tryz.prog 95 #[.agg #[.int .u64 stamp, .int .u8 act, .int .u32 dir, .string name, .int .u32 ino, .int .u8 kind, .int .u32 dir2, .string name2, .int .u32 0, .int .u32 size, .int .i64 page, .string data]] w fun e w' => ∃ v, e = .returned v ∧ w'.ownsRow w.heap.size 142 4 v 3 (flatP [⟨1, dir, name, true⟩, ⟨2, ino, ⟨#[]⟩, true⟩, ⟨2, dir, ⟨#[]⟩, false⟩]) ∧ Below w.heap.size w w' := by
  have hmay := fun w => t_may ⟨stamp, act, dir, name, ino, kind, dir2, name2, 0, size, page, data⟩ w h1 h2 h3
  rw [may_check, hck] at hmay
  unfold R.val at hmay
  obtain ⟨a, b, hnd⟩ := needs_entry (d := act) (by omega)
  have hof := fun w => t_of_lit act (by omega) w
  rw [hnd] at hof
  clear hck hnd
  have HOF := Lib.hid hof
  clear hof
  have hfd := needs_field
  go_enter Tryz.func95, Tryz.ntmps95
  go_wp2_with (first
    | (go_at_call 64; (with_reducible refine (hmay _).mono ?_); rintro e w1 ⟨rfl, hb⟩; have c4_0 := rec_cell0 (r := ⟨stamp, act, dir, name, ino, kind, dir2, name2, 0, size, page, data⟩) ((hb.block _ (by simp)).trans (heap_alloc_new w _)) 4 _ rfl; have HU := Lib.hid (Pr0.made (r := ⟨stamp, act, dir, name, ino, kind, dir2, name2, 0, size, page, data⟩) hb); have c1_1 := rec_cell0 HU.out.1 1 _ rfl; have c2_1 := rec_cell0 HU.out.1 2 _ rfl; have c3_1 := rec_cell0 HU.out.1 3 _ rfl; have c4_1 := rec_cell0 HU.out.1 4 _ rfl; have c5_1 := rec_cell0 HU.out.1 5 _ rfl; have c6_1 := rec_cell0 HU.out.1 6 _ rfl; have c7_1 := rec_cell0 HU.out.1 7 _ rfl; have c8_1 := rec_cell0 HU.out.1 8 _ rfl; have o0_1 := cell_blk HU.out.2.1 0 _ rfl; have o1_1 := cell_blk HU.out.2.1 1 _ rfl; have o2_1 := cell_blk HU.out.2.1 2 _ rfl; have o3_1 := cell_blk HU.out.2.1 3 _ rfl; clear hb)
    | (go_at_call 99; (with_reducible refine (HOF.out _).mono ?_); rintro e w2 ⟨rfl, hw2⟩; have HB2 : Hid (Pr0 w ⟨stamp, act, dir, name, ino, kind, dir2, name2, 0, size, page, data⟩ w1.heap.size w2) := (by subst hw2; exact HU.out.alloc _); clear hw2; clear c4_0; clear c1_1 c2_1 c3_1 c4_1 c5_1 c6_1 c7_1 c8_1 o0_1 o1_1 o2_1 o3_1; have c1_2 := rec_cell0 HB2.out.1 1 _ rfl; have c2_2 := rec_cell0 HB2.out.1 2 _ rfl; have c3_2 := rec_cell0 HB2.out.1 3 _ rfl; have c4_2 := rec_cell0 HB2.out.1 4 _ rfl; have c5_2 := rec_cell0 HB2.out.1 5 _ rfl; have c6_2 := rec_cell0 HB2.out.1 6 _ rfl; have c7_2 := rec_cell0 HB2.out.1 7 _ rfl; have c8_2 := rec_cell0 HB2.out.1 8 _ rfl; have o0_2 := cell_blk HB2.out.2.1 0 _ rfl; have o1_2 := cell_blk HB2.out.2.1 1 _ rfl; have o2_2 := cell_blk HB2.out.2.1 2 _ rfl; have o3_2 := cell_blk HB2.out.2.1 3 _ rfl; have HP1 : Hid (Pr w ⟨stamp, act, dir, name, ino, kind, dir2, name2, 0, size, page, data⟩ w1.heap.size (w2.alloc (.cells #[.int .u8 1, .int .u32 dir, .string name, .bool true] 142)) (.slice (some ⟨w2.heap.size, 0, none⟩) 1 1) 1 [⟨1, dir, name, true⟩]) := Pr.start HB2.out ⟨1, dir, name, true⟩; have c1_P1 := rec_cell0 HP1.out.1.1 1 _ rfl; have c2_P1 := rec_cell0 HP1.out.1.1 2 _ rfl; have c3_P1 := rec_cell0 HP1.out.1.1 3 _ rfl; have c4_P1 := rec_cell0 HP1.out.1.1 4 _ rfl; have c5_P1 := rec_cell0 HP1.out.1.1 5 _ rfl; have c6_P1 := rec_cell0 HP1.out.1.1 6 _ rfl; have c7_P1 := rec_cell0 HP1.out.1.1 7 _ rfl; have c8_P1 := rec_cell0 HP1.out.1.1 8 _ rfl; have o0_P1 := cell_blk HP1.out.1.2.1 0 _ rfl; have o1_P1 := cell_blk HP1.out.1.2.1 1 _ rfl; have o2_P1 := cell_blk HP1.out.1.2.1 2 _ rfl; have o3_P1 := cell_blk HP1.out.1.2.1 3 _ rfl)
    | (at_builtin; refine wpList_append_pt rfl _ _ rfl (w1.heap.size + 1) _ [⟨1, dir, name, true⟩] 1 2 rfl rfl rfl (HP1.out.2.alloc _) (w2.heap.size + 1) ⟨2, ino, ⟨#[]⟩, true⟩ rfl (new_at _ _ _ (by rw [World.alloc_size'])) (by simp) (by rw [World.alloc_size']; have := HP1.out.1.2.2.2.2; omega) ?_; intro A2 q2 W2 g2 g3; have HP2 := Lib.hid (HP1.out.more g2 g3); clear g2 g3; have c1_P2 := rec_cell0 HP2.out.1.1 1 _ rfl; have c2_P2 := rec_cell0 HP2.out.1.1 2 _ rfl; have c3_P2 := rec_cell0 HP2.out.1.1 3 _ rfl; have c4_P2 := rec_cell0 HP2.out.1.1 4 _ rfl; have c5_P2 := rec_cell0 HP2.out.1.1 5 _ rfl; have c6_P2 := rec_cell0 HP2.out.1.1 6 _ rfl; have c7_P2 := rec_cell0 HP2.out.1.1 7 _ rfl; have c8_P2 := rec_cell0 HP2.out.1.1 8 _ rfl; have o0_P2 := cell_blk HP2.out.1.2.1 0 _ rfl; have o1_P2 := cell_blk HP2.out.1.2.1 1 _ rfl; have o2_P2 := cell_blk HP2.out.1.2.1 2 _ rfl; have o3_P2 := cell_blk HP2.out.1.2.1 3 _ rfl)
    | (at_builtin; refine wpList_append_pt rfl _ _ rfl (w1.heap.size + 1) _ [⟨1, dir, name, true⟩, ⟨2, ino, ⟨#[]⟩, true⟩] 2 3 rfl rfl rfl (HP2.out.2.alloc _) W2.heap.size ⟨2, dir, ⟨#[]⟩, false⟩ rfl (heap_alloc_new _ _) (by simp) (by rw [World.alloc_size']; have := HP2.out.1.2.2.2.2; omega) ?_; intro A3 q3 W3 g2 g3; have HP3 := Lib.hid (HP2.out.more g2 g3); clear g2 g3; have c1_P3 := rec_cell0 HP3.out.1.1 1 _ rfl; have c2_P3 := rec_cell0 HP3.out.1.1 2 _ rfl; have c3_P3 := rec_cell0 HP3.out.1.1 3 _ rfl; have c4_P3 := rec_cell0 HP3.out.1.1 4 _ rfl; have c5_P3 := rec_cell0 HP3.out.1.1 5 _ rfl; have c6_P3 := rec_cell0 HP3.out.1.1 6 _ rfl; have c7_P3 := rec_cell0 HP3.out.1.1 7 _ rfl; have c8_P3 := rec_cell0 HP3.out.1.1 8 _ rfl; have o0_P3 := cell_blk HP3.out.1.2.1 0 _ rfl; have o1_P3 := cell_blk HP3.out.1.2.1 1 _ rfl; have o2_P3 := cell_blk HP3.out.1.2.1 2 _ rfl; have o3_P3 := cell_blk HP3.out.1.2.1 3 _ rfl))
  go_ret
  exact ⟨_, rfl, HP3.out.row, HP3.out.1.2.2.1⟩
set_option maxRecDepth 100000 in
set_option maxHeartbeats 16000000 in
theorem t_rparts_mvf (stamp dir ino kind dir2 size page : Int) (name name2 data : ByteArray) (hk : (kind == 2) = false) (h1 : name.size ≤ maxLen) (h2 : name2.size ≤ maxLen) (h3 : data.size ≤ maxLen) (hck : checkB ⟨stamp, 4, dir, name, ino, kind, dir2, name2, 0, size, page, data⟩ = true) (w : World) :
    Calls Tryz.prog 95 #[.agg #[.int .u64 stamp, .int .u8 4, .int .u32 dir, .string name, .int .u32 ino, .int .u8 kind, .int .u32 dir2, .string name2, .int .u32 0, .int .u32 size, .int .i64 page, .string data]] w fun e w' => ∃ v, e = .returned v ∧ w'.ownsRow w.heap.size 142 4 v 5 (flatP [⟨1, dir, name, true⟩, ⟨1, dir2, name2, true⟩, ⟨2, ino, ⟨#[]⟩, true⟩, ⟨2, dir, ⟨#[]⟩, false⟩, ⟨2, dir2, ⟨#[]⟩, false⟩]) ∧ Below w.heap.size w w' := by
  have hmay := fun w => t_may ⟨stamp, 4, dir, name, ino, kind, dir2, name2, 0, size, page, data⟩ w h1 h2 h3
  rw [may_check, hck] at hmay
  unfold R.val at hmay
  obtain ⟨a, b, hnd⟩ := needs_entry (d := 4) (by decide)
  have hof := fun w => t_of_lit 4 (by decide) w
  rw [hnd] at hof
  clear hck hnd
  have HOF := Lib.hid hof
  clear hof
  have hfd := needs_field
  go_enter Tryz.func95, Tryz.ntmps95
  go_wp2_with (first
    | (go_at_call 64; (with_reducible refine (hmay _).mono ?_); rintro e w1 ⟨rfl, hb⟩; have c4_0 := rec_cell0 (r := ⟨stamp, 4, dir, name, ino, kind, dir2, name2, 0, size, page, data⟩) ((hb.block _ (by simp)).trans (heap_alloc_new w _)) 4 _ rfl; have HU := Lib.hid (Pr0.made (r := ⟨stamp, 4, dir, name, ino, kind, dir2, name2, 0, size, page, data⟩) hb); have c1_1 := rec_cell0 HU.out.1 1 _ rfl; have c2_1 := rec_cell0 HU.out.1 2 _ rfl; have c3_1 := rec_cell0 HU.out.1 3 _ rfl; have c4_1 := rec_cell0 HU.out.1 4 _ rfl; have c5_1 := rec_cell0 HU.out.1 5 _ rfl; have c6_1 := rec_cell0 HU.out.1 6 _ rfl; have c7_1 := rec_cell0 HU.out.1 7 _ rfl; have c8_1 := rec_cell0 HU.out.1 8 _ rfl; have o0_1 := cell_blk HU.out.2.1 0 _ rfl; have o1_1 := cell_blk HU.out.2.1 1 _ rfl; have o2_1 := cell_blk HU.out.2.1 2 _ rfl; have o3_1 := cell_blk HU.out.2.1 3 _ rfl; clear hb)
    | (go_at_call 99; (with_reducible refine (HOF.out _).mono ?_); rintro e w2 ⟨rfl, hw2⟩; have HB2 : Hid (Pr0 w ⟨stamp, 4, dir, name, ino, kind, dir2, name2, 0, size, page, data⟩ w1.heap.size w2) := (by subst hw2; exact HU.out.alloc _); clear hw2; clear c4_0; clear c1_1 c2_1 c3_1 c4_1 c5_1 c6_1 c7_1 c8_1 o0_1 o1_1 o2_1 o3_1; have c1_2 := rec_cell0 HB2.out.1 1 _ rfl; have c2_2 := rec_cell0 HB2.out.1 2 _ rfl; have c3_2 := rec_cell0 HB2.out.1 3 _ rfl; have c4_2 := rec_cell0 HB2.out.1 4 _ rfl; have c5_2 := rec_cell0 HB2.out.1 5 _ rfl; have c6_2 := rec_cell0 HB2.out.1 6 _ rfl; have c7_2 := rec_cell0 HB2.out.1 7 _ rfl; have c8_2 := rec_cell0 HB2.out.1 8 _ rfl; have o0_2 := cell_blk HB2.out.2.1 0 _ rfl; have o1_2 := cell_blk HB2.out.2.1 1 _ rfl; have o2_2 := cell_blk HB2.out.2.1 2 _ rfl; have o3_2 := cell_blk HB2.out.2.1 3 _ rfl; have HP1 : Hid (Pr w ⟨stamp, 4, dir, name, ino, kind, dir2, name2, 0, size, page, data⟩ w1.heap.size (w2.alloc (.cells #[.int .u8 1, .int .u32 dir, .string name, .bool true] 142)) (.slice (some ⟨w2.heap.size, 0, none⟩) 1 1) 1 [⟨1, dir, name, true⟩]) := Pr.start HB2.out ⟨1, dir, name, true⟩; have c1_P1 := rec_cell0 HP1.out.1.1 1 _ rfl; have c2_P1 := rec_cell0 HP1.out.1.1 2 _ rfl; have c3_P1 := rec_cell0 HP1.out.1.1 3 _ rfl; have c4_P1 := rec_cell0 HP1.out.1.1 4 _ rfl; have c5_P1 := rec_cell0 HP1.out.1.1 5 _ rfl; have c6_P1 := rec_cell0 HP1.out.1.1 6 _ rfl; have c7_P1 := rec_cell0 HP1.out.1.1 7 _ rfl; have c8_P1 := rec_cell0 HP1.out.1.1 8 _ rfl; have o0_P1 := cell_blk HP1.out.1.2.1 0 _ rfl; have o1_P1 := cell_blk HP1.out.1.2.1 1 _ rfl; have o2_P1 := cell_blk HP1.out.1.2.1 2 _ rfl; have o3_P1 := cell_blk HP1.out.1.2.1 3 _ rfl)
    | (at_builtin; refine wpList_append_pt rfl _ _ rfl (w1.heap.size + 1) _ [⟨1, dir, name, true⟩] 1 2 rfl rfl rfl (HP1.out.2.alloc _) (w2.heap.size + 1) ⟨1, dir2, name2, true⟩ rfl (new_at _ _ _ (by rw [World.alloc_size'])) (by simp) (by rw [World.alloc_size']; have := HP1.out.1.2.2.2.2; omega) ?_; intro A2 q2 W2 g2 g3; have HP2 := Lib.hid (HP1.out.more g2 g3); clear g2 g3; have c1_P2 := rec_cell0 HP2.out.1.1 1 _ rfl; have c2_P2 := rec_cell0 HP2.out.1.1 2 _ rfl; have c3_P2 := rec_cell0 HP2.out.1.1 3 _ rfl; have c4_P2 := rec_cell0 HP2.out.1.1 4 _ rfl; have c5_P2 := rec_cell0 HP2.out.1.1 5 _ rfl; have c6_P2 := rec_cell0 HP2.out.1.1 6 _ rfl; have c7_P2 := rec_cell0 HP2.out.1.1 7 _ rfl; have c8_P2 := rec_cell0 HP2.out.1.1 8 _ rfl; have o0_P2 := cell_blk HP2.out.1.2.1 0 _ rfl; have o1_P2 := cell_blk HP2.out.1.2.1 1 _ rfl; have o2_P2 := cell_blk HP2.out.1.2.1 2 _ rfl; have o3_P2 := cell_blk HP2.out.1.2.1 3 _ rfl)
    | (at_builtin; refine wpList_append_pt rfl _ _ rfl (w1.heap.size + 1) _ [⟨1, dir, name, true⟩, ⟨1, dir2, name2, true⟩] 2 3 rfl rfl rfl (HP2.out.2.alloc _) W2.heap.size ⟨2, ino, ⟨#[]⟩, true⟩ rfl (heap_alloc_new _ _) (by simp) (by rw [World.alloc_size']; have := HP2.out.1.2.2.2.2; omega) ?_; intro A3 q3 W3 g2 g3; have HP3 := Lib.hid (HP2.out.more g2 g3); clear g2 g3; have c1_P3 := rec_cell0 HP3.out.1.1 1 _ rfl; have c2_P3 := rec_cell0 HP3.out.1.1 2 _ rfl; have c3_P3 := rec_cell0 HP3.out.1.1 3 _ rfl; have c4_P3 := rec_cell0 HP3.out.1.1 4 _ rfl; have c5_P3 := rec_cell0 HP3.out.1.1 5 _ rfl; have c6_P3 := rec_cell0 HP3.out.1.1 6 _ rfl; have c7_P3 := rec_cell0 HP3.out.1.1 7 _ rfl; have c8_P3 := rec_cell0 HP3.out.1.1 8 _ rfl; have o0_P3 := cell_blk HP3.out.1.2.1 0 _ rfl; have o1_P3 := cell_blk HP3.out.1.2.1 1 _ rfl; have o2_P3 := cell_blk HP3.out.1.2.1 2 _ rfl; have o3_P3 := cell_blk HP3.out.1.2.1 3 _ rfl)
    | (at_builtin; refine wpList_append_pt rfl _ _ rfl (w1.heap.size + 1) _ [⟨1, dir, name, true⟩, ⟨1, dir2, name2, true⟩, ⟨2, ino, ⟨#[]⟩, true⟩] 3 4 rfl rfl rfl (HP3.out.2.alloc _) W3.heap.size ⟨2, dir, ⟨#[]⟩, false⟩ rfl (heap_alloc_new _ _) (by simp) (by rw [World.alloc_size']; have := HP3.out.1.2.2.2.2; omega) ?_; intro A4 q4 W4 g2 g3; have HP4 := Lib.hid (HP3.out.more g2 g3); clear g2 g3; have c1_P4 := rec_cell0 HP4.out.1.1 1 _ rfl; have c2_P4 := rec_cell0 HP4.out.1.1 2 _ rfl; have c3_P4 := rec_cell0 HP4.out.1.1 3 _ rfl; have c4_P4 := rec_cell0 HP4.out.1.1 4 _ rfl; have c5_P4 := rec_cell0 HP4.out.1.1 5 _ rfl; have c6_P4 := rec_cell0 HP4.out.1.1 6 _ rfl; have c7_P4 := rec_cell0 HP4.out.1.1 7 _ rfl; have c8_P4 := rec_cell0 HP4.out.1.1 8 _ rfl; have o0_P4 := cell_blk HP4.out.1.2.1 0 _ rfl; have o1_P4 := cell_blk HP4.out.1.2.1 1 _ rfl; have o2_P4 := cell_blk HP4.out.1.2.1 2 _ rfl; have o3_P4 := cell_blk HP4.out.1.2.1 3 _ rfl)
    | (at_builtin; refine wpList_append_pt rfl _ _ rfl (w1.heap.size + 1) _ [⟨1, dir, name, true⟩, ⟨1, dir2, name2, true⟩, ⟨2, ino, ⟨#[]⟩, true⟩, ⟨2, dir, ⟨#[]⟩, false⟩] 4 5 rfl rfl rfl (HP4.out.2.alloc _) W4.heap.size ⟨2, dir2, ⟨#[]⟩, false⟩ rfl (heap_alloc_new _ _) (by simp) (by rw [World.alloc_size']; have := HP4.out.1.2.2.2.2; omega) ?_; intro A5 q5 W5 g2 g3; have HP5 := Lib.hid (HP4.out.more g2 g3); clear g2 g3; have c1_P5 := rec_cell0 HP5.out.1.1 1 _ rfl; have c2_P5 := rec_cell0 HP5.out.1.1 2 _ rfl; have c3_P5 := rec_cell0 HP5.out.1.1 3 _ rfl; have c4_P5 := rec_cell0 HP5.out.1.1 4 _ rfl; have c5_P5 := rec_cell0 HP5.out.1.1 5 _ rfl; have c6_P5 := rec_cell0 HP5.out.1.1 6 _ rfl; have c7_P5 := rec_cell0 HP5.out.1.1 7 _ rfl; have c8_P5 := rec_cell0 HP5.out.1.1 8 _ rfl; have o0_P5 := cell_blk HP5.out.1.2.1 0 _ rfl; have o1_P5 := cell_blk HP5.out.1.2.1 1 _ rfl; have o2_P5 := cell_blk HP5.out.1.2.1 2 _ rfl; have o3_P5 := cell_blk HP5.out.1.2.1 3 _ rfl))
  go_ret
  exact ⟨_, rfl, HP5.out.row, HP5.out.1.2.2.1⟩
set_option maxRecDepth 100000 in
set_option maxHeartbeats 16000000 in
theorem t_rparts_mvd (stamp dir ino dir2 size page : Int) (name name2 data : ByteArray) (h1 : name.size ≤ maxLen) (h2 : name2.size ≤ maxLen) (h3 : data.size ≤ maxLen) (hck : checkB ⟨stamp, 4, dir, name, ino, 2, dir2, name2, 0, size, page, data⟩ = true) (w : World) :
    Calls Tryz.prog 95 #[.agg #[.int .u64 stamp, .int .u8 4, .int .u32 dir, .string name, .int .u32 ino, .int .u8 2, .int .u32 dir2, .string name2, .int .u32 0, .int .u32 size, .int .i64 page, .string data]] w fun e w' => ∃ v, e = .returned v ∧ w'.ownsRow w.heap.size 142 4 v 6 (flatP [⟨1, dir, name, true⟩, ⟨1, dir2, name2, true⟩, ⟨2, ino, ⟨#[]⟩, true⟩, ⟨3, 0, ⟨#[]⟩, true⟩, ⟨2, dir, ⟨#[]⟩, false⟩, ⟨2, dir2, ⟨#[]⟩, false⟩]) ∧ Below w.heap.size w w' := by
  have hmay := fun w => t_may ⟨stamp, 4, dir, name, ino, 2, dir2, name2, 0, size, page, data⟩ w h1 h2 h3
  rw [may_check, hck] at hmay
  unfold R.val at hmay
  obtain ⟨a, b, hnd⟩ := needs_entry (d := 4) (by decide)
  have hof := fun w => t_of_lit 4 (by decide) w
  rw [hnd] at hof
  clear hck hnd
  have HOF := Lib.hid hof
  clear hof
  have hfd := needs_field
  go_enter Tryz.func95, Tryz.ntmps95
  go_wp2_with (first
    | (go_at_call 64; (with_reducible refine (hmay _).mono ?_); rintro e w1 ⟨rfl, hb⟩; have c4_0 := rec_cell0 (r := ⟨stamp, 4, dir, name, ino, 2, dir2, name2, 0, size, page, data⟩) ((hb.block _ (by simp)).trans (heap_alloc_new w _)) 4 _ rfl; have HU := Lib.hid (Pr0.made (r := ⟨stamp, 4, dir, name, ino, 2, dir2, name2, 0, size, page, data⟩) hb); have c1_1 := rec_cell0 HU.out.1 1 _ rfl; have c2_1 := rec_cell0 HU.out.1 2 _ rfl; have c3_1 := rec_cell0 HU.out.1 3 _ rfl; have c4_1 := rec_cell0 HU.out.1 4 _ rfl; have c5_1 := rec_cell0 HU.out.1 5 _ rfl; have c6_1 := rec_cell0 HU.out.1 6 _ rfl; have c7_1 := rec_cell0 HU.out.1 7 _ rfl; have c8_1 := rec_cell0 HU.out.1 8 _ rfl; have o0_1 := cell_blk HU.out.2.1 0 _ rfl; have o1_1 := cell_blk HU.out.2.1 1 _ rfl; have o2_1 := cell_blk HU.out.2.1 2 _ rfl; have o3_1 := cell_blk HU.out.2.1 3 _ rfl; clear hb)
    | (go_at_call 99; (with_reducible refine (HOF.out _).mono ?_); rintro e w2 ⟨rfl, hw2⟩; have HB2 : Hid (Pr0 w ⟨stamp, 4, dir, name, ino, 2, dir2, name2, 0, size, page, data⟩ w1.heap.size w2) := (by subst hw2; exact HU.out.alloc _); clear hw2; clear c4_0; clear c1_1 c2_1 c3_1 c4_1 c5_1 c6_1 c7_1 c8_1 o0_1 o1_1 o2_1 o3_1; have c1_2 := rec_cell0 HB2.out.1 1 _ rfl; have c2_2 := rec_cell0 HB2.out.1 2 _ rfl; have c3_2 := rec_cell0 HB2.out.1 3 _ rfl; have c4_2 := rec_cell0 HB2.out.1 4 _ rfl; have c5_2 := rec_cell0 HB2.out.1 5 _ rfl; have c6_2 := rec_cell0 HB2.out.1 6 _ rfl; have c7_2 := rec_cell0 HB2.out.1 7 _ rfl; have c8_2 := rec_cell0 HB2.out.1 8 _ rfl; have o0_2 := cell_blk HB2.out.2.1 0 _ rfl; have o1_2 := cell_blk HB2.out.2.1 1 _ rfl; have o2_2 := cell_blk HB2.out.2.1 2 _ rfl; have o3_2 := cell_blk HB2.out.2.1 3 _ rfl; have HP1 : Hid (Pr w ⟨stamp, 4, dir, name, ino, 2, dir2, name2, 0, size, page, data⟩ w1.heap.size (w2.alloc (.cells #[.int .u8 1, .int .u32 dir, .string name, .bool true] 142)) (.slice (some ⟨w2.heap.size, 0, none⟩) 1 1) 1 [⟨1, dir, name, true⟩]) := Pr.start HB2.out ⟨1, dir, name, true⟩; have c1_P1 := rec_cell0 HP1.out.1.1 1 _ rfl; have c2_P1 := rec_cell0 HP1.out.1.1 2 _ rfl; have c3_P1 := rec_cell0 HP1.out.1.1 3 _ rfl; have c4_P1 := rec_cell0 HP1.out.1.1 4 _ rfl; have c5_P1 := rec_cell0 HP1.out.1.1 5 _ rfl; have c6_P1 := rec_cell0 HP1.out.1.1 6 _ rfl; have c7_P1 := rec_cell0 HP1.out.1.1 7 _ rfl; have c8_P1 := rec_cell0 HP1.out.1.1 8 _ rfl; have o0_P1 := cell_blk HP1.out.1.2.1 0 _ rfl; have o1_P1 := cell_blk HP1.out.1.2.1 1 _ rfl; have o2_P1 := cell_blk HP1.out.1.2.1 2 _ rfl; have o3_P1 := cell_blk HP1.out.1.2.1 3 _ rfl)
    | (at_builtin; refine wpList_append_pt rfl _ _ rfl (w1.heap.size + 1) _ [⟨1, dir, name, true⟩] 1 2 rfl rfl rfl (HP1.out.2.alloc _) (w2.heap.size + 1) ⟨1, dir2, name2, true⟩ rfl (new_at _ _ _ (by rw [World.alloc_size'])) (by simp) (by rw [World.alloc_size']; have := HP1.out.1.2.2.2.2; omega) ?_; intro A2 q2 W2 g2 g3; have HP2 := Lib.hid (HP1.out.more g2 g3); clear g2 g3; have c1_P2 := rec_cell0 HP2.out.1.1 1 _ rfl; have c2_P2 := rec_cell0 HP2.out.1.1 2 _ rfl; have c3_P2 := rec_cell0 HP2.out.1.1 3 _ rfl; have c4_P2 := rec_cell0 HP2.out.1.1 4 _ rfl; have c5_P2 := rec_cell0 HP2.out.1.1 5 _ rfl; have c6_P2 := rec_cell0 HP2.out.1.1 6 _ rfl; have c7_P2 := rec_cell0 HP2.out.1.1 7 _ rfl; have c8_P2 := rec_cell0 HP2.out.1.1 8 _ rfl; have o0_P2 := cell_blk HP2.out.1.2.1 0 _ rfl; have o1_P2 := cell_blk HP2.out.1.2.1 1 _ rfl; have o2_P2 := cell_blk HP2.out.1.2.1 2 _ rfl; have o3_P2 := cell_blk HP2.out.1.2.1 3 _ rfl)
    | (at_builtin; refine wpList_append_pt rfl _ _ rfl (w1.heap.size + 1) _ [⟨1, dir, name, true⟩, ⟨1, dir2, name2, true⟩] 2 3 rfl rfl rfl (HP2.out.2.alloc _) W2.heap.size ⟨2, ino, ⟨#[]⟩, true⟩ rfl (heap_alloc_new _ _) (by simp) (by rw [World.alloc_size']; have := HP2.out.1.2.2.2.2; omega) ?_; intro A3 q3 W3 g2 g3; have HP3 := Lib.hid (HP2.out.more g2 g3); clear g2 g3; have c1_P3 := rec_cell0 HP3.out.1.1 1 _ rfl; have c2_P3 := rec_cell0 HP3.out.1.1 2 _ rfl; have c3_P3 := rec_cell0 HP3.out.1.1 3 _ rfl; have c4_P3 := rec_cell0 HP3.out.1.1 4 _ rfl; have c5_P3 := rec_cell0 HP3.out.1.1 5 _ rfl; have c6_P3 := rec_cell0 HP3.out.1.1 6 _ rfl; have c7_P3 := rec_cell0 HP3.out.1.1 7 _ rfl; have c8_P3 := rec_cell0 HP3.out.1.1 8 _ rfl; have o0_P3 := cell_blk HP3.out.1.2.1 0 _ rfl; have o1_P3 := cell_blk HP3.out.1.2.1 1 _ rfl; have o2_P3 := cell_blk HP3.out.1.2.1 2 _ rfl; have o3_P3 := cell_blk HP3.out.1.2.1 3 _ rfl)
    | (at_builtin; refine wpList_append_pt rfl _ _ rfl (w1.heap.size + 1) _ [⟨1, dir, name, true⟩, ⟨1, dir2, name2, true⟩, ⟨2, ino, ⟨#[]⟩, true⟩] 3 4 rfl rfl rfl (HP3.out.2.alloc _) W3.heap.size ⟨3, 0, ⟨#[]⟩, true⟩ rfl (heap_alloc_new _ _) (by simp) (by rw [World.alloc_size']; have := HP3.out.1.2.2.2.2; omega) ?_; intro A4 q4 W4 g2 g3; have HP4 := Lib.hid (HP3.out.more g2 g3); clear g2 g3; have c1_P4 := rec_cell0 HP4.out.1.1 1 _ rfl; have c2_P4 := rec_cell0 HP4.out.1.1 2 _ rfl; have c3_P4 := rec_cell0 HP4.out.1.1 3 _ rfl; have c4_P4 := rec_cell0 HP4.out.1.1 4 _ rfl; have c5_P4 := rec_cell0 HP4.out.1.1 5 _ rfl; have c6_P4 := rec_cell0 HP4.out.1.1 6 _ rfl; have c7_P4 := rec_cell0 HP4.out.1.1 7 _ rfl; have c8_P4 := rec_cell0 HP4.out.1.1 8 _ rfl; have o0_P4 := cell_blk HP4.out.1.2.1 0 _ rfl; have o1_P4 := cell_blk HP4.out.1.2.1 1 _ rfl; have o2_P4 := cell_blk HP4.out.1.2.1 2 _ rfl; have o3_P4 := cell_blk HP4.out.1.2.1 3 _ rfl)
    | (at_builtin; refine wpList_append_pt rfl _ _ rfl (w1.heap.size + 1) _ [⟨1, dir, name, true⟩, ⟨1, dir2, name2, true⟩, ⟨2, ino, ⟨#[]⟩, true⟩, ⟨3, 0, ⟨#[]⟩, true⟩] 4 5 rfl rfl rfl (HP4.out.2.alloc _) W4.heap.size ⟨2, dir, ⟨#[]⟩, false⟩ rfl (heap_alloc_new _ _) (by simp) (by rw [World.alloc_size']; have := HP4.out.1.2.2.2.2; omega) ?_; intro A5 q5 W5 g2 g3; have HP5 := Lib.hid (HP4.out.more g2 g3); clear g2 g3; have c1_P5 := rec_cell0 HP5.out.1.1 1 _ rfl; have c2_P5 := rec_cell0 HP5.out.1.1 2 _ rfl; have c3_P5 := rec_cell0 HP5.out.1.1 3 _ rfl; have c4_P5 := rec_cell0 HP5.out.1.1 4 _ rfl; have c5_P5 := rec_cell0 HP5.out.1.1 5 _ rfl; have c6_P5 := rec_cell0 HP5.out.1.1 6 _ rfl; have c7_P5 := rec_cell0 HP5.out.1.1 7 _ rfl; have c8_P5 := rec_cell0 HP5.out.1.1 8 _ rfl; have o0_P5 := cell_blk HP5.out.1.2.1 0 _ rfl; have o1_P5 := cell_blk HP5.out.1.2.1 1 _ rfl; have o2_P5 := cell_blk HP5.out.1.2.1 2 _ rfl; have o3_P5 := cell_blk HP5.out.1.2.1 3 _ rfl)
    | (at_builtin; refine wpList_append_pt rfl _ _ rfl (w1.heap.size + 1) _ [⟨1, dir, name, true⟩, ⟨1, dir2, name2, true⟩, ⟨2, ino, ⟨#[]⟩, true⟩, ⟨3, 0, ⟨#[]⟩, true⟩, ⟨2, dir, ⟨#[]⟩, false⟩] 5 6 rfl rfl rfl (HP5.out.2.alloc _) W5.heap.size ⟨2, dir2, ⟨#[]⟩, false⟩ rfl (heap_alloc_new _ _) (by simp) (by rw [World.alloc_size']; have := HP5.out.1.2.2.2.2; omega) ?_; intro A6 q6 W6 g2 g3; have HP6 := Lib.hid (HP5.out.more g2 g3); clear g2 g3; have c1_P6 := rec_cell0 HP6.out.1.1 1 _ rfl; have c2_P6 := rec_cell0 HP6.out.1.1 2 _ rfl; have c3_P6 := rec_cell0 HP6.out.1.1 3 _ rfl; have c4_P6 := rec_cell0 HP6.out.1.1 4 _ rfl; have c5_P6 := rec_cell0 HP6.out.1.1 5 _ rfl; have c6_P6 := rec_cell0 HP6.out.1.1 6 _ rfl; have c7_P6 := rec_cell0 HP6.out.1.1 7 _ rfl; have c8_P6 := rec_cell0 HP6.out.1.1 8 _ rfl; have o0_P6 := cell_blk HP6.out.1.2.1 0 _ rfl; have o1_P6 := cell_blk HP6.out.1.2.1 1 _ rfl; have o2_P6 := cell_blk HP6.out.1.2.1 2 _ rfl; have o3_P6 := cell_blk HP6.out.1.2.1 3 _ rfl))
  go_ret
  exact ⟨_, rfl, HP6.out.row, HP6.out.1.2.2.1⟩
set_option maxRecDepth 100000 in
set_option maxHeartbeats 16000000 in
theorem t_rparts_mvof (stamp dir ino kind dir2 old size page : Int) (name name2 data : ByteArray) (hk : (kind == 2) = false) (ho : (old == 0) = false) (h1 : name.size ≤ maxLen) (h2 : name2.size ≤ maxLen) (h3 : data.size ≤ maxLen) (hck : checkB ⟨stamp, 4, dir, name, ino, kind, dir2, name2, old, size, page, data⟩ = true) (w : World) :
    Calls Tryz.prog 95 #[.agg #[.int .u64 stamp, .int .u8 4, .int .u32 dir, .string name, .int .u32 ino, .int .u8 kind, .int .u32 dir2, .string name2, .int .u32 old, .int .u32 size, .int .i64 page, .string data]] w fun e w' => ∃ v, e = .returned v ∧ w'.ownsRow w.heap.size 142 4 v 6 (flatP [⟨1, dir, name, true⟩, ⟨1, dir2, name2, true⟩, ⟨2, ino, ⟨#[]⟩, true⟩, ⟨2, old, ⟨#[]⟩, true⟩, ⟨2, dir, ⟨#[]⟩, false⟩, ⟨2, dir2, ⟨#[]⟩, false⟩]) ∧ Below w.heap.size w w' := by
  have hmay := fun w => t_may ⟨stamp, 4, dir, name, ino, kind, dir2, name2, old, size, page, data⟩ w h1 h2 h3
  rw [may_check, hck] at hmay
  unfold R.val at hmay
  obtain ⟨a, b, hnd⟩ := needs_entry (d := 4) (by decide)
  have hof := fun w => t_of_lit 4 (by decide) w
  rw [hnd] at hof
  clear hck hnd
  have HOF := Lib.hid hof
  clear hof
  have hfd := needs_field
  go_enter Tryz.func95, Tryz.ntmps95
  go_wp2_with (first
    | (go_at_call 64; (with_reducible refine (hmay _).mono ?_); rintro e w1 ⟨rfl, hb⟩; have c4_0 := rec_cell0 (r := ⟨stamp, 4, dir, name, ino, kind, dir2, name2, old, size, page, data⟩) ((hb.block _ (by simp)).trans (heap_alloc_new w _)) 4 _ rfl; have HU := Lib.hid (Pr0.made (r := ⟨stamp, 4, dir, name, ino, kind, dir2, name2, old, size, page, data⟩) hb); have c1_1 := rec_cell0 HU.out.1 1 _ rfl; have c2_1 := rec_cell0 HU.out.1 2 _ rfl; have c3_1 := rec_cell0 HU.out.1 3 _ rfl; have c4_1 := rec_cell0 HU.out.1 4 _ rfl; have c5_1 := rec_cell0 HU.out.1 5 _ rfl; have c6_1 := rec_cell0 HU.out.1 6 _ rfl; have c7_1 := rec_cell0 HU.out.1 7 _ rfl; have c8_1 := rec_cell0 HU.out.1 8 _ rfl; have o0_1 := cell_blk HU.out.2.1 0 _ rfl; have o1_1 := cell_blk HU.out.2.1 1 _ rfl; have o2_1 := cell_blk HU.out.2.1 2 _ rfl; have o3_1 := cell_blk HU.out.2.1 3 _ rfl; clear hb)
    | (go_at_call 99; (with_reducible refine (HOF.out _).mono ?_); rintro e w2 ⟨rfl, hw2⟩; have HB2 : Hid (Pr0 w ⟨stamp, 4, dir, name, ino, kind, dir2, name2, old, size, page, data⟩ w1.heap.size w2) := (by subst hw2; exact HU.out.alloc _); clear hw2; clear c4_0; clear c1_1 c2_1 c3_1 c4_1 c5_1 c6_1 c7_1 c8_1 o0_1 o1_1 o2_1 o3_1; have c1_2 := rec_cell0 HB2.out.1 1 _ rfl; have c2_2 := rec_cell0 HB2.out.1 2 _ rfl; have c3_2 := rec_cell0 HB2.out.1 3 _ rfl; have c4_2 := rec_cell0 HB2.out.1 4 _ rfl; have c5_2 := rec_cell0 HB2.out.1 5 _ rfl; have c6_2 := rec_cell0 HB2.out.1 6 _ rfl; have c7_2 := rec_cell0 HB2.out.1 7 _ rfl; have c8_2 := rec_cell0 HB2.out.1 8 _ rfl; have o0_2 := cell_blk HB2.out.2.1 0 _ rfl; have o1_2 := cell_blk HB2.out.2.1 1 _ rfl; have o2_2 := cell_blk HB2.out.2.1 2 _ rfl; have o3_2 := cell_blk HB2.out.2.1 3 _ rfl; have HP1 : Hid (Pr w ⟨stamp, 4, dir, name, ino, kind, dir2, name2, old, size, page, data⟩ w1.heap.size (w2.alloc (.cells #[.int .u8 1, .int .u32 dir, .string name, .bool true] 142)) (.slice (some ⟨w2.heap.size, 0, none⟩) 1 1) 1 [⟨1, dir, name, true⟩]) := Pr.start HB2.out ⟨1, dir, name, true⟩; have c1_P1 := rec_cell0 HP1.out.1.1 1 _ rfl; have c2_P1 := rec_cell0 HP1.out.1.1 2 _ rfl; have c3_P1 := rec_cell0 HP1.out.1.1 3 _ rfl; have c4_P1 := rec_cell0 HP1.out.1.1 4 _ rfl; have c5_P1 := rec_cell0 HP1.out.1.1 5 _ rfl; have c6_P1 := rec_cell0 HP1.out.1.1 6 _ rfl; have c7_P1 := rec_cell0 HP1.out.1.1 7 _ rfl; have c8_P1 := rec_cell0 HP1.out.1.1 8 _ rfl; have o0_P1 := cell_blk HP1.out.1.2.1 0 _ rfl; have o1_P1 := cell_blk HP1.out.1.2.1 1 _ rfl; have o2_P1 := cell_blk HP1.out.1.2.1 2 _ rfl; have o3_P1 := cell_blk HP1.out.1.2.1 3 _ rfl)
    | (at_builtin; refine wpList_append_pt rfl _ _ rfl (w1.heap.size + 1) _ [⟨1, dir, name, true⟩] 1 2 rfl rfl rfl (HP1.out.2.alloc _) (w2.heap.size + 1) ⟨1, dir2, name2, true⟩ rfl (new_at _ _ _ (by rw [World.alloc_size'])) (by simp) (by rw [World.alloc_size']; have := HP1.out.1.2.2.2.2; omega) ?_; intro A2 q2 W2 g2 g3; have HP2 := Lib.hid (HP1.out.more g2 g3); clear g2 g3; have c1_P2 := rec_cell0 HP2.out.1.1 1 _ rfl; have c2_P2 := rec_cell0 HP2.out.1.1 2 _ rfl; have c3_P2 := rec_cell0 HP2.out.1.1 3 _ rfl; have c4_P2 := rec_cell0 HP2.out.1.1 4 _ rfl; have c5_P2 := rec_cell0 HP2.out.1.1 5 _ rfl; have c6_P2 := rec_cell0 HP2.out.1.1 6 _ rfl; have c7_P2 := rec_cell0 HP2.out.1.1 7 _ rfl; have c8_P2 := rec_cell0 HP2.out.1.1 8 _ rfl; have o0_P2 := cell_blk HP2.out.1.2.1 0 _ rfl; have o1_P2 := cell_blk HP2.out.1.2.1 1 _ rfl; have o2_P2 := cell_blk HP2.out.1.2.1 2 _ rfl; have o3_P2 := cell_blk HP2.out.1.2.1 3 _ rfl)
    | (at_builtin; refine wpList_append_pt rfl _ _ rfl (w1.heap.size + 1) _ [⟨1, dir, name, true⟩, ⟨1, dir2, name2, true⟩] 2 3 rfl rfl rfl (HP2.out.2.alloc _) W2.heap.size ⟨2, ino, ⟨#[]⟩, true⟩ rfl (heap_alloc_new _ _) (by simp) (by rw [World.alloc_size']; have := HP2.out.1.2.2.2.2; omega) ?_; intro A3 q3 W3 g2 g3; have HP3 := Lib.hid (HP2.out.more g2 g3); clear g2 g3; have c1_P3 := rec_cell0 HP3.out.1.1 1 _ rfl; have c2_P3 := rec_cell0 HP3.out.1.1 2 _ rfl; have c3_P3 := rec_cell0 HP3.out.1.1 3 _ rfl; have c4_P3 := rec_cell0 HP3.out.1.1 4 _ rfl; have c5_P3 := rec_cell0 HP3.out.1.1 5 _ rfl; have c6_P3 := rec_cell0 HP3.out.1.1 6 _ rfl; have c7_P3 := rec_cell0 HP3.out.1.1 7 _ rfl; have c8_P3 := rec_cell0 HP3.out.1.1 8 _ rfl; have o0_P3 := cell_blk HP3.out.1.2.1 0 _ rfl; have o1_P3 := cell_blk HP3.out.1.2.1 1 _ rfl; have o2_P3 := cell_blk HP3.out.1.2.1 2 _ rfl; have o3_P3 := cell_blk HP3.out.1.2.1 3 _ rfl)
    | (at_builtin; refine wpList_append_pt rfl _ _ rfl (w1.heap.size + 1) _ [⟨1, dir, name, true⟩, ⟨1, dir2, name2, true⟩, ⟨2, ino, ⟨#[]⟩, true⟩] 3 4 rfl rfl rfl (HP3.out.2.alloc _) W3.heap.size ⟨2, old, ⟨#[]⟩, true⟩ rfl (heap_alloc_new _ _) (by simp) (by rw [World.alloc_size']; have := HP3.out.1.2.2.2.2; omega) ?_; intro A4 q4 W4 g2 g3; have HP4 := Lib.hid (HP3.out.more g2 g3); clear g2 g3; have c1_P4 := rec_cell0 HP4.out.1.1 1 _ rfl; have c2_P4 := rec_cell0 HP4.out.1.1 2 _ rfl; have c3_P4 := rec_cell0 HP4.out.1.1 3 _ rfl; have c4_P4 := rec_cell0 HP4.out.1.1 4 _ rfl; have c5_P4 := rec_cell0 HP4.out.1.1 5 _ rfl; have c6_P4 := rec_cell0 HP4.out.1.1 6 _ rfl; have c7_P4 := rec_cell0 HP4.out.1.1 7 _ rfl; have c8_P4 := rec_cell0 HP4.out.1.1 8 _ rfl; have o0_P4 := cell_blk HP4.out.1.2.1 0 _ rfl; have o1_P4 := cell_blk HP4.out.1.2.1 1 _ rfl; have o2_P4 := cell_blk HP4.out.1.2.1 2 _ rfl; have o3_P4 := cell_blk HP4.out.1.2.1 3 _ rfl)
    | (at_builtin; refine wpList_append_pt rfl _ _ rfl (w1.heap.size + 1) _ [⟨1, dir, name, true⟩, ⟨1, dir2, name2, true⟩, ⟨2, ino, ⟨#[]⟩, true⟩, ⟨2, old, ⟨#[]⟩, true⟩] 4 5 rfl rfl rfl (HP4.out.2.alloc _) W4.heap.size ⟨2, dir, ⟨#[]⟩, false⟩ rfl (heap_alloc_new _ _) (by simp) (by rw [World.alloc_size']; have := HP4.out.1.2.2.2.2; omega) ?_; intro A5 q5 W5 g2 g3; have HP5 := Lib.hid (HP4.out.more g2 g3); clear g2 g3; have c1_P5 := rec_cell0 HP5.out.1.1 1 _ rfl; have c2_P5 := rec_cell0 HP5.out.1.1 2 _ rfl; have c3_P5 := rec_cell0 HP5.out.1.1 3 _ rfl; have c4_P5 := rec_cell0 HP5.out.1.1 4 _ rfl; have c5_P5 := rec_cell0 HP5.out.1.1 5 _ rfl; have c6_P5 := rec_cell0 HP5.out.1.1 6 _ rfl; have c7_P5 := rec_cell0 HP5.out.1.1 7 _ rfl; have c8_P5 := rec_cell0 HP5.out.1.1 8 _ rfl; have o0_P5 := cell_blk HP5.out.1.2.1 0 _ rfl; have o1_P5 := cell_blk HP5.out.1.2.1 1 _ rfl; have o2_P5 := cell_blk HP5.out.1.2.1 2 _ rfl; have o3_P5 := cell_blk HP5.out.1.2.1 3 _ rfl)
    | (at_builtin; refine wpList_append_pt rfl _ _ rfl (w1.heap.size + 1) _ [⟨1, dir, name, true⟩, ⟨1, dir2, name2, true⟩, ⟨2, ino, ⟨#[]⟩, true⟩, ⟨2, old, ⟨#[]⟩, true⟩, ⟨2, dir, ⟨#[]⟩, false⟩] 5 6 rfl rfl rfl (HP5.out.2.alloc _) W5.heap.size ⟨2, dir2, ⟨#[]⟩, false⟩ rfl (heap_alloc_new _ _) (by simp) (by rw [World.alloc_size']; have := HP5.out.1.2.2.2.2; omega) ?_; intro A6 q6 W6 g2 g3; have HP6 := Lib.hid (HP5.out.more g2 g3); clear g2 g3; have c1_P6 := rec_cell0 HP6.out.1.1 1 _ rfl; have c2_P6 := rec_cell0 HP6.out.1.1 2 _ rfl; have c3_P6 := rec_cell0 HP6.out.1.1 3 _ rfl; have c4_P6 := rec_cell0 HP6.out.1.1 4 _ rfl; have c5_P6 := rec_cell0 HP6.out.1.1 5 _ rfl; have c6_P6 := rec_cell0 HP6.out.1.1 6 _ rfl; have c7_P6 := rec_cell0 HP6.out.1.1 7 _ rfl; have c8_P6 := rec_cell0 HP6.out.1.1 8 _ rfl; have o0_P6 := cell_blk HP6.out.1.2.1 0 _ rfl; have o1_P6 := cell_blk HP6.out.1.2.1 1 _ rfl; have o2_P6 := cell_blk HP6.out.1.2.1 2 _ rfl; have o3_P6 := cell_blk HP6.out.1.2.1 3 _ rfl))
  go_ret
  exact ⟨_, rfl, HP6.out.row, HP6.out.1.2.2.1⟩
set_option maxRecDepth 100000 in
set_option maxHeartbeats 16000000 in
theorem t_rparts_mvod (stamp dir ino dir2 old size page : Int) (name name2 data : ByteArray) (ho : (old == 0) = false) (h1 : name.size ≤ maxLen) (h2 : name2.size ≤ maxLen) (h3 : data.size ≤ maxLen) (hck : checkB ⟨stamp, 4, dir, name, ino, 2, dir2, name2, old, size, page, data⟩ = true) (w : World) :
    Calls Tryz.prog 95 #[.agg #[.int .u64 stamp, .int .u8 4, .int .u32 dir, .string name, .int .u32 ino, .int .u8 2, .int .u32 dir2, .string name2, .int .u32 old, .int .u32 size, .int .i64 page, .string data]] w fun e w' => ∃ v, e = .returned v ∧ w'.ownsRow w.heap.size 142 4 v 7 (flatP [⟨1, dir, name, true⟩, ⟨1, dir2, name2, true⟩, ⟨2, ino, ⟨#[]⟩, true⟩, ⟨2, old, ⟨#[]⟩, true⟩, ⟨3, 0, ⟨#[]⟩, true⟩, ⟨2, dir, ⟨#[]⟩, false⟩, ⟨2, dir2, ⟨#[]⟩, false⟩]) ∧ Below w.heap.size w w' := by
  have hmay := fun w => t_may ⟨stamp, 4, dir, name, ino, 2, dir2, name2, old, size, page, data⟩ w h1 h2 h3
  rw [may_check, hck] at hmay
  unfold R.val at hmay
  obtain ⟨a, b, hnd⟩ := needs_entry (d := 4) (by decide)
  have hof := fun w => t_of_lit 4 (by decide) w
  rw [hnd] at hof
  clear hck hnd
  have HOF := Lib.hid hof
  clear hof
  have hfd := needs_field
  go_enter Tryz.func95, Tryz.ntmps95
  go_wp2_with (first
    | (go_at_call 64; (with_reducible refine (hmay _).mono ?_); rintro e w1 ⟨rfl, hb⟩; have c4_0 := rec_cell0 (r := ⟨stamp, 4, dir, name, ino, 2, dir2, name2, old, size, page, data⟩) ((hb.block _ (by simp)).trans (heap_alloc_new w _)) 4 _ rfl; have HU := Lib.hid (Pr0.made (r := ⟨stamp, 4, dir, name, ino, 2, dir2, name2, old, size, page, data⟩) hb); have c1_1 := rec_cell0 HU.out.1 1 _ rfl; have c2_1 := rec_cell0 HU.out.1 2 _ rfl; have c3_1 := rec_cell0 HU.out.1 3 _ rfl; have c4_1 := rec_cell0 HU.out.1 4 _ rfl; have c5_1 := rec_cell0 HU.out.1 5 _ rfl; have c6_1 := rec_cell0 HU.out.1 6 _ rfl; have c7_1 := rec_cell0 HU.out.1 7 _ rfl; have c8_1 := rec_cell0 HU.out.1 8 _ rfl; have o0_1 := cell_blk HU.out.2.1 0 _ rfl; have o1_1 := cell_blk HU.out.2.1 1 _ rfl; have o2_1 := cell_blk HU.out.2.1 2 _ rfl; have o3_1 := cell_blk HU.out.2.1 3 _ rfl; clear hb)
    | (go_at_call 99; (with_reducible refine (HOF.out _).mono ?_); rintro e w2 ⟨rfl, hw2⟩; have HB2 : Hid (Pr0 w ⟨stamp, 4, dir, name, ino, 2, dir2, name2, old, size, page, data⟩ w1.heap.size w2) := (by subst hw2; exact HU.out.alloc _); clear hw2; clear c4_0; clear c1_1 c2_1 c3_1 c4_1 c5_1 c6_1 c7_1 c8_1 o0_1 o1_1 o2_1 o3_1; have c1_2 := rec_cell0 HB2.out.1 1 _ rfl; have c2_2 := rec_cell0 HB2.out.1 2 _ rfl; have c3_2 := rec_cell0 HB2.out.1 3 _ rfl; have c4_2 := rec_cell0 HB2.out.1 4 _ rfl; have c5_2 := rec_cell0 HB2.out.1 5 _ rfl; have c6_2 := rec_cell0 HB2.out.1 6 _ rfl; have c7_2 := rec_cell0 HB2.out.1 7 _ rfl; have c8_2 := rec_cell0 HB2.out.1 8 _ rfl; have o0_2 := cell_blk HB2.out.2.1 0 _ rfl; have o1_2 := cell_blk HB2.out.2.1 1 _ rfl; have o2_2 := cell_blk HB2.out.2.1 2 _ rfl; have o3_2 := cell_blk HB2.out.2.1 3 _ rfl; have HP1 : Hid (Pr w ⟨stamp, 4, dir, name, ino, 2, dir2, name2, old, size, page, data⟩ w1.heap.size (w2.alloc (.cells #[.int .u8 1, .int .u32 dir, .string name, .bool true] 142)) (.slice (some ⟨w2.heap.size, 0, none⟩) 1 1) 1 [⟨1, dir, name, true⟩]) := Pr.start HB2.out ⟨1, dir, name, true⟩; have c1_P1 := rec_cell0 HP1.out.1.1 1 _ rfl; have c2_P1 := rec_cell0 HP1.out.1.1 2 _ rfl; have c3_P1 := rec_cell0 HP1.out.1.1 3 _ rfl; have c4_P1 := rec_cell0 HP1.out.1.1 4 _ rfl; have c5_P1 := rec_cell0 HP1.out.1.1 5 _ rfl; have c6_P1 := rec_cell0 HP1.out.1.1 6 _ rfl; have c7_P1 := rec_cell0 HP1.out.1.1 7 _ rfl; have c8_P1 := rec_cell0 HP1.out.1.1 8 _ rfl; have o0_P1 := cell_blk HP1.out.1.2.1 0 _ rfl; have o1_P1 := cell_blk HP1.out.1.2.1 1 _ rfl; have o2_P1 := cell_blk HP1.out.1.2.1 2 _ rfl; have o3_P1 := cell_blk HP1.out.1.2.1 3 _ rfl)
    | (at_builtin; refine wpList_append_pt rfl _ _ rfl (w1.heap.size + 1) _ [⟨1, dir, name, true⟩] 1 2 rfl rfl rfl (HP1.out.2.alloc _) (w2.heap.size + 1) ⟨1, dir2, name2, true⟩ rfl (new_at _ _ _ (by rw [World.alloc_size'])) (by simp) (by rw [World.alloc_size']; have := HP1.out.1.2.2.2.2; omega) ?_; intro A2 q2 W2 g2 g3; have HP2 := Lib.hid (HP1.out.more g2 g3); clear g2 g3; have c1_P2 := rec_cell0 HP2.out.1.1 1 _ rfl; have c2_P2 := rec_cell0 HP2.out.1.1 2 _ rfl; have c3_P2 := rec_cell0 HP2.out.1.1 3 _ rfl; have c4_P2 := rec_cell0 HP2.out.1.1 4 _ rfl; have c5_P2 := rec_cell0 HP2.out.1.1 5 _ rfl; have c6_P2 := rec_cell0 HP2.out.1.1 6 _ rfl; have c7_P2 := rec_cell0 HP2.out.1.1 7 _ rfl; have c8_P2 := rec_cell0 HP2.out.1.1 8 _ rfl; have o0_P2 := cell_blk HP2.out.1.2.1 0 _ rfl; have o1_P2 := cell_blk HP2.out.1.2.1 1 _ rfl; have o2_P2 := cell_blk HP2.out.1.2.1 2 _ rfl; have o3_P2 := cell_blk HP2.out.1.2.1 3 _ rfl)
    | (at_builtin; refine wpList_append_pt rfl _ _ rfl (w1.heap.size + 1) _ [⟨1, dir, name, true⟩, ⟨1, dir2, name2, true⟩] 2 3 rfl rfl rfl (HP2.out.2.alloc _) W2.heap.size ⟨2, ino, ⟨#[]⟩, true⟩ rfl (heap_alloc_new _ _) (by simp) (by rw [World.alloc_size']; have := HP2.out.1.2.2.2.2; omega) ?_; intro A3 q3 W3 g2 g3; have HP3 := Lib.hid (HP2.out.more g2 g3); clear g2 g3; have c1_P3 := rec_cell0 HP3.out.1.1 1 _ rfl; have c2_P3 := rec_cell0 HP3.out.1.1 2 _ rfl; have c3_P3 := rec_cell0 HP3.out.1.1 3 _ rfl; have c4_P3 := rec_cell0 HP3.out.1.1 4 _ rfl; have c5_P3 := rec_cell0 HP3.out.1.1 5 _ rfl; have c6_P3 := rec_cell0 HP3.out.1.1 6 _ rfl; have c7_P3 := rec_cell0 HP3.out.1.1 7 _ rfl; have c8_P3 := rec_cell0 HP3.out.1.1 8 _ rfl; have o0_P3 := cell_blk HP3.out.1.2.1 0 _ rfl; have o1_P3 := cell_blk HP3.out.1.2.1 1 _ rfl; have o2_P3 := cell_blk HP3.out.1.2.1 2 _ rfl; have o3_P3 := cell_blk HP3.out.1.2.1 3 _ rfl)
    | (at_builtin; refine wpList_append_pt rfl _ _ rfl (w1.heap.size + 1) _ [⟨1, dir, name, true⟩, ⟨1, dir2, name2, true⟩, ⟨2, ino, ⟨#[]⟩, true⟩] 3 4 rfl rfl rfl (HP3.out.2.alloc _) W3.heap.size ⟨2, old, ⟨#[]⟩, true⟩ rfl (heap_alloc_new _ _) (by simp) (by rw [World.alloc_size']; have := HP3.out.1.2.2.2.2; omega) ?_; intro A4 q4 W4 g2 g3; have HP4 := Lib.hid (HP3.out.more g2 g3); clear g2 g3; have c1_P4 := rec_cell0 HP4.out.1.1 1 _ rfl; have c2_P4 := rec_cell0 HP4.out.1.1 2 _ rfl; have c3_P4 := rec_cell0 HP4.out.1.1 3 _ rfl; have c4_P4 := rec_cell0 HP4.out.1.1 4 _ rfl; have c5_P4 := rec_cell0 HP4.out.1.1 5 _ rfl; have c6_P4 := rec_cell0 HP4.out.1.1 6 _ rfl; have c7_P4 := rec_cell0 HP4.out.1.1 7 _ rfl; have c8_P4 := rec_cell0 HP4.out.1.1 8 _ rfl; have o0_P4 := cell_blk HP4.out.1.2.1 0 _ rfl; have o1_P4 := cell_blk HP4.out.1.2.1 1 _ rfl; have o2_P4 := cell_blk HP4.out.1.2.1 2 _ rfl; have o3_P4 := cell_blk HP4.out.1.2.1 3 _ rfl)
    | (at_builtin; refine wpList_append_pt rfl _ _ rfl (w1.heap.size + 1) _ [⟨1, dir, name, true⟩, ⟨1, dir2, name2, true⟩, ⟨2, ino, ⟨#[]⟩, true⟩, ⟨2, old, ⟨#[]⟩, true⟩] 4 5 rfl rfl rfl (HP4.out.2.alloc _) W4.heap.size ⟨3, 0, ⟨#[]⟩, true⟩ rfl (heap_alloc_new _ _) (by simp) (by rw [World.alloc_size']; have := HP4.out.1.2.2.2.2; omega) ?_; intro A5 q5 W5 g2 g3; have HP5 := Lib.hid (HP4.out.more g2 g3); clear g2 g3; have c1_P5 := rec_cell0 HP5.out.1.1 1 _ rfl; have c2_P5 := rec_cell0 HP5.out.1.1 2 _ rfl; have c3_P5 := rec_cell0 HP5.out.1.1 3 _ rfl; have c4_P5 := rec_cell0 HP5.out.1.1 4 _ rfl; have c5_P5 := rec_cell0 HP5.out.1.1 5 _ rfl; have c6_P5 := rec_cell0 HP5.out.1.1 6 _ rfl; have c7_P5 := rec_cell0 HP5.out.1.1 7 _ rfl; have c8_P5 := rec_cell0 HP5.out.1.1 8 _ rfl; have o0_P5 := cell_blk HP5.out.1.2.1 0 _ rfl; have o1_P5 := cell_blk HP5.out.1.2.1 1 _ rfl; have o2_P5 := cell_blk HP5.out.1.2.1 2 _ rfl; have o3_P5 := cell_blk HP5.out.1.2.1 3 _ rfl)
    | (at_builtin; refine wpList_append_pt rfl _ _ rfl (w1.heap.size + 1) _ [⟨1, dir, name, true⟩, ⟨1, dir2, name2, true⟩, ⟨2, ino, ⟨#[]⟩, true⟩, ⟨2, old, ⟨#[]⟩, true⟩, ⟨3, 0, ⟨#[]⟩, true⟩] 5 6 rfl rfl rfl (HP5.out.2.alloc _) W5.heap.size ⟨2, dir, ⟨#[]⟩, false⟩ rfl (heap_alloc_new _ _) (by simp) (by rw [World.alloc_size']; have := HP5.out.1.2.2.2.2; omega) ?_; intro A6 q6 W6 g2 g3; have HP6 := Lib.hid (HP5.out.more g2 g3); clear g2 g3; have c1_P6 := rec_cell0 HP6.out.1.1 1 _ rfl; have c2_P6 := rec_cell0 HP6.out.1.1 2 _ rfl; have c3_P6 := rec_cell0 HP6.out.1.1 3 _ rfl; have c4_P6 := rec_cell0 HP6.out.1.1 4 _ rfl; have c5_P6 := rec_cell0 HP6.out.1.1 5 _ rfl; have c6_P6 := rec_cell0 HP6.out.1.1 6 _ rfl; have c7_P6 := rec_cell0 HP6.out.1.1 7 _ rfl; have c8_P6 := rec_cell0 HP6.out.1.1 8 _ rfl; have o0_P6 := cell_blk HP6.out.1.2.1 0 _ rfl; have o1_P6 := cell_blk HP6.out.1.2.1 1 _ rfl; have o2_P6 := cell_blk HP6.out.1.2.1 2 _ rfl; have o3_P6 := cell_blk HP6.out.1.2.1 3 _ rfl)
    | (at_builtin; refine wpList_append_pt rfl _ _ rfl (w1.heap.size + 1) _ [⟨1, dir, name, true⟩, ⟨1, dir2, name2, true⟩, ⟨2, ino, ⟨#[]⟩, true⟩, ⟨2, old, ⟨#[]⟩, true⟩, ⟨3, 0, ⟨#[]⟩, true⟩, ⟨2, dir, ⟨#[]⟩, false⟩] 6 7 rfl rfl rfl (HP6.out.2.alloc _) W6.heap.size ⟨2, dir2, ⟨#[]⟩, false⟩ rfl (heap_alloc_new _ _) (by simp) (by rw [World.alloc_size']; have := HP6.out.1.2.2.2.2; omega) ?_; intro A7 q7 W7 g2 g3; have HP7 := Lib.hid (HP6.out.more g2 g3); clear g2 g3; have c1_P7 := rec_cell0 HP7.out.1.1 1 _ rfl; have c2_P7 := rec_cell0 HP7.out.1.1 2 _ rfl; have c3_P7 := rec_cell0 HP7.out.1.1 3 _ rfl; have c4_P7 := rec_cell0 HP7.out.1.1 4 _ rfl; have c5_P7 := rec_cell0 HP7.out.1.1 5 _ rfl; have c6_P7 := rec_cell0 HP7.out.1.1 6 _ rfl; have c7_P7 := rec_cell0 HP7.out.1.1 7 _ rfl; have c8_P7 := rec_cell0 HP7.out.1.1 8 _ rfl; have o0_P7 := cell_blk HP7.out.1.2.1 0 _ rfl; have o1_P7 := cell_blk HP7.out.1.2.1 1 _ rfl; have o2_P7 := cell_blk HP7.out.1.2.1 2 _ rfl; have o3_P7 := cell_blk HP7.out.1.2.1 3 _ rfl))
  go_ret
  exact ⟨_, rfl, HP7.out.row, HP7.out.1.2.2.1⟩
theorem check_act {r : R} (h : checkB r = true) : 1 ≤ r.act ∧ r.act ≤ 7 := by
  unfold checkB at h
  simp only [Bool.and_eq_true, decide_eq_true_eq] at h
  exact h.1.1.1.1.1.1
set_option maxRecDepth 100000 in
set_option maxHeartbeats 4000000 in
theorem t_rparts (r : R) (hr : r.Ok) (h1 : r.name.size ≤ maxLen) (h2 : r.name2.size ≤ maxLen) (h3 : r.data.size ≤ maxLen) (w : World) : Calls Tryz.prog 95 #[r.val] w fun e w' => ∃ v, e = .returned v ∧ w'.ownsRow w.heap.size 142 4 v (partsL r).length (flatP (partsL r)) ∧ Below w.heap.size w w' := by
  by_cases hck : checkB r = true
  · have hbare := bare_of_check hr hck
    have hact := check_act hck
    have hold := hbare.old
    clear hbare
    obtain ⟨stamp, act, dir, name, ino, kind, dir2, name2, old, size, page, data⟩ := r
    simp only [] at h1 h2 h3 hact hold
    unfold R.val
    simp only []
    by_cases ha : 5 ≤ act
    · have e : partsL ⟨stamp, act, dir, name, ino, kind, dir2, name2, old, size, page, data⟩ = [⟨2, ino, ⟨#[]⟩, true⟩] := by
        unfold partsL kEntry
        rw [if_pos hck, if_neg (by simp; omega)]
      rw [e]
      exact t_rparts_bare stamp act dir ino kind dir2 old size page name name2 data ⟨ha, hact.2⟩ h1 h2 h3 hck w
    · have hent : kEntry act = true := by unfold kEntry; simp; omega
      by_cases h4 : act = 4
      · subst h4
        by_cases hk : kind = 2 <;> by_cases ho : old = 0
        · subst hk; subst ho
          have e : partsL ⟨stamp, 4, dir, name, ino, 2, dir2, name2, 0, size, page, data⟩ = [⟨1, dir, name, true⟩, ⟨1, dir2, name2, true⟩, ⟨2, ino, ⟨#[]⟩, true⟩, ⟨3, 0, ⟨#[]⟩, true⟩, ⟨2, dir, ⟨#[]⟩, false⟩, ⟨2, dir2, ⟨#[]⟩, false⟩] := by
            unfold partsL
            rw [if_pos hck, if_pos hent]
            simp
          rw [e]
          exact t_rparts_mvd stamp dir ino dir2 size page name name2 data h1 h2 h3 hck w
        · subst hk
          have ho2 : (old == 0) = false := by simpa using ho
          have e : partsL ⟨stamp, 4, dir, name, ino, 2, dir2, name2, old, size, page, data⟩ = [⟨1, dir, name, true⟩, ⟨1, dir2, name2, true⟩, ⟨2, ino, ⟨#[]⟩, true⟩, ⟨2, old, ⟨#[]⟩, true⟩, ⟨3, 0, ⟨#[]⟩, true⟩, ⟨2, dir, ⟨#[]⟩, false⟩, ⟨2, dir2, ⟨#[]⟩, false⟩] := by
            unfold partsL
            rw [if_pos hck, if_pos hent]
            simp [ho]
          rw [e]
          exact t_rparts_mvod stamp dir ino dir2 old size page name name2 data ho2 h1 h2 h3 hck w
        · subst ho
          have hk2 : (kind == 2) = false := by simpa using hk
          have e : partsL ⟨stamp, 4, dir, name, ino, kind, dir2, name2, 0, size, page, data⟩ = [⟨1, dir, name, true⟩, ⟨1, dir2, name2, true⟩, ⟨2, ino, ⟨#[]⟩, true⟩, ⟨2, dir, ⟨#[]⟩, false⟩, ⟨2, dir2, ⟨#[]⟩, false⟩] := by
            unfold partsL
            rw [if_pos hck, if_pos hent]
            simp [hk]
          rw [e]
          exact t_rparts_mvf stamp dir ino kind dir2 size page name name2 data hk2 h1 h2 h3 hck w
        · have hk2 : (kind == 2) = false := by simpa using hk
          have ho2 : (old == 0) = false := by simpa using ho
          have e : partsL ⟨stamp, 4, dir, name, ino, kind, dir2, name2, old, size, page, data⟩ = [⟨1, dir, name, true⟩, ⟨1, dir2, name2, true⟩, ⟨2, ino, ⟨#[]⟩, true⟩, ⟨2, old, ⟨#[]⟩, true⟩, ⟨2, dir, ⟨#[]⟩, false⟩, ⟨2, dir2, ⟨#[]⟩, false⟩] := by
            unfold partsL
            rw [if_pos hck, if_pos hent]
            simp [hk, ho]
          rw [e]
          exact t_rparts_mvof stamp dir ino kind dir2 old size page name name2 data hk2 ho2 h1 h2 h3 hck w
      · have h42 : (act == 4) = false := by simpa using h4
        have ho : old = 0 := hold (by unfold kMove; simpa using h4)
        subst ho
        have e : partsL ⟨stamp, act, dir, name, ino, kind, dir2, name2, 0, size, page, data⟩ = [⟨1, dir, name, true⟩, ⟨2, ino, ⟨#[]⟩, true⟩, ⟨2, dir, ⟨#[]⟩, false⟩] := by
          unfold partsL
          rw [if_pos hck, if_pos hent]
          simp [h4]
        rw [e]
        exact t_rparts_entry stamp act dir ino kind dir2 size page name name2 data (by omega) h42 h1 h2 h3 hck w
  · have hcf : checkB r = false := by simpa using hck
    have e : partsL r = [] := by unfold partsL; rw [if_neg hck]
    rw [e]
    have hmay := fun w => t_may r w h1 h2 h3
    rw [may_check, hcf] at hmay
    unfold R.val at hmay ⊢
    go_enter Tryz.func95, Tryz.ntmps95
    go_wp2_with (go_at_call 64; (with_reducible refine (hmay _).mono ?_); rintro e w1 ⟨rfl, hb⟩; have HB := Lib.hid (ptrans (below_a1' w _) hb); clear hb)
    go_ret
    exact ⟨_, rfl, World.ownsRow_nil _ _ _ _, HB.out⟩
end Go.Proofs.YtehckjkihaalfaaGreat
