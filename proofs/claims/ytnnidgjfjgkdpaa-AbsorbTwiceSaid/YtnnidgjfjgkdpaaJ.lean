/- The law's own examples. -/
import Derived.Test.YtnnidgjfjgkdpaaI
import Derived.Laws.MakeOwn
import Derived.Laws.IdiomStrings
namespace Go.Proofs.Ytnnidgjfjgkdpaa
open Go.RowKit Go.Maps

def nameA : ByteArray := ⟨#[97]⟩
def exMake : R := ⟨0, 1, 1, nameA, 2, 1, 0, ByteArray.empty, 0, 0, 0, ByteArray.empty⟩
def exPage (i : Int) (d : ByteArray) : R := ⟨0, 6, 0, ByteArray.empty, i, 0, 0, ByteArray.empty, 0, 64, 0, d⟩
def exUnlink : R := ⟨0, 3, 1, nameA, 2, 1, 0, ByteArray.empty, 0, 0, 0, ByteArray.empty⟩
def exFree : R := ⟨0, 7, 0, ByteArray.empty, 2, 0, 0, ByteArray.empty, 0, 0, 0, ByteArray.empty⟩
theorem ex_idle (d : ByteArray) : idleB [exMake, exPage 2 d, exUnlink, exFree] 0 = some 3 := by kernel_rfl
theorem ex_of (d : ByteArray) : (leftOf [exMake, exPage 2 d, exUnlink, exFree]).length = 0 := by kernel_rfl
theorem ex_gone (d : ByteArray) : (goneOf [exMake, exPage 2 d, exUnlink, exFree]).length = 4 := by kernel_rfl
theorem ex_pages (d : ByteArray) : goneOf [exPage 3 d, exPage 3 d] = [0] := by kernel_rfl
theorem ex_three (d : ByteArray) : (leftOf [exMake, exPage 2 d, exUnlink]).length = 3 := by kernel_rfl

theorem info5 : ∃ i, Try.prog.info? 5 = some i ∧ i.zero = some (.int .u8 0) ∧ i.size = 1 ∧ i.bytes = 1 := info_parts (by kernel_rfl)
def zeros : ByteArray := ⟨(List.replicate 64 (0 : UInt8)).toArray⟩
set_option maxRecDepth 100000 in
set_option maxHeartbeats 2000000 in
theorem page_any (i : Int) (w : World) : Calls Try.prog 12 #[.int .u32 i, .int .u32 64] w fun e W' => e = .returned (exPage i zeros).val ∧ Below w.heap.size w W' := by
  obtain ⟨i5, hi5, hz0, hz1, hz2⟩ := info5
  have hmk : ∀ W : World, (Instr.makeSlice 45 (.int .i64 64) (.int .i64 64)).run Try.prog W = .ok (.slice (some ⟨W.heap.size, 0, none⟩) 64 64) (W.alloc (.cells (madeCells #[.int .u8 0] 64) 5)) := fun W => by
    have := run_makeSlice (w := W) 45 5 i5 (.int .u8 0) Try.underlying45 hi5 hz0 .i64 .i64 64 64 (by decide) (by decide) (by rw [hz1]; decide) (by rw [hz2]; decide) (by decide)
    rw [hz1] at this
    exact this
  have hcv : ∀ (W : World) (g : Nat), g = W.heap.size → (convert 45 9 (.slice (some ⟨g, 0, none⟩) 64 64)).run Try.prog (W.alloc (.cells (madeCells #[.int .u8 0] 64) 5)) = .ok (.string zeros) (W.alloc (.cells (madeCells #[.int .u8 0] 64) 5)) := by
    rintro W _ rfl
    refine run_convert_bytes_back (W.alloc (.cells (madeCells #[.int .u8 0] 64) 5)) 45 9 5 ⟨W.heap.size, 0, none⟩ 64 (List.replicate 64 (0 : UInt8)) Try.underlying45 Try.underlying5 Try.underlying9 (fun j hj => ?_)
    have hc : ∀ j, j < 64 → (madeCells #[.int .u8 0] 64)[j]? = some (Value.int .u8 0) := fun j hj => by
      have : madeCells #[Value.int .u8 0] 64 = (List.replicate 64 (Value.int .u8 0)).toArray := by kernel_rfl
      rw [this, List.getElem?_toArray, List.getElem?_replicate, if_pos hj]
    have h1 := hc j (by simpa using hj)
    have h2 : (W.alloc (.cells (madeCells #[.int .u8 0] 64) 5)).cell? (Addr.add ⟨W.heap.size, 0, none⟩ j) = (madeCells #[.int .u8 0] 64)[j]? := by
      by_cases e : j = 0
      · subst e; simp [go_sem, Addr.add]
      · simp [go_sem, Addr.add, e]
    rw [h2, h1, List.getElem_replicate]; rfl
  go_enter Try.func12, Try.ntmps12
  go_wp2
  refine bodyPost_ret (v := (exPage i zeros).val) (by simp [results, Try.f12, go_sem]; rfl) rfl ?_
  exact ⟨rfl, ((Below.refl _ w).alloc (Nat.le_refl _) _).alloc (by simp) _⟩


theorem exPage_val (i : Int) (d : ByteArray) : (exPage i d).val = .agg #[.int .u64 0, .int .u8 6, .int .u32 0, .string ByteArray.empty, .int .u32 i, .int .u8 0, .int .u32 0, .string ByteArray.empty, .int .u32 0, .int .u32 64, .int .i64 0, .string d] := rfl
theorem recs_new (w : World) (l : List R) (hok : ∀ r ∈ l, r.Ok) : Recs (w.alloc (.cells (recCells l).toArray 31)) (w.heap.size + 1) (some ⟨w.heap.size, 0, none⟩) l.length l := by
  refine ⟨rfl, fun _ => ⟨w.heap.size, 0, rfl, by omega, fun k r hk => ?_⟩, hok⟩
  have hc : ∀ j, j < 12 → (w.alloc (.cells (recCells l).toArray 31)).cell? ⟨w.heap.size, 0 + k * 12 + j, none⟩ = r.cells[j]? := fun j hj => by
    have e1 := recCells_get l k j r hk hj
    rw [World.cell?_alloc_at _ _ _ _ rfl, ← e1]; simp
  exact ⟨hc 0 (by omega), hc 1 (by omega), hc 2 (by omega), hc 3 (by omega), hc 4 (by omega), hc 5 (by omega), hc 6 (by omega), hc 7 (by omega), hc 8 (by omega), hc 9 (by omega), hc 10 (by omega), hc 11 (by omega)⟩
def ex4 : List R := [exMake, exPage 2 zeros, exUnlink, exFree]
def ex3 : List R := [exMake, exPage 2 zeros, exUnlink]
def ex2 : List R := [exPage 3 zeros, exPage 3 zeros]
theorem ok4 : ∀ r ∈ ex4, r.Ok := by
  intro r hr
  simp only [ex4, List.mem_cons, List.not_mem_nil, or_false] at hr
  have hz : zeros.size = 64 := by kernel_rfl
  have ha : nameA.size = 1 := by kernel_rfl
  rcases hr with rfl | rfl | rfl | rfl <;> constructor <;> simp [exMake, exPage, exUnlink, exFree, hz, ha]
theorem ok3 : ∀ r ∈ ex3, r.Ok := fun r hr => ok4 r (by simp only [ex3, ex4, List.mem_cons, List.not_mem_nil, or_false] at hr ⊢; rcases hr with h | h | h <;> simp [h])
theorem ok2 : ∀ r ∈ ex2, r.Ok := by
  intro r hr
  simp only [ex2, List.mem_cons, List.not_mem_nil, or_false] at hr
  have hz : zeros.size = 64 := by kernel_rfl
  rcases hr with rfl | rfl <;> constructor <;> simp [exPage, hz]
theorem slice_of_row {w : World} {base n size : Nat} {e : TypeId} {v : Value} {xs : List Value} (h : w.ownsRow base e size v n xs) : ∃ A c, v = .slice A n c := by
  rcases h.2 with ⟨rfl, rfl⟩ | ⟨g, cap, cur, rfl, _⟩
  · exact ⟨none, 0, rfl⟩
  · exact ⟨_, _, rfl⟩
theorem exI (A : Option Addr) (c B : Nat) (w : World) (h : Recs w B A 4 ex4) (hB : B ≤ w.heap.size) : Calls Try.prog 13 #[.slice A 4 c, .int .i64 0] w fun e W' => e = .returned (.tuple #[.int .i64 3, .bool true]) ∧ Below w.heap.size w W' := by
  refine (idle_any A 4 c B 0 ex4 w h hB (by decide) (by decide)).mono ?_
  rw [show idleB ex4 0 = some 3 from ex_idle zeros]
  exact fun e W' h => h
theorem exG4 (A : Option Addr) (c B : Nat) (w : World) (h : Recs w B A 4 ex4) (hB : B ≤ w.heap.size) : Calls Try.prog 8 #[.slice A 4 c] w fun e W' => ∃ A' c', e = .returned (.slice A' 4 c') ∧ Below w.heap.size w W' := by
  refine (gone_any A 4 c B ex4 w h hB (by decide)).mono ?_
  rintro e W' ⟨v, rfl, hr, hb⟩
  rw [show (goneOf ex4).length = 4 from ex_gone zeros] at hr
  obtain ⟨A', c', rfl⟩ := slice_of_row hr
  exact ⟨A', c', rfl, hb⟩
theorem ofOf_length (rs : List R) : (ofOf rs).length = (leftOf rs).length := by unfold ofOf pick; simp
theorem exO4 (A : Option Addr) (c B : Nat) (w : World) (h : Recs w B A 4 ex4) (hB : B ≤ w.heap.size) : Calls Try.prog 7 #[.slice A 4 c] w fun e W' => ∃ A' c', e = .returned (.slice A' 0 c') ∧ Below w.heap.size w W' := by
  refine (of_any A 4 c B ex4 w h hB (by decide)).mono ?_
  rintro e W' ⟨v, rfl, hr, hb⟩
  rw [show (ofOf ex4).length = 0 from (ofOf_length _).trans (ex_of zeros)] at hr
  obtain ⟨A', c', rfl⟩ := slice_of_row hr
  exact ⟨A', c', rfl, hb⟩
theorem exO3 (A : Option Addr) (c B : Nat) (w : World) (h : Recs w B A 3 ex3) (hB : B ≤ w.heap.size) : Calls Try.prog 7 #[.slice A 3 c] w fun e W' => ∃ A' c', e = .returned (.slice A' 3 c') ∧ Below w.heap.size w W' := by
  refine (of_any A 3 c B ex3 w h hB (by decide)).mono ?_
  rintro e W' ⟨v, rfl, hr, hb⟩
  rw [show (ofOf ex3).length = 3 from (ofOf_length _).trans (ex_three zeros)] at hr
  obtain ⟨A', c', rfl⟩ := slice_of_row hr
  exact ⟨A', c', rfl, hb⟩
theorem exG2 (A : Option Addr) (c B : Nat) (w : World) (h : Recs w B A 2 ex2) (hB : B ≤ w.heap.size) : Calls Try.prog 8 #[.slice A 2 c] w fun e W' => ∃ b c', e = .returned (.slice (some ⟨b, 0, none⟩) 1 c') ∧ W'.cell? ⟨b, 0, none⟩ = some (.int .i64 0) ∧ Below w.heap.size w W' := by
  refine (gone_any A 2 c B ex2 w h hB (by decide)).mono ?_
  rintro e W' ⟨v, rfl, hr, hb⟩
  rw [show goneOf ex2 = [0] from ex_pages zeros] at hr
  obtain ⟨A', c', rfl, hread⟩ := row_read (m := 1) (l := [0]) hr rfl
  obtain ⟨b, rfl, hc⟩ := hread 0 0 rfl
  exact ⟨b, c', rfl, hc, hb⟩
theorem recs_three {w : World} {B : Nat} {A : Option Addr} (h : Recs w B A 4 ex4) : Recs w B A 3 ex3 := by
  refine ⟨rfl, fun _ => ?_, ok3⟩
  obtain ⟨b, o, hA, hb, hr⟩ := h.at_ (by omega)
  refine ⟨b, o, hA, hb, fun k r hk => hr k r ?_⟩
  match k, hk with
  | 0, hk => exact hk
  | 1, hk => exact hk
  | 2, hk => exact hk
  | k + 3, hk => simp [ex3] at hk

theorem recs4 (w : World) : Recs (w.alloc (.cells #[.int .u64 0, .int .u8 1, .int .u32 1, .string ⟨#[97]⟩, .int .u32 2, .int .u8 1, .int .u32 0, .string ⟨#[]⟩, .int .u32 0, .int .u32 0, .int .i64 0, .string ⟨#[]⟩,
    .int .u64 0, .int .u8 6, .int .u32 0, .string ByteArray.empty, .int .u32 2, .int .u8 0, .int .u32 0, .string ByteArray.empty, .int .u32 0, .int .u32 64, .int .i64 0, .string zeros,
    .int .u64 0, .int .u8 3, .int .u32 1, .string ⟨#[97]⟩, .int .u32 2, .int .u8 1, .int .u32 0, .string ⟨#[]⟩, .int .u32 0, .int .u32 0, .int .i64 0, .string ⟨#[]⟩,
    .int .u64 0, .int .u8 7, .int .u32 0, .string ⟨#[]⟩, .int .u32 2, .int .u8 0, .int .u32 0, .string ⟨#[]⟩, .int .u32 0, .int .u32 0, .int .i64 0, .string ⟨#[]⟩] 31)) (w.heap.size + 1) (some ⟨w.heap.size, 0, none⟩) 4 ex4 := recs_new w ex4 ok4
theorem recs2 (w : World) : Recs (w.alloc (.cells #[.int .u64 0, .int .u8 6, .int .u32 0, .string ByteArray.empty, .int .u32 3, .int .u8 0, .int .u32 0, .string ByteArray.empty, .int .u32 0, .int .u32 64, .int .i64 0, .string zeros,
    .int .u64 0, .int .u8 6, .int .u32 0, .string ByteArray.empty, .int .u32 3, .int .u8 0, .int .u32 0, .string ByteArray.empty, .int .u32 0, .int .u32 64, .int .i64 0, .string zeros] 31)) (w.heap.size + 1) (some ⟨w.heap.size, 0, none⟩) 2 ex2 := recs_new w ex2 ok2
set_option maxRecDepth 100000 in
set_option maxHeartbeats 4000000 in
theorem lawAlive_any (w : World) : Calls Try.prog 6 #[] w fun e W' => e = .returned (.bool true) ∧ Below w.heap.size w W' := by
  go_enter Try.func6, Try.ntmps6
  go_wp2_with fail
  refine (page_any _ _).mono ?_
  rw [exPage_val]
  rintro e w1 ⟨rfl, hb1⟩
  have h4 := Lib.hid (recs4 w1)
  go_wp2_with fail
  refine (exI _ _ _ _ h4.out (by simp)).mono ?_
  rintro e w2 ⟨rfl, hb2⟩
  have HB2 := Lib.hid (((Below.refl _ w).trans hb1).alloc hb1.size _ |>.trans (hb2.mono (by have := hb1.size; simp; omega)))
  have H2 := Lib.hid (h4.out.below hb2 (by simp) (by simp : _ ≤ w1.heap.size + 1))
  have hz2 : w1.heap.size + 1 ≤ w2.heap.size := by have := hb2.size; simpa using this
  clear h4 hb2 hb1
  go_wp2_with fail
  refine (page_any _ _).mono ?_
  rw [exPage_val]
  rintro e w3 ⟨rfl, hb3⟩
  have HB3 := Lib.hid (HB2.out.trans (hb3.mono HB2.out.size))
  have H3 := Lib.hid (H2.out.below hb3 hz2 (Nat.le_refl _))
  have hz3 := Nat.le_trans hz2 hb3.size
  clear HB2 H2 hz2 hb3
  go_wp2_with fail
  refine (page_any _ _).mono ?_
  rw [exPage_val]
  rintro e w4 ⟨rfl, hb4⟩
  have HB4 := Lib.hid (HB3.out.trans (hb4.mono HB3.out.size))
  have H4 := Lib.hid (H3.out.below hb4 hz3 (Nat.le_refl _))
  have hz4 := Nat.le_trans hz3 hb4.size
  clear HB3 H3 hz3 hb4
  go_wp2_with fail
  refine (exG2 _ _ _ _ (recs2 w4) (by simp)).mono ?_
  rintro e w5 ⟨b, c', rfl, hc5, hb5⟩
  have HB5 := Lib.hid ((HB4.out.alloc HB4.out.size _).trans (hb5.mono (by have := HB4.out.size; simp; omega)))
  have H5 := Lib.hid ((H4.out.keep (Nat.le_refl _) (fun p hp => World.cell?_alloc_lt w4 _ p (by omega))).below hb5 (by simp; omega) (Nat.le_refl _))
  have hz5 : w1.heap.size + 1 ≤ w5.heap.size := by have := hb5.size; simp at this; omega
  have hlt5 : b < w5.heap.size := World.block_lt_of_cell? w5 _ hc5
  clear HB4 H4 hz4 hb5
  go_wp2_with fail
  refine (exO4 _ _ _ _ H5.out hz5).mono ?_
  rintro e w6 ⟨A6, c6, rfl, hb6⟩
  have HB6 := Lib.hid (HB5.out.trans (hb6.mono HB5.out.size))
  have H6 := Lib.hid (H5.out.below hb6 hz5 (Nat.le_refl _))
  have hz6 := Nat.le_trans hz5 hb6.size
  have hc6 := (World.cell?_of_block (a := ⟨b, 0, none⟩) (hb6.block b hlt5)).trans hc5
  have hlt6 := Nat.lt_of_lt_of_le hlt5 hb6.size
  clear HB5 H5 hz5 hb6 hc5 hlt5
  go_wp2_with fail
  refine (exG4 _ _ _ _ H6.out hz6).mono ?_
  rintro e w7 ⟨A7, c7, rfl, hb7⟩
  have HB7 := Lib.hid (HB6.out.trans (hb7.mono HB6.out.size))
  have H7 := Lib.hid (recs_three (H6.out.below hb7 hz6 (Nat.le_refl _)))
  have hz7 := Nat.le_trans hz6 hb7.size
  have hc7 := (World.cell?_of_block (a := ⟨b, 0, none⟩) (hb7.block b hlt6)).trans hc6
  clear HB6 H6 hz6 hb7 hc6 hlt6
  go_wp2_with fail
  refine (exO3 _ _ _ _ H7.out hz7).mono ?_
  rintro e w8 ⟨A8, c8, rfl, hb8⟩
  have HB8 := Lib.hid (HB7.out.trans (hb8.mono HB7.out.size))
  clear HB7 H7 hz7 hb8 hc7
  go_wp2_with fail
  go_ret
  exact ⟨rfl, HB8.out⟩
end Go.Proofs.Ytnnidgjfjgkdpaa
