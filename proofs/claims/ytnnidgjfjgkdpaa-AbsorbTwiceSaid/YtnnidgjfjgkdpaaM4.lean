/- Trees as the document has them: bytes. -/
import Derived.Test.YtnnidgjfjgkdpaaM3
import Derived.Laws.MakeOwn
import Derived.Laws.IdiomStrings
import Derived.StillTailTactics
namespace Go.Proofs.Ytnnidgjfjgkdpaa
open Go.RowKit

def zerosN (n : Nat) : ByteArray := ⟨(List.replicate n (0 : UInt8)).toArray⟩
/-- A text as long as said. -/
def longS (s : ByteArray) (n : Nat) : ByteArray := if n ≤ s.size then s.extract 0 n else s ++ zerosN (n - s.size)
theorem zerosN_size (n : Nat) : (zerosN n).size = n := by show ((List.replicate n (0 : UInt8)).toArray).size = n; simp
theorem infoU8 : ∃ i, Try.prog.info? 5 = some i ∧ i.zero = some (.int .u8 0) ∧ i.size = 1 ∧ i.bytes = 1 := info_parts (by kernel_rfl)
theorem madeCells_u8 (n : Nat) : madeCells #[Value.int .u8 0] n = (List.replicate n (Value.int .u8 0)).toArray := by
  apply Array.toList_inj.1
  rw [toList_madeCells_one]
theorem run_make_u8 (n : Nat) (hn : n ≤ 1000000) (W : World) : (Instr.makeSlice 45 (.int .i64 (n : Nat)) (.int .i64 (n : Nat))).run Try.prog W = .ok (.slice (some ⟨W.heap.size, 0, none⟩) n n) (W.alloc (.cells (madeCells #[.int .u8 0] n) 5)) := by
  obtain ⟨i5, hi5, hz0, hz1, hz2⟩ := infoU8
  have := run_makeSlice (w := W) 45 5 i5 (.int .u8 0) Try.underlying45 hi5 hz0 .i64 .i64 n n (by omega) (by omega) (by rw [hz1]; omega) (by rw [hz2]; omega) (by omega)
  rw [hz1] at this
  simpa [Value.cells] using this
theorem run_conv_u8 (n m : Nat) (hm : m = n) (W : World) (g : Nat) (hg : g = W.heap.size) : (convert 45 9 (.slice (some ⟨g, 0, none⟩) m m)).run Try.prog (W.alloc (.cells (madeCells #[.int .u8 0] m) 5)) = .ok (.string (zerosN n)) (W.alloc (.cells (madeCells #[.int .u8 0] m) 5)) := by
  subst hm; subst hg
  have := run_convert_bytes_back (W.alloc (.cells (madeCells #[.int .u8 0] m) 5)) 45 9 5 ⟨W.heap.size, 0, none⟩ m (List.replicate m (0 : UInt8)) Try.underlying45 Try.underlying5 Try.underlying9 (fun j hj => by
    have hj' : j < m := by simpa using hj
    have hc : (madeCells #[Value.int .u8 0] m)[j]? = some (Value.int .u8 0) := by rw [madeCells_u8, List.getElem?_toArray, List.getElem?_replicate, if_pos hj']
    have h2 : (W.alloc (.cells (madeCells #[.int .u8 0] m) 5)).cell? (Addr.add ⟨W.heap.size, 0, none⟩ j) = (madeCells #[.int .u8 0] m)[j]? := by
      by_cases e : j = 0
      · subst e; simp [go_sem, Addr.add]
      · simp [go_sem, Addr.add, e]
    rw [h2, hc, List.getElem_replicate]; rfl)
  rw [List.length_replicate] at this
  exact this

set_option maxRecDepth 100000 in
set_option maxHeartbeats 4000000 in
theorem t_long (s : ByteArray) (n : Nat) (w : World) (hs : s.size ≤ 1000000) (hn : n ≤ 1000000) :
    Calls Try.prog 50 #[.string s, .int .i64 (n : Nat)] w fun e w' => e = .returned (.string (longS s n)) ∧ Below w.heap.size w w' := by
  by_cases h : n ≤ s.size
  · have HF : Hid (s.extract 0 n = longS s n) := by show _ = _; unfold longS; rw [if_pos h]
    go_enter Try.func50, Try.ntmps50
    go_wp2
    go_ret
    exact ⟨congrArg (fun x => Ending.returned (.string x)) HF.out, Below.refl _ _⟩
  · have HF : Hid (s ++ zerosN (n - s.size) = longS s n) := by show _ = _; unfold longS; rw [if_neg h]
    have hsub : ((n - s.size : Nat) : Int) = (n : Int) - (s.size : Int) := by omega
    have hmk := run_make_u8 (n - s.size) (by omega)
    rw [hsub] at hmk
    have hcv := fun W => run_conv_u8 (n - s.size) (n - s.size) rfl W W.heap.size rfl
    have hzs : (zerosN (n - s.size)).size ≤ 1000000 := by rw [zerosN_size]; omega
    clear hsub
    go_enter Try.func50, Try.ntmps50
    go_wp2
    go_ret
    exact ⟨congrArg (fun x => Ending.returned (.string x)) HF.out, (Below.refl _ _).alloc (Nat.le_refl _) _⟩
theorem longS_size (s : ByteArray) (n : Nat) : (longS s n).size = n := by
  unfold longS
  split
  · rw [ByteArray.size_extract]; omega
  · rw [ByteArray.size_append, zerosN_size]; omega

theorem t_longI (s : ByteArray) (n : Nat) (x : Int) (hx : x = (n : Nat)) (u : ByteArray) (hu : longS s n = u) (w : World) (hs : s.size ≤ 1000000) (hn : n ≤ 1000000) :
    Calls Try.prog 50 #[.string s, .int .i64 x] w fun e w' => e = .returned (.string u) ∧ Below w.heap.size w w' := by
  subst hx; subst hu; exact t_long s n w hs hn
theorem grown_undrew {a b : World} {r : Option Nat} (h : a.drew.grownBy b r) : a.grownBy b r := ⟨h.os, h.tape, h.output, h.size, h.block⟩
/-- Resize's answer, and the tree behind it. -/
def resizeR (t : Tr) (ino size : Int) : Int × Tr :=
  if fileE t ino ≠ 0 then (fileE t ino, t) else if 2304 < size then (2, t) else (0, setNd t ino { ndAt t ino with data := longS (ndAt t ino).data size.toNat })
set_option maxRecDepth 100000 in
set_option maxHeartbeats 4000000 in
theorem t_resize (P G : Nat) (t : Tr) (ino size : Int) (w : World) (h : TreeAt w P G t) (h0 : 0 ≤ ino) (z0 : 0 ≤ size) (z1 : size ≤ 4294967295) (hds : (ndAt t ino).data.size ≤ 100000) (r : Int) (t' : Tr) (hr : resizeR t ino size = (r, t')) :
    Calls Try.prog 30 #[.pointer (some ⟨P, 0, none⟩), .int .u32 ino, .int .u32 size] w fun e w' => e = .returned (.int .i64 r) ∧ TreeAt w' P G t' ∧ w.grownBy w' (some G) := by
  unfold resizeR at hr
  obtain ⟨f, hf⟩ : ∃ f, fileE t ino = f := ⟨_, rfl⟩
  rw [hf] at hr
  have HF := Lib.hid hf
  by_cases hf0 : f ≠ 0
  · rw [if_pos hf0] at hr
    have hne : (f != 0) = true := by simpa using hf0
    clear hf hf0
    injection hr with e1 e2
    subst e1
    subst e2
    go_enter Try.func30, Try.ntmps30
    go_wp2_with (first | (go_at_call 42; (with_reducible refine (t_file P G t ino _ HF.out _ h h0).mono ?_); rintro e w' ⟨rfl, rfl⟩))
    go_ret
    exact ⟨ret_i64 rfl, h, grown_of_below (Below.refl _ _)⟩
  · rw [if_neg hf0] at hr
    obtain rfl : f = 0 := by omega
    obtain ⟨i1, i2, _⟩ := thereB_bounds (fileE_zero hf).1
    clear hf hf0
    by_cases hz : 2304 < size
    · rw [if_pos hz] at hr
      injection hr with e1 e2
      subst e1
      subst e2
      go_enter Try.func30, Try.ntmps30
      go_wp2_with (first | (go_at_call 42; (with_reducible refine (t_file P G t ino _ HF.out _ h h0).mono ?_); rintro e w' ⟨rfl, rfl⟩))
      go_ret
      exact ⟨ret_i64 rfl, h, grown_of_below (Below.refl _ _)⟩
    · rw [if_neg hz] at hr
      obtain ⟨n, rfl⟩ : ∃ n : Nat, size = n := ⟨size.toNat, by omega⟩
      rw [Int.toNat_natCast] at hr
      have hsm := h.small
      obtain ⟨c, hc1, hc2, hc⟩ := h.cell0
      unfold maxLen at hc2
      obtain ⟨_, _, g2, _⟩ := h.get (h.idx i1 i2)
      have hds' : (nd t (ino.toNat - 1)).data.size ≤ 1000000 := by show (ndAt t ino).data.size ≤ _; omega
      have hn : n ≤ 1000000 := by omega
      clear hds
      injection hr with e1 e2
      subst e1
      subst e2
      go_enter Try.func30, Try.ntmps30
      go_wp2_with (first | (go_at_call 42; (with_reducible refine (t_file P G t ino _ HF.out _ h h0).mono ?_); rintro e w' ⟨rfl, rfl⟩) | (go_at_call 50; refine (t_long (nd t (ino.toNat - 1)).data n _ hds' hn).mono ?_; rintro e w2 ⟨rfl, hb2⟩; have HB2 := Lib.hid hb2; have HT2 := Lib.hid (h.below hb2); clear hb2) | (go_at_call 49; refine (t_put P G t ino _ w2 HT2.out i1 i2).mono ?_; rintro e w3 ⟨rfl, ht3, hg3⟩; have HT3 := Lib.hid ht3; have HG3 := Lib.hid (grown_trans (grown_of_below HB2.out) hg3); clear ht3 hg3))
      go_ret
      exact ⟨ret_i64 rfl, HT3.out, HG3.out⟩

end Go.Proofs.Ytnnidgjfjgkdpaa
