/- Trees as the document has them: bytes. -/
import Derived.Test.YtogljgiefmfafaaGreatPd20
import Derived.Laws.MakeOwn
import Derived.Laws.IdiomStrings
import Derived.StillTailTactics
import Derived.RangeFuncRecord
namespace Go.Proofs.YtogljgiefmfafaaGreat.D
open Go.RowKit
def zerosN (n : Nat) : ByteArray := ⟨(List.replicate n (0 : UInt8)).toArray⟩
def longS (s : ByteArray) (n : Nat) : ByteArray := if n ≤ s.size then s.extract 0 n else s ++ zerosN (n - s.size)
theorem zerosN_size (n : Nat) : (zerosN n).size = n := by show ((List.replicate n (0 : UInt8)).toArray).size = n; simp
theorem infoU8 : ∃ i, Tryz.prog.info? 5 = some i ∧ i.zero = some (.int .u8 0) ∧ i.size = 1 ∧ i.bytes = 1 := info_parts (by kernel_rfl)
theorem madeCells_u8 (n : Nat) : madeCells #[Value.int .u8 0] n = (List.replicate n (Value.int .u8 0)).toArray := by
 apply Array.toList_inj.1
 rw [toList_madeCells_one]
theorem run_make_u8 (n : Nat) (hn : n ≤ 1000000) (W : World) : (Instr.makeSlice 93 (.int .i64 (n : Nat)) (.int .i64 (n : Nat))).run Tryz.prog W = .ok (.slice (some ⟨W.heap.size, 0, none⟩) n n) (W.alloc (.cells (madeCells #[.int .u8 0] n) 5)) := by
 obtain ⟨i5, hi5, hz0, hz1, hz2⟩ := infoU8
 have := run_makeSlice (w := W) 93 5 i5 (.int .u8 0) Tryz.underlying93 hi5 hz0 .i64 .i64 n n (by omega) (by omega) (by rw [hz1]; omega) (by rw [hz2]; omega) (by omega)
 rw [hz1] at this
 simpa [Value.cells] using this
theorem run_conv_u8 (n m : Nat) (hm : m = n) (W : World) (g : Nat) (hg : g = W.heap.size) : (convert 93 9 (.slice (some ⟨g, 0, none⟩) m m)).run Tryz.prog (W.alloc (.cells (madeCells #[.int .u8 0] m) 5)) = .ok (.string (zerosN n)) (W.alloc (.cells (madeCells #[.int .u8 0] m) 5)) := by
 subst hm; subst hg
 have := run_convert_bytes_back (W.alloc (.cells (madeCells #[.int .u8 0] m) 5)) 93 9 5 ⟨W.heap.size, 0, none⟩ m (List.replicate m (0 : UInt8)) Tryz.underlying93 Tryz.underlying5 Tryz.underlying9 (fun j hj => by
  have hj' : j < m := by simpa using hj
  have hc : (madeCells #[Value.int .u8 0] m)[j]? = some (Value.int .u8 0) := by rw [madeCells_u8, List.getElem?_toArray, List.getElem?_replicate, if_pos hj']
  have h2 : (W.alloc (.cells (madeCells #[.int .u8 0] m) 5)).cell? (Addr.add ⟨W.heap.size, 0, none⟩ j) = (madeCells #[.int .u8 0] m)[j]? := by
   by_cases e : j = 0
   · subst e; simp [go_sem, Addr.add]
   · simp [go_sem, Addr.add, e]
  rw [h2, hc, List.getElem_replicate]; rfl)
 rw [List.length_replicate] at this
 exact this
set_option maxRecDepth 100000 in
set_option maxHeartbeats 4000000 in
theorem t_long (s : ByteArray) (n : Nat) (w : World) (hs : s.size ≤ 1000000) (hn : n ≤ 1000000) :
  Calls Tryz.prog 123 #[.string s, .int .i64 (n : Nat)] w fun e w' => e = .returned (.string (longS s n)) ∧ Below w.heap.size w w' := by
 by_cases h : n ≤ s.size
 · have HF : Hid (s.extract 0 n = longS s n) := by show _ = _; unfold longS; rw [if_pos h]
   go_enter Tryz.func123, Tryz.ntmps123
   go_wp2
   go_ret
   exact ⟨congrArg (fun x => Ending.returned (.string x)) HF.out, Below.refl _ _⟩
 · have HF : Hid (s ++ zerosN (n - s.size) = longS s n) := by show _ = _; unfold longS; rw [if_neg h]
   have hsub : ((n - s.size : Nat) : Int) = (n : Int) - (s.size : Int) := by omega
   have hmk := run_make_u8 (n - s.size) (by omega)
   rw [hsub] at hmk
   have hcv := fun W => run_conv_u8 (n - s.size) (n - s.size) rfl W W.heap.size rfl
   have hzs : (zerosN (n - s.size)).size ≤ 1000000 := by rw [zerosN_size]; omega
   clear hsub
   go_enter Tryz.func123, Tryz.ntmps123
   go_wp2
   go_ret
   exact ⟨congrArg (fun x => Ending.returned (.string x)) HF.out, (Below.refl _ _).alloc (Nat.le_refl _) _⟩
theorem longS_size (s : ByteArray) (n : Nat) : (longS s n).size = n := by
 unfold longS
 split
 · rw [ByteArray.size_extract]; omega
 · rw [ByteArray.size_append, zerosN_size]; omega
theorem t_longI (s : ByteArray) (n : Nat) (x : Int) (hx : x = (n : Nat)) (u : ByteArray) (hu : longS s n = u) (w : World) (hs : s.size ≤ 1000000) (hn : n ≤ 1000000) :
  Calls Tryz.prog 123 #[.string s, .int .i64 x] w fun e w' => e = .returned (.string u) ∧ Below w.heap.size w w' := by
 subst hx; subst hu; exact t_long s n w hs hn
theorem grown_undrew {a b : World} {r : Option Nat} (h : a.drew.grownBy b r) : a.grownBy b r := ⟨h.os, h.tape, h.output, h.size, h.block⟩
def resizeR (t : Tr) (ino size : Int) : Int × Tr :=
 if fileE t ino ≠ 0 then (fileE t ino, t) else if 2304 < size then (2, t) else (0, setNd t ino { ndAt t ino with data := longS (ndAt t ino).data size.toNat })
set_option maxRecDepth 100000 in
set_option maxHeartbeats 4000000 in
theorem t_resize (P G : Nat) (t : Tr) (ino size : Int) (w : World) (h : TreeAt w P G t) (h0 : 0 ≤ ino) (z0 : 0 ≤ size) (z1 : size ≤ 4294967295) (hds : (ndAt t ino).data.size ≤ 100000) (r : Int) (t' : Tr) (hr : resizeR t ino size = (r, t')) :
  Calls Tryz.prog 64 #[.pointer (some ⟨P, 0, none⟩), .int .u32 ino, .int .u32 size] w fun e w' => e = .returned (.int .i64 r) ∧ TreeAt w' P G t' ∧ w.grownBy w' (some G) := by
 unfold resizeR at hr
 obtain ⟨f, hf⟩ : ∃ f, fileE t ino = f := ⟨_, rfl⟩
 rw [hf] at hr
 have HF := Lib.hid hf
 by_cases hf0 : f ≠ 0
 · rw [if_pos hf0] at hr
   have hne : (f != 0) = true := by simpa using hf0
   clear hf hf0
   injection hr with e1 e2
   subst e1
   subst e2
   go_enter Tryz.func64, Tryz.ntmps64
   go_wp2_with (first | (go_at_call 115; (with_reducible refine (t_file P G t ino _ HF.out _ h h0).mono ?_); rintro e w' ⟨rfl, rfl⟩))
   go_ret
   exact ⟨ret_i64 rfl, h, grown_of_below (Below.refl _ _)⟩
 · rw [if_neg hf0] at hr
   obtain rfl : f = 0 := by omega
   obtain ⟨i1, i2, _⟩ := thereB_bounds (fileE_zero hf).1
   clear hf hf0
   by_cases hz : 2304 < size
   · rw [if_pos hz] at hr
     injection hr with e1 e2
     subst e1
     subst e2
     go_enter Tryz.func64, Tryz.ntmps64
     go_wp2_with (first | (go_at_call 115; (with_reducible refine (t_file P G t ino _ HF.out _ h h0).mono ?_); rintro e w' ⟨rfl, rfl⟩))
     go_ret
     exact ⟨ret_i64 rfl, h, grown_of_below (Below.refl _ _)⟩
   · rw [if_neg hz] at hr
     obtain ⟨n, rfl⟩ : ∃ n : Nat, size = n := ⟨size.toNat, by omega⟩
     rw [Int.toNat_natCast] at hr
     have hsm := h.small
     obtain ⟨c, hc1, hc2, hc⟩ := h.cell0
     unfold maxLen at hc2
     obtain ⟨_, _, g2, _⟩ := h.get (h.idx i1 i2)
     have hds' : (nd t (ino.toNat - 1)).data.size ≤ 1000000 := by show (ndAt t ino).data.size ≤ _; omega
     have hn : n ≤ 1000000 := by omega
     clear hds
     injection hr with e1 e2
     subst e1
     subst e2
     go_enter Tryz.func64, Tryz.ntmps64
     go_wp2_with (first | (go_at_call 115; (with_reducible refine (t_file P G t ino _ HF.out _ h h0).mono ?_); rintro e w' ⟨rfl, rfl⟩) | (go_at_call 123; refine (t_long (nd t (ino.toNat - 1)).data n _ hds' hn).mono ?_; rintro e w2 ⟨rfl, hb2⟩; have HB2 := Lib.hid hb2; have HT2 := Lib.hid (h.below hb2); clear hb2) | (go_at_call 122; refine (t_put P G t ino _ w2 HT2.out i1 i2).mono ?_; rintro e w3 ⟨rfl, ht3, hg3⟩; have HT3 := Lib.hid ht3; have HG3 := Lib.hid (grown_trans (grown_of_below HB2.out) hg3); clear ht3 hg3))
     go_ret
     exact ⟨ret_i64 rfl, HT3.out, HG3.out⟩
end Go.Proofs.YtogljgiefmfafaaGreat.D
namespace Go.Proofs.YtogljgiefmfafaaGreat.D
open Go.RowKit
def writeS (s : ByteArray) (p : Nat) (d : ByteArray) : ByteArray :=
 (longS s (max s.size (p * 64 + d.size))).extract 0 (p * 64) ++ d ++ (longS s (max s.size (p * 64 + d.size))).extract (p * 64 + d.size) (max s.size (p * 64 + d.size))
def writeR (t : Tr) (ino page : Int) (d : ByteArray) : Int × Tr :=
 if fileE t ino ≠ 0 then (fileE t ino, t) else if page < 0 ∨ 36 ≤ page ∨ d.size < 1 ∨ 64 < d.size then (2, t)
 else (0, setNd t ino { ndAt t ino with data := writeS (ndAt t ino).data page.toNat d })
set_option maxRecDepth 100000 in
set_option maxHeartbeats 4000000 in
theorem t_write (P G : Nat) (t : Tr) (ino page : Int) (d : ByteArray) (w : World) (h : TreeAt w P G t) (h0 : 0 ≤ ino) (hd : d.size ≤ maxLen) (hds : (ndAt t ino).data.size ≤ 100000) (r : Int) (t' : Tr) (hr : writeR t ino page d = (r, t')) :
  Calls Tryz.prog 65 #[.pointer (some ⟨P, 0, none⟩), .int .u32 ino, .int .i64 page, .string d] w fun e w' => e = .returned (.int .i64 r) ∧ TreeAt w' P G t' ∧ w.grownBy w' (some G) := by
 unfold maxLen at hd
 unfold writeR at hr
 obtain ⟨f, hf⟩ : ∃ f, fileE t ino = f := ⟨_, rfl⟩
 rw [hf] at hr
 have HF := Lib.hid hf
 by_cases hf0 : f ≠ 0
 · rw [if_pos hf0] at hr
   have hne : (f != 0) = true := by simpa using hf0
   clear hf hf0
   injection hr with e1 e2
   subst e1
   subst e2
   go_enter Tryz.func65, Tryz.ntmps65
   go_wp2_with (first | (go_at_call 115; (with_reducible refine (t_file P G t ino _ HF.out _ h h0).mono ?_); rintro e w' ⟨rfl, rfl⟩))
   go_ret
   exact ⟨ret_i64 rfl, h, grown_of_below (Below.refl _ _)⟩
 · rw [if_neg hf0] at hr
   obtain rfl : f = 0 := by omega
   obtain ⟨i1, i2, _⟩ := thereB_bounds (fileE_zero hf).1
   clear hf hf0
   by_cases hp0 : page < 0
   · rw [if_pos (.inl hp0)] at hr
     injection hr with e1 e2
     subst e1
     subst e2
     go_enter Tryz.func65, Tryz.ntmps65
     go_wp2_with (first | (go_at_call 115; (with_reducible refine (t_file P G t ino _ HF.out _ h h0).mono ?_); rintro e w' ⟨rfl, rfl⟩))
     go_ret
     exact ⟨ret_i64 rfl, h, grown_of_below (Below.refl _ _)⟩
   · by_cases hp1 : 36 ≤ page
     · rw [if_pos (.inr (.inl hp1))] at hr
       injection hr with e1 e2
       subst e1
       subst e2
       go_enter Tryz.func65, Tryz.ntmps65
       go_wp2_with (first | (go_at_call 115; (with_reducible refine (t_file P G t ino _ HF.out _ h h0).mono ?_); rintro e w' ⟨rfl, rfl⟩))
       go_ret
       exact ⟨ret_i64 rfl, h, grown_of_below (Below.refl _ _)⟩
     · by_cases hd0 : d.size < 1
       · rw [if_pos (.inr (.inr (.inl hd0)))] at hr
         injection hr with e1 e2
         subst e1
         subst e2
         go_enter Tryz.func65, Tryz.ntmps65
         go_wp2_with (first | (go_at_call 115; (with_reducible refine (t_file P G t ino _ HF.out _ h h0).mono ?_); rintro e w' ⟨rfl, rfl⟩))
         go_ret
         exact ⟨ret_i64 rfl, h, grown_of_below (Below.refl _ _)⟩
       · by_cases hd1 : 64 < d.size
         · rw [if_pos (.inr (.inr (.inr hd1)))] at hr
           injection hr with e1 e2
           subst e1
           subst e2
           go_enter Tryz.func65, Tryz.ntmps65
           go_wp2_with (first | (go_at_call 115; (with_reducible refine (t_file P G t ino _ HF.out _ h h0).mono ?_); rintro e w' ⟨rfl, rfl⟩))
           go_ret
           exact ⟨ret_i64 rfl, h, grown_of_below (Below.refl _ _)⟩
         · rw [if_neg (by omega)] at hr
           obtain ⟨p, rfl⟩ : ∃ p : Nat, page = p := ⟨page.toNat, by omega⟩
           rw [Int.toNat_natCast] at hr
           have hsm := h.small
           obtain ⟨c, hc1, hc2, hc⟩ := h.cell0
           unfold maxLen at hc2
           obtain ⟨_, _, g2, _⟩ := h.get (h.idx i1 i2)
           have hds' : (nd t (ino.toNat - 1)).data.size ≤ 1000000 := by show (ndAt t ino).data.size ≤ _; omega
           injection hr with e1 e2
           subst e1
           subst e2
           have ht := h
           have Hst : Hid ((nd t (ino.toNat - 1)).data = (ndAt t ino).data) := rfl
           clear hds
           obtain ⟨n, hnm⟩ : ∃ n, max (nd t (ino.toNat - 1)).data.size (p * 64 + d.size) = n := ⟨_, rfl⟩
           obtain ⟨u, hu⟩ : ∃ u, longS (nd t (ino.toNat - 1)).data n = u := ⟨_, rfl⟩
           have husz : u.size = n := by rw [← hu]; exact longS_size _ _
           have HFin : Hid (u.extract 0 ((p : Int) * 64).toNat ++ d ++ u.extract ((p : Int) * 64 + (d.size : Int)).toNat u.size = writeS (ndAt t ino).data p d) := by
            show _ = _
            rw [show ((p : Int) * 64).toNat = p * 64 by omega, show ((p : Int) * 64 + (d.size : Int)).toNat = p * 64 + d.size by omega]
            unfold writeS
            rw [show (ndAt t ino).data = (nd t (ino.toNat - 1)).data from rfl, hnm, hu, husz]
           have hn6 : n ≤ 1000000 := by omega
           have q1 : (p : Int) * 64 ≤ (u.size : Int) := by omega
           have q2 : (p : Int) * 64 + (d.size : Int) ≤ (u.size : Int) := by omega
           have q3 : u.size ≤ 1000000 := by omega
           have q4 : (0 : Int) ≤ (p : Int) * 64 := by omega
           have q5 : (0 : Int) ≤ (p : Int) * 64 + (d.size : Int) := by omega
           have z1 : (u.extract 0 (p * 64)).size ≤ 1000000 := by rw [ByteArray.size_extract]; omega
           have z2 : (u.extract 0 (p * 64) ++ d).size ≤ 2000000 := by rw [ByteArray.size_append]; omega
           have z3 : (u.extract (p * 64 + d.size) u.size).size ≤ 1000000 := by rw [ByteArray.size_extract]; omega
           have z4 : (u.extract 0 (p * 64)).size + d.size ≤ 9223372036854775807 := by omega
           have z5 : (u.extract 0 (p * 64) ++ d).size + (u.extract (p * 64 + d.size) u.size).size ≤ 9223372036854775807 := by omega
           have z6 : min (p * 64) u.size + d.size ≤ 9223372036854775807 := by omega
           have z7 : min (p * 64) u.size + d.size + (u.size - (p * 64 + d.size)) ≤ 9223372036854775807 := by omega
           have HU := Lib.hid hu
           by_cases hm : ((nd t (ino.toNat - 1)).data.size : Int) < (p : Int) * 64 + (d.size : Int)
           · have hx : (p : Int) * 64 + (d.size : Int) = (n : Nat) := by omega
             have HX := Lib.hid hx
             clear hx hu husz hnm
             go_enter Tryz.func65, Tryz.ntmps65
             go_wp2_with (first | (go_at_call 115; (with_reducible refine (t_file P G t ino _ HF.out _ h h0).mono ?_); rintro e w' ⟨rfl, rfl⟩) | (go_at_call 123; refine (t_longI (nd t (ino.toNat - 1)).data n _ HX.out u HU.out _ hds' hn6).mono ?_; rintro e w2 ⟨rfl, hb2⟩; have HB2 := Lib.hid hb2; have HT2 := Lib.hid (ht.below hb2); clear hb2))
             go_still_tail 11, (by kernel_rfl)
             refine wpStill_step (fun K hK => ?_)
             go_simp
             rw [if_neg (by omega)]
             refine ⟨rfl, hK _ ?_⟩
             clear hK K
             repeat still_step
             refine wpStill_step (fun K hK => ?_)
             go_simp
             rw [if_neg (by omega)]
             refine ⟨rfl, hK _ ?_⟩
             clear hK K
             repeat still_step
             refine wpStill_nil ?_
             change wpList _ _ _ _ _ w2.drew
             go_wp2_with (first | (go_at_call 122; refine (t_put P G t ino _ w2.drew HT2.out.drew i1 i2).mono ?_; rintro e w3 ⟨rfl, ht3, hg3⟩; have HT3 := Lib.hid ht3; have HG3 := Lib.hid (grown_trans (grown_of_below HB2.out) (grown_undrew hg3)); clear ht3 hg3))
             go_ret
             exact ⟨ret_i64 rfl, by rw [← HFin.out]; exact HT3.out, HG3.out⟩
           · have hx : ((nd t (ino.toNat - 1)).data.size : Int) = (n : Nat) := by omega
             have HX := Lib.hid hx
             clear hx hu husz hnm
             go_enter Tryz.func65, Tryz.ntmps65
             go_wp2_with (first | (go_at_call 115; (with_reducible refine (t_file P G t ino _ HF.out _ h h0).mono ?_); rintro e w' ⟨rfl, rfl⟩) | (go_at_call 123; refine (t_longI (nd t (ino.toNat - 1)).data n _ HX.out u HU.out _ hds' hn6).mono ?_; rintro e w2 ⟨rfl, hb2⟩; have HB2 := Lib.hid hb2; have HT2 := Lib.hid (ht.below hb2); clear hb2))
             go_still_tail 11, (by kernel_rfl)
             refine wpStill_step (fun K hK => ?_)
             go_simp
             rw [if_neg (by omega)]
             refine ⟨rfl, hK _ ?_⟩
             clear hK K
             repeat still_step
             refine wpStill_step (fun K hK => ?_)
             go_simp
             rw [if_neg (by omega)]
             refine ⟨rfl, hK _ ?_⟩
             clear hK K
             repeat still_step
             refine wpStill_nil ?_
             change wpList _ _ _ _ _ w2.drew
             go_wp2_with (first | (go_at_call 122; refine (t_put P G t ino _ w2.drew HT2.out.drew i1 i2).mono ?_; rintro e w3 ⟨rfl, ht3, hg3⟩; have HT3 := Lib.hid ht3; have HG3 := Lib.hid (grown_trans (grown_of_below HB2.out) (grown_undrew hg3)); clear ht3 hg3))
             go_ret
             exact ⟨ret_i64 rfl, by rw [← HFin.out]; exact HT3.out, HG3.out⟩
end Go.Proofs.YtogljgiefmfafaaGreat.D
namespace Go.Proofs.YtogljgiefmfafaaGreat.D
open Go.RowKit
def dropT (t : Tr) (ino : Int) : Tr := setNd t ino { ndAt t ino with held := (ndAt t ino).held - 1 }
def dropR (t : Tr) (ino : Int) : Int × Tr :=
 if thereB t ino = false then (3, t) else if ((ndAt t ino).held == 0) = true then (3, t) else (0, freeT (dropT t ino) ino)
set_option maxRecDepth 100000 in
set_option maxHeartbeats 4000000 in
theorem t_drop (P G : Nat) (t : Tr) (ino : Int) (w : World) (h : TreeAt w P G t) (h0 : 0 ≤ ino) (hh : 0 ≤ (ndAt t ino).held ∧ (ndAt t ino).held ≤ 1000000) (r : Int) (t' : Tr) (hr : dropR t ino = (r, t')) :
  Calls Tryz.prog 67 #[.pointer (some ⟨P, 0, none⟩), .int .u32 ino] w fun e w' => e = .returned (.int .i64 r) ∧ TreeAt w' P G t' ∧ w.grownBy w' (some G) := by
 unfold dropR at hr
 cases ht : thereB t ino with
 | false =>
  rw [if_pos ht] at hr
  have HT := Lib.hid ht
  clear ht hh
  injection hr with e1 e2
  subst e1
  subst e2
  go_enter Tryz.func67, Tryz.ntmps67
  go_wp2_with (first | (go_at_call 113; (with_reducible refine (t_there P G t ino _ HT.out _ h h0).mono ?_); rintro e w' ⟨rfl, rfl⟩))
  go_ret
  exact ⟨ret_i64 rfl, h, grown_of_below (Below.refl _ _)⟩
 | true =>
  rw [if_neg (by rw [ht]; simp)] at hr
  obtain ⟨h1, h2, _⟩ := thereB_bounds ht
  have hs := h.small
  obtain ⟨c, hc1, hc2, hc⟩ := h.cell0
  obtain ⟨g0, ⟨v, g1, hv1⟩, g2, g3⟩ := h.get (h.idx h1 h2)
  obtain ⟨A1, c1, rfl, hcl, hcm, hread⟩ := hv1.get
  have HV := Lib.hid hv1
  unfold maxLen at hc2
  have qc := fun o => alloc_cell h.ltP hc o
  have q0 := fun o => alloc_cell h.ltG g0 o
  have q1 := fun o => alloc_cell h.ltG g1 o
  have q2 := fun o => alloc_cell h.ltG g2 o
  have q3 := fun o => alloc_cell h.ltG g3 o
  have f0 := fun o => alloc_frozen h.ltG (h.frozenG ((ino.toNat - 1) * 4)) o
  have f1 := fun o => alloc_frozen h.ltG (h.frozenG ((ino.toNat - 1) * 4 + 1)) o
  have f2 := fun o => alloc_frozen h.ltG (h.frozenG ((ino.toNat - 1) * 4 + 2)) o
  have f3 := fun o => alloc_frozen h.ltG (h.frozenG ((ino.toNat - 1) * 4 + 3)) o
  have hh' : 0 ≤ (nd t (ino.toNat - 1)).held ∧ (nd t (ino.toNat - 1)).held ≤ 1000000 := hh
  have hnd : ndAt t ino = nd t (ino.toNat - 1) := rfl
  rw [hnd] at hr
  clear hread hv1 hh hnd
  have HT := Lib.hid ht
  clear ht
  cases hz : ((nd t (ino.toNat - 1)).held == 0) with
  | true =>
   rw [if_pos hz] at hr
   clear HV
   injection hr with e1 e2
   subst e1
   subst e2
   go_enter Tryz.func67, Tryz.ntmps67
   go_wp2_with (first | (go_at_call 113; (with_reducible refine (t_there P G t ino _ HT.out _ h h0).mono ?_); rintro e w' ⟨rfl, rfl⟩))
   go_ret
   exact ⟨ret_i64 rfl, h, grown_of_below (Below.refl _ _)⟩
  | false =>
   rw [if_neg (by rw [hz]; simp)] at hr
   injection hr with e1 e2
   subst e1
   subst e2
   go_enter Tryz.func67, Tryz.ntmps67
   go_wp2_with (first | (go_at_call 113; (with_reducible refine (t_there P G t ino _ HT.out _ h h0).mono ?_); rintro e w' ⟨rfl, rfl⟩))
   go_region
   have HP := Lib.hid (put_done h h1 h2 (.cells #[.int .u8 (nd t (ino.toNat - 1)).kind, .slice A1 (nd t (ino.toNat - 1)).l.length c1, .string (nd t (ino.toNat - 1)).data, .int .i64 ((nd t (ino.toNat - 1)).held - 1)] 105) { ndAt t ino with held := (ndAt t ino).held - 1 } _ HV.out)
   go_wp2_with (first | (go_at_call 124; refine (t_free P G (dropT t ino) ino _ HP.out.1 h1 (by unfold dropT; rw [setNd_length]; exact h2)).mono ?_; rintro e w4 ⟨rfl, ht4, hg4⟩; have HT4 := Lib.hid ht4; have HG4 := Lib.hid (grown_trans HP.out.2 hg4); clear ht4 hg4))
   go_ret
   exact ⟨ret_i64 rfl, HT4.out, HG4.out⟩
def newT (n : Nat) : Tr := setNd (List.replicate n noNd) 1 { noNd with kind := 2 }
def zNode : Array Value := #[.int .u8 0, .slice none 0 0, .string ByteArray.empty, .int .i64 0]
theorem infoN : ∃ i, Tryz.prog.info? 105 = some i ∧ i.zero = some (.agg zNode) ∧ i.size = 4 ∧ i.bytes ≤ 4096 := by
 have h : (Tryz.prog.info? 105).map (fun i => (i.zero, i.size, i.bytes ≤ 4096)) = some (some (.agg zNode), 4, True) := by
  have : (Tryz.prog.info? 105).map (fun i => (i.zero, i.size, decide (i.bytes ≤ 4096))) = some (some (.agg zNode), 4, true) := by kernel_rfl
  cases hi : Tryz.prog.info? 105 with
  | none => rw [hi] at this; cases this
  | some i =>
   rw [hi] at this
   simp only [Option.map_some, Option.some.injEq, Prod.mk.injEq, decide_eq_true_eq] at this ⊢
   exact ⟨this.1, this.2.1, eq_true this.2.2⟩
 cases hi : Tryz.prog.info? 105 with
 | none => rw [hi] at h; cases h
 | some i =>
  rw [hi] at h
  simp only [Option.map_some, Option.some.injEq, Prod.mk.injEq] at h
  exact ⟨i, rfl, h.1, h.2.1, of_eq_true h.2.2⟩
theorem zNode_get (n k j : Nat) (hk : k < n) (hj : j < 4) : (madeCells zNode (n * 4))[k * 4 + j]? = some (zNode[j]'hj) := by
 unfold madeCells
 rw [Array.getElem?_map, Array.getElem?_range, if_pos (by omega)]
 have : (k * 4 + j) % zNode.size = j := by show (k * 4 + j) % 4 = j; omega
 simp only [Option.map_some, this, Option.some.injEq]
 exact getElem!_pos zNode j hj
theorem below_putW (w : World) (G k : Nat) (x : Nd) (v : Value) : Below G w (putW w G k x v) :=
 ((((Below.refl G w).setCell (p := ⟨G, _, none⟩) (Nat.le_refl _) _).setCell (p := ⟨G, _, none⟩) (Nat.le_refl _) _).setCell (p := ⟨G, _, none⟩) (Nat.le_refl _) _).setCell (p := ⟨G, _, none⟩) (Nat.le_refl _) _
theorem new_tree (w : World) (n : Nat) (h1 : 1 ≤ n) (h2 : n ≤ 4096) :
  TreeAt ((w.alloc (.cells (madeCells zNode (n * 4)) 105)).alloc (.cells #[.slice (some ⟨w.heap.size, 0, none⟩) n n] 103)) (w.heap.size + 1) w.heap.size (List.replicate n noNd) := by
 refine ⟨⟨n, by simp, by unfold maxLen; omega, ?_⟩, ⟨_, (Below.heap_alloc _ _ _ (by simp)).trans (World.alloc_heap_new w _), by rw [size_madeCells]; simp, fun k x hk => ?_⟩, by simpa using h2⟩
 · have := World.alloc_heap_new (w.alloc (.cells (madeCells zNode (n * 4)) 105)) (.cells #[.slice (some ⟨w.heap.size, 0, none⟩) n n] 103)
   rw [World.size_alloc] at this
   simpa using this
 · rw [List.getElem?_replicate] at hk
   split at hk
   · rename_i hkn
     cases hk
     exact ⟨zNode_get n k 0 hkn (by omega), ⟨_, zNode_get n k 1 hkn (by omega), World.ownsRow_nil _ _ _ _⟩, zNode_get n k 2 hkn (by omega), zNode_get n k 3 hkn (by omega)⟩
   · cases hk
set_option maxRecDepth 100000 in
set_option maxHeartbeats 4000000 in
theorem t_new (n : Nat) (h1 : 1 ≤ n) (h2 : n ≤ 4096) (w : World) : Calls Tryz.prog 24 #[.int .i64 (n : Nat)] w fun e w' => ∃ P G, e = .returned (.pointer (some ⟨P, 0, none⟩)) ∧ TreeAt w' P G (newT n) ∧ Below w.heap.size w w' ∧ w.heap.size ≤ P ∧ w.heap.size ≤ G := by
 have hmk : ∀ W : World, (Instr.makeSlice 101 (.int .i64 (n : Nat)) (.int .i64 (n : Nat))).run Tryz.prog W = .ok (.slice (some ⟨W.heap.size, 0, none⟩) n n) (W.alloc (.cells (madeCells zNode (n * 4)) 105)) := fun W => by
  obtain ⟨i0, hi, hz0, hz1, hz2⟩ := infoN
  have hb : (i0.bytes : Int) * (n : Int) ≤ 281474976710656 := by
   have : i0.bytes * n ≤ 4096 * 4096 := Nat.mul_le_mul hz2 h2
   have h3 : ((i0.bytes * n : Nat) : Int) ≤ ((4096 * 4096 : Nat) : Int) := Int.ofNat_le.2 this
   rw [Int.natCast_mul] at h3
   omega
  have := run_make (P := Tryz.prog) W 101 105 i0 _ Tryz.underlying101 hi hz0 .i64 .i64 (n : Nat) (n : Nat) (by omega) (by omega) hb (by omega)
  rw [hz1] at this
  simpa [Value.cells] using this
 have HT := Lib.hid (new_tree w n h1 h2)
 have hl : 0 < (List.replicate n noNd).length := by simp; omega
 have k0 : (madeCells zNode (n * 4))[0]? = some (.int .u8 0) := zNode_get n 0 0 (by omega) (by omega)
 have k1 : (madeCells zNode (n * 4))[1]? = some (.slice none 0 0) := zNode_get n 0 1 (by omega) (by omega)
 have k2 : (madeCells zNode (n * 4))[2]? = some (.string ByteArray.empty) := zNode_get n 0 2 (by omega) (by omega)
 have k3 : (madeCells zNode (n * 4))[3]? = some (.int .i64 0) := zNode_get n 0 3 (by omega) (by omega)
 have hn0 : (0 : Int) < (n : Int) := by omega
 go_enter Tryz.func24, Tryz.ntmps24
 go_wp2
 go_ret
 have e : putW ((w.alloc (.cells (madeCells zNode (n * 4)) 105)).alloc (.cells #[.slice (some ⟨w.heap.size, 0, none⟩) n n] 103)) w.heap.size 0 { noNd with kind := 2 } (.slice none 0 0) =
   (w.alloc (.cells (((((madeCells zNode (n * 4)).setIfInBounds 0 (.int .u8 2)).setIfInBounds 1 (.slice none 0 0)).setIfInBounds 2 (.string ⟨#[]⟩)).setIfInBounds 3 (.int .i64 0)) 105)).alloc (.cells #[.slice (some ⟨w.heap.size, 0, none⟩) n n] 103) := by
  unfold putW
  simp [go_sem, noNd]
  rfl
 have h1 := HT.out.put hl { noNd with kind := 2 } (.slice none 0 0) (World.ownsRow_nil _ _ _ _)
 have h2 := (((Below.refl _ w).alloc (Nat.le_refl _) _).alloc (by simp) _).trans (below_putW ((w.alloc (.cells (madeCells zNode (n * 4)) 105)).alloc (.cells #[.slice (some ⟨w.heap.size, 0, none⟩) n n] 103)) w.heap.size 0 { noNd with kind := 2 } (.slice none 0 0))
 rw [e] at h1 h2
 exact ⟨_, w.heap.size, rfl, h1, h2, by omega, by omega⟩
end Go.Proofs.YtogljgiefmfafaaGreat.D
namespace Go.Proofs.YtogljgiefmfafaaGreat.D
open Go.RowKit
theorem below_drew' {B : Nat} {a w : World} (h : Below B a w) : Below B a w.drew := ⟨h.os, h.tape, h.output, h.size, h.block⟩
def statV (ino kind links size : Int) : Value := .agg #[.int .u32 ino, .int .u8 kind, .int .i64 links, .int .u32 size]
set_option maxRecDepth 100000 in
set_option maxHeartbeats 4000000 in
theorem t_stat_no (P G : Nat) (t : Tr) (ino : Int) (w : World) (h : TreeAt w P G t) (h0 : 0 ≤ ino) (ht : thereB t ino = false) :
  Calls Tryz.prog 66 #[.pointer (some ⟨P, 0, none⟩), .int .u32 ino] w fun e w' => e = .returned (.tuple #[statV 0 0 0 0, .int .i64 3]) ∧ Below w.heap.size w w' := by
 have HT := Lib.hid ht
 clear ht
 go_enter Tryz.func66, Tryz.ntmps66
 go_wp2_with (first | (go_at_call 113; (with_reducible refine (t_there P G t ino _ HT.out _ (h.alloc _) h0).mono ?_); rintro e w' ⟨rfl, rfl⟩))
 exact bodyPost_ret (v := .tuple #[statV 0 0 0 0, .int .i64 3]) (by simp [results, Tryz.f66, go_sem]; rfl) rfl ⟨rfl, (Below.refl _ _).alloc (Nat.le_refl _) _⟩
set_option maxRecDepth 100000 in
set_option maxHeartbeats 4000000 in
theorem t_stat_ok (P G : Nat) (t : Tr) (ino : Int) (v : Int) (w : World) (h : TreeAt w P G t) (ht : thereB t ino = true) (hv : linksV t ino = v) (hsl : Small t) (hds : (ndAt t ino).data.size ≤ 100000) :
  Calls Tryz.prog 66 #[.pointer (some ⟨P, 0, none⟩), .int .u32 ino] w fun e w' => e = .returned (.tuple #[statV ino (ndAt t ino).kind v ((ndAt t ino).data.size : Nat), .int .i64 0]) ∧ Below w.heap.size w w' := by
 obtain ⟨h1, h2, _⟩ := thereB_bounds ht
 have h0 : 0 ≤ ino := by omega
 have HT := Lib.hid ht
 have HV := Lib.hid hv
 clear ht hv
 have hs := h.small
 obtain ⟨c, hc1, hc2, hc⟩ := h.cell0
 obtain ⟨g0, ⟨v1, g1, hv1⟩, g2, g3⟩ := h.get (h.idx h1 h2)
 obtain ⟨A1, c1, rfl, hcl, hcm, hread⟩ := hv1.get
 unfold maxLen at hc2
 have qc := fun o => alloc_cell h.ltP hc o
 have q0 := fun o => alloc_cell h.ltG g0 o
 have q1 := fun o => alloc_cell h.ltG g1 o
 have q2 := fun o => alloc_cell h.ltG g2 o
 have q3 := fun o => alloc_cell h.ltG g3 o
 have hds' : (nd t (ino.toNat - 1)).data.size ≤ 100000 := hds
 have hwr : IntKind.u32.wrap ((nd t (ino.toNat - 1)).data.size : Int) = ((nd t (ino.toNat - 1)).data.size : Int) := IntWalk.u32_in _ (by omega)
 clear hread hv1 hds
 go_enter Tryz.func66, Tryz.ntmps66
 go_wp2_with (first | (go_at_call 113; (with_reducible refine (t_there P G t ino _ HT.out _ (h.alloc _) h0).mono ?_); rintro e w' ⟨rfl, rfl⟩))
 go_region_held3 (fun w' => w'.cell? ⟨w.heap.size + 1, 0, none⟩ = some (.int .u8 (nd t (ino.toNat - 1)).kind) ∧ w'.cell? ⟨w.heap.size + 1, 2, none⟩ = some (.string (nd t (ino.toNat - 1)).data)) (go_keep)
  (first | (go_at_call 117; refine (t_links P G t ino _ HV.out _ ((h.alloc _).alloc _).drew h1 h2 hsl).mono ?_; rintro e w' ⟨rfl, rfl⟩))
 go_wp2_with fail
 exact bodyPost_ret (v := .tuple #[statV ino (ndAt t ino).kind v ((ndAt t ino).data.size : Nat), .int .i64 0]) (by simp [results, Tryz.f66, go_sem]; rfl) rfl ⟨rfl, below_drew' (((Below.refl _ w).alloc (Nat.le_refl _) _).alloc (by simp) _)⟩
end Go.Proofs.YtogljgiefmfafaaGreat.D
namespace Go.Proofs.YtogljgiefmfafaaGreat.D
open Go.RowKit
def GoodK (t : Tr) : Prop := ∀ x ∈ t, ∀ e ∈ x.l, (ndAt t e.ino).kind ≠ 0
structure Fine (t : Tr) : Prop where
 small : Small t
 good : GoodE t
 there : GoodK t
 acc : ∀ x, Acc (Child t) x
 data : ∀ x ∈ t, x.data.size ≤ 100000
 held : ∀ x ∈ t, 0 ≤ x.held ∧ x.held ≤ 100000
end Go.Proofs.YtogljgiefmfafaaGreat.D
namespace Go.Proofs.YtogljgiefmfafaaGreat.D
open Go.RowKit
def holdR (t : Tr) (ino : Int) : Int × Tr := if fileE t ino ≠ 0 then (fileE t ino, t) else (0, setNd t ino { ndAt t ino with held := (ndAt t ino).held + 1 })
theorem writeS_size (s : ByteArray) (p : Nat) (d : ByteArray) : (writeS s p d).size = max s.size (p * 64 + d.size) := by
 unfold writeS
 rw [ByteArray.size_append, ByteArray.size_append, ByteArray.size_extract, ByteArray.size_extract, longS_size]
 omega
theorem writeR_data {t : Tr} {ino page : Int} {d : ByteArray} {t1 : Tr} (h : writeR t ino page d = (0, t1)) (hds : (ndAt t ino).data.size ≤ 100000) : thereB t ino = true ∧ t1.length = t.length ∧ (ndAt t1 ino).data.size ≤ 100000 := by
 unfold writeR at h
 by_cases hf : fileE t ino ≠ 0
 · rw [if_pos hf] at h; injection h with h _; exact absurd h hf
 · rw [if_neg hf] at h
   by_cases hp : page < 0 ∨ 36 ≤ page ∨ d.size < 1 ∨ 64 < d.size
   · rw [if_pos hp] at h; injection h with h _; omega
   · rw [if_neg hp] at h
     injection h with _ h
     subst h
     have hth := (fileE_zero (by omega : fileE t ino = 0)).1
     obtain ⟨b1, b2, _⟩ := thereB_bounds hth
     refine ⟨hth, setNd_length _ _ _, ?_⟩
     rw [ndAt_set_self _ b1 b2]
     show (writeS _ _ _).size ≤ _
     rw [writeS_size]; omega
theorem made_at {t : Tr} {dir : Int} {s : ByteArray} {kind ino : Int} (h1 : 1 ≤ dir) (_h2 : dir ≤ t.length) (i1 : 1 ≤ ino) (i2 : ino ≤ t.length) (hne : dir ≠ ino) : ndAt (made t dir s kind ino) ino = { noNd with kind := kind } := by
 unfold made
 rw [ndAt_set_ne _ h1 i1 hne, ndAt_set_self _ i1 i2]
theorem make_zero {t : Tr} {dir : Int} {s : ByteArray} {kind ino : Int} {t1 : Tr} (h : makeR t dir s kind ino = (0, t1)) : t1 = made t dir s kind ino ∧ nameB s = true ∧ (kind = 1 ∨ kind = 2) ∧ 1 ≤ ino ∧ ino ≤ t.length ∧ dirE t dir s = 0 ∧ place (ndAt t dir).l s = none ∧ thereB t ino = false := by
 unfold makeR at h
 by_cases hb : nameB s = false ∨ (kind ≠ 1 ∧ kind ≠ 2) ∨ ino < 1 ∨ (t.length : Int) < ino
 · rw [if_pos hb] at h; injection h with h _; omega
 · rw [if_neg hb] at h
   by_cases hd : dirE t dir s ≠ 0
   · rw [if_pos hd] at h; injection h with h _; exact absurd h hd
   · rw [if_neg hd] at h
     by_cases hh : (place (ndAt t dir).l s).isSome = true ∨ thereB t ino = true
     · rw [if_pos hh] at h; injection h with h _; omega
     · rw [if_neg hh] at h
       injection h with _ h
       refine ⟨h.symm, ?_, ?_, ?_, ?_, by omega, ?_, ?_⟩
       · cases hn : nameB s with
         | true => rfl
         | false => exact absurd (.inl hn) hb
       · by_cases k1 : kind = 1
         · exact .inl k1
         · by_cases k2 : kind = 2
           · exact .inr k2
           · exact absurd (.inr (.inl ⟨k1, k2⟩)) hb
       · by_cases hi : ino < 1
         · exact absurd (.inr (.inr (.inl hi))) hb
         · omega
       · by_cases hi : (t.length : Int) < ino
         · exact absurd (.inr (.inr (.inr hi))) hb
         · omega
       · cases hp : place (ndAt t dir).l s with
         | none => rfl
         | some k => exact absurd (.inl (by rw [hp]; rfl)) hh
       · cases hnt : thereB t ino with
         | false => rfl
         | true => exact absurd (.inr hnt) hh
end Go.Proofs.YtogljgiefmfafaaGreat.D
namespace Go.Proofs.YtogljgiefmfafaaGreat.D
open Go.RowKit
theorem ndAt_set {t : Tr} {a : Int} (y : Nd) (ha : a.toNat - 1 < t.length) (p : Int) : ndAt (setNd t a y) p = if p.toNat - 1 = a.toNat - 1 then y else ndAt t p := by
 unfold ndAt setNd nd
 rw [List.getD_eq_getElem?_getD, List.getElem?_set]
 by_cases h : a.toNat - 1 = p.toNat - 1
 · rw [if_pos h, if_pos (by omega), if_pos h.symm]; rfl
 · rw [if_neg h, if_neg (fun e => h e.symm), List.getD_eq_getElem?_getD]
theorem ndAt_same {t : Tr} {a p : Int} (h : p.toNat - 1 = a.toNat - 1) : ndAt t p = ndAt t a := by unfold ndAt; rw [h]
theorem mem_set {t : Tr} {a : Int} {y x : Nd} (h : x ∈ setNd t a y) : x ∈ t ∨ x = y := by
 unfold setNd at h; exact List.mem_or_eq_of_mem_set h
theorem ndAt_or {t : Tr} (p : Int) : ndAt t p ∈ t ∨ ndAt t p = noNd := by
 unfold ndAt nd
 rw [List.getD_eq_getElem?_getD]
 cases h : t[p.toNat - 1]? with
 | none => exact .inr rfl
 | some x => exact .inl (List.mem_of_getElem? h)
def Sub (t' t : Tr) : Prop := ∀ p, (∀ e ∈ (ndAt t' p).l, e ∈ (ndAt t p).l) ∧ ((ndAt t' p).kind = 2 → (ndAt t p).kind = 2)
theorem Sub.refl (t : Tr) : Sub t t := fun _ => ⟨fun _ h => h, fun h => h⟩
theorem Sub.trans {a b c : Tr} (h : Sub a b) (k : Sub b c) : Sub a c := fun p => ⟨fun e he => (k p).1 e ((h p).1 e he), fun hk => (k p).2 ((h p).2 hk)⟩
theorem Sub.child {t' t : Tr} (h : Sub t' t) {c p : Int} (hc : Child t' c p) : Child t c p := by
 obtain ⟨e, he, hec, hk⟩ := hc
 exact ⟨e, (h p).1 e he, hec, (h c).2 hk⟩
theorem Sub.acc {t' t : Tr} (h : Sub t' t) (ha : ∀ x, Acc (Child t) x) : ∀ x, Acc (Child t') x := fun x => by
 have := ha x
 induction this with
 | intro x _ ih => exact ⟨x, fun c hc => ih c (h.child hc)⟩
theorem Sub.under {t' t : Tr} (h : Sub t' t) {d p : Int} (hu : Under t' d p) : Under t d p := by
 induction hu with
 | here => exact .here
 | step hc _ ih => exact .step (h.child hc) ih
theorem sub_set {t : Tr} {a : Int} {y : Nd} (ha : a.toNat - 1 < t.length) (hl : ∀ e ∈ y.l, e ∈ (ndAt t a).l) (hk : y.kind = 2 → (ndAt t a).kind = 2) : Sub (setNd t a y) t := fun p => by
 rw [ndAt_set y ha]
 split
 · rename_i h; rw [ndAt_same h]; exact ⟨hl, hk⟩
 · exact ⟨fun _ h => h, fun h => h⟩
structure Well (n s : Nat) (t : Tr) : Prop where
 len : t.length = n
 small : ∀ x ∈ t, x.l.length ≤ s
 good : GoodE t
 there : GoodK t
 acc : ∀ x, Acc (Child t) x
 data : ∀ x ∈ t, x.data.size ≤ 100000
 held : ∀ x ∈ t, 0 ≤ x.held ∧ x.held ≤ s
theorem Well.fine {n s : Nat} {t : Tr} (h : Well n s t) (hs : s ≤ 100000) : Fine t :=
 ⟨fun x hx => Nat.le_trans (h.small x hx) hs, h.good, h.there, h.acc, h.data, fun x hx => by have := h.held x hx; omega⟩
theorem Well.mono {n s s' : Nat} {t : Tr} (h : Well n s t) (hs : s ≤ s') : Well n s' t :=
 ⟨h.len, fun x hx => Nat.le_trans (h.small x hx) hs, h.good, h.there, h.acc, h.data, fun x hx => by have := h.held x hx; omega⟩
theorem Well.at_small {n s : Nat} {t : Tr} (h : Well n s t) (p : Int) : (ndAt t p).l.length ≤ s := by
 rcases ndAt_or (t := t) p with hm | hm
 · exact h.small _ hm
 · rw [hm]; exact Nat.zero_le _
theorem Well.at_good {n s : Nat} {t : Tr} (h : Well n s t) {p : Int} {e : Ent} (he : e ∈ (ndAt t p).l) : 1 ≤ e.ino ∧ e.ino ≤ t.length := by
 rcases ndAt_or (t := t) p with hm | hm
 · exact h.good _ hm e he
 · rw [hm] at he; cases he
theorem Well.at_there {n s : Nat} {t : Tr} (h : Well n s t) {p : Int} {e : Ent} (he : e ∈ (ndAt t p).l) : (ndAt t e.ino).kind ≠ 0 := by
 rcases ndAt_or (t := t) p with hm | hm
 · exact h.there _ hm e he
 · rw [hm] at he; cases he
theorem Well.at_data {n s : Nat} {t : Tr} (h : Well n s t) (p : Int) : (ndAt t p).data.size ≤ 100000 := by
 rcases ndAt_or (t := t) p with hm | hm
 · exact h.data _ hm
 · rw [hm]; simp [noNd]
theorem Well.at_held {n s : Nat} {t : Tr} (h : Well n s t) (p : Int) : 0 ≤ (ndAt t p).held ∧ (ndAt t p).held ≤ s := by
 rcases ndAt_or (t := t) p with hm | hm
 · exact h.held _ hm
 · rw [hm]; simp [noNd]
theorem Well.set {n s s' : Nat} {t : Tr} (h : Well n s t) {a : Int} {y : Nd} (a1 : 1 ≤ a) (a2 : a ≤ t.length) (hs : s ≤ s') (hk : y.kind = (ndAt t a).kind) (hl : ∀ e ∈ y.l, e ∈ (ndAt t a).l) (hlen : y.l.length ≤ s') (hd : y.data.size ≤ 100000) (hh : 0 ≤ y.held ∧ y.held ≤ s') :
  Well n s' (setNd t a y) := by
 have ha : a.toNat - 1 < t.length := by omega
 refine ⟨by rw [setNd_length]; exact h.len, fun x hx => ?_, fun x hx e he => ?_, fun x hx e he => ?_, (sub_set ha hl (fun hh => by rw [← hk]; exact hh)).acc h.acc, fun x hx => ?_, fun x hx => ?_⟩
 · rcases mem_set hx with hx | rfl
   · exact Nat.le_trans (h.small x hx) hs
   · exact hlen
 · rw [setNd_length]
   rcases mem_set hx with hx | rfl
   · exact h.good x hx e he
   · exact h.at_good (hl e he)
 · have h0 : (ndAt t e.ino).kind ≠ 0 := by
    rcases mem_set hx with hx | rfl
    · exact h.there x hx e he
    · exact h.at_there (hl e he)
   rw [ndAt_set y ha]
   split
   · rename_i hp; rw [hk, ← ndAt_same hp]; exact h0
   · exact h0
 · rcases mem_set hx with hx | rfl
   · exact h.data x hx
   · exact hd
 · rcases mem_set hx with hx | rfl
   · have := h.held x hx; omega
   · exact hh
theorem delAt_sub {l : List Ent} {k : Nat} {e : Ent} (h : e ∈ delAt l k) : e ∈ l := by
 unfold delAt at h
 rcases List.mem_append.1 h with h | h
 · exact List.mem_of_mem_take h
 · exact List.mem_of_mem_drop h
theorem delAt_le (l : List Ent) (k : Nat) : (delAt l k).length ≤ l.length := by unfold delAt; simp; omega
theorem Well.del {n s : Nat} {t : Tr} (h : Well n s t) {dir : Int} (b1 : 1 ≤ dir) (b2 : dir ≤ t.length) (q : ByteArray) : Well n s (delS t dir q) ∧ Sub (delS t dir q) t ∧ ∀ p, (ndAt (delS t dir q) p).kind = (ndAt t p).kind := by
 unfold delS
 cases place (ndAt t dir).l q with
 | none => exact ⟨h, Sub.refl t, fun _ => rfl⟩
 | some k =>
  simp only []
  have ha : dir.toNat - 1 < t.length := by omega
  refine ⟨h.set b1 b2 (Nat.le_refl _) rfl (fun e he => delAt_sub he) (Nat.le_trans (delAt_le _ _) (h.at_small dir)) (h.at_data dir) (h.at_held dir), sub_set ha (fun e he => delAt_sub he) (fun hh => hh), fun p => ?_⟩
  rw [ndAt_set _ ha]
  split
  · rename_i hp; rw [ndAt_same hp]
  · rfl
theorem Well.free {n s : Nat} {t : Tr} (h : Well n s t) {ino : Int} (i1 : 1 ≤ ino) (i2 : ino ≤ t.length) : Well n s (freeT t ino) ∧ Sub (freeT t ino) t ∧ ∀ p, 1 ≤ p → p ≠ ino → ndAt (freeT t ino) p = ndAt t p := by
 unfold freeT
 by_cases hc : ino ≠ 1 ∧ namedB t ino = false ∧ (ndAt t ino).held = 0
 · rw [if_pos hc]
   have ha : ino.toNat - 1 < t.length := by omega
   have hsub : Sub (setNd t ino noNd) t := sub_set ha (fun e he => by cases he) (fun hh => by cases hh)
   refine ⟨⟨by rw [setNd_length]; exact h.len, fun x hx => ?_, fun x hx e he => ?_, fun x hx e he => ?_, hsub.acc h.acc, fun x hx => ?_, fun x hx => ?_⟩, hsub, fun p p1 hp => ?_⟩
   · rcases mem_set hx with hx | rfl
     · exact h.small x hx
     · exact Nat.zero_le _
   · rw [setNd_length]
     rcases mem_set hx with hx | rfl
     · exact h.good x hx e he
     · cases he
   · rcases mem_set hx with hx | rfl
     · rw [ndAt_set _ ha]
       split
       · rename_i hp
         obtain ⟨g1, _⟩ := h.good x hx e he
         exfalso
         have : e.ino = ino := by omega
         have hn : namedB t ino = true := by
          unfold namedB
          rw [List.any_eq_true]
          exact ⟨x, hx, by rw [List.any_eq_true]; exact ⟨e, he, by simpa using this⟩⟩
         rw [hc.2.1] at hn; cases hn
       · exact h.there x hx e he
     · cases he
   · rcases mem_set hx with hx | rfl
     · exact h.data x hx
     · simp [noNd]
   · rcases mem_set hx with hx | rfl
     · exact h.held x hx
     · simp [noNd]
   · rw [ndAt_set _ ha, if_neg (by omega)]
 · rw [if_neg hc]
   exact ⟨h, Sub.refl t, fun _ _ _ => rfl⟩
theorem Under.snoc {t : Tr} {x a c : Int} (h : Under t x a) (hc : Child t c x) : Under t c a := by
 induction h with
 | here => exact .step hc .here
 | step hd _ ih => exact .step hd ih
theorem Under.pos {n s : Nat} {t : Tr} (h : Well n s t) {d a : Int} (hu : Under t d a) : 1 ≤ a → 1 ≤ d := by
 induction hu with
 | here => exact id
 | step hc _ ih =>
  intro _
  obtain ⟨e, he, rfl, _⟩ := hc
  exact ih (h.at_good he).1
theorem acc_add {t : Tr} {R' : Int → Int → Prop} {a : Int} {B : Int → Prop} (hacc : ∀ x, Acc (Child t) x) (hR : ∀ c p, R' c p → Child t c p ∨ (c = a ∧ B p)) (hno : ∀ b, B b → ¬ Under t b a) : ∀ x, Acc R' x := by
 have h1 : ∀ x, Acc (Child t) x → Under t x a → Acc R' x := by
  intro x hx
  induction hx with
  | intro x _ ih =>
   intro hu
   refine ⟨x, fun c hc => ?_⟩
   rcases hR c x hc with hc | ⟨_, hb⟩
   · exact ih c hc (hu.snoc hc)
   · exact absurd hu (hno x hb)
 intro x
 have hx := hacc x
 induction hx with
 | intro x _ ih =>
  refine ⟨x, fun c hc => ?_⟩
  rcases hR c x hc with hc | ⟨rfl, _⟩
  · exact ih c hc
  · exact h1 c (hacc c) .here
theorem mem_addL {l : List Ent} {e x : Ent} (h : x ∈ addL l e) : x ∈ l ∨ x = e := by
 unfold addL at h
 rcases List.mem_append.1 h with h | h
 · rcases List.mem_append.1 h with h | h
   · exact .inl (List.mem_of_mem_take h)
   · simp at h; exact .inr h
 · exact .inl (List.mem_of_mem_drop h)
theorem addL_length (l : List Ent) (e : Ent) : (addL l e).length = l.length + 1 := by
 unfold addL
 have := addPos_le l e.name
 simp; omega
theorem Well.add {n s : Nat} {t : Tr} (h : Well n s t) {dir : Int} {e : Ent} (b1 : 1 ≤ dir) (b2 : dir ≤ t.length) (e1 : 1 ≤ e.ino) (e2 : e.ino ≤ t.length) (ek : (ndAt t e.ino).kind ≠ 0) (hno : (ndAt t e.ino).kind = 2 → ¬ Under t dir e.ino) :
  Well n (s + 1) (addT t dir e) := by
 have ha : dir.toNat - 1 < t.length := by omega
 have hk : ∀ p, (ndAt (addT t dir e) p).kind = (ndAt t p).kind := fun p => by
  unfold addT; rw [ndAt_set _ ha]
  split
  · rename_i hp; rw [ndAt_same hp]
  · rfl
 refine ⟨by unfold addT; rw [setNd_length]; exact h.len, fun x hx => ?_, fun x hx y hy => ?_, fun x hx y hy => ?_, ?_, fun x hx => ?_, fun x hx => ?_⟩
 · unfold addT at hx
   rcases mem_set hx with hx | rfl
   · have := h.small x hx; omega
   · show (addL _ _).length ≤ _; rw [addL_length]; have := h.at_small dir; omega
 · have hl : (addT t dir e).length = t.length := by unfold addT; exact setNd_length _ _ _
   rw [hl]
   unfold addT at hx
   rcases mem_set hx with hx | rfl
   · exact h.good x hx y hy
   · rcases mem_addL hy with hy | rfl
     · exact h.at_good hy
     · exact ⟨e1, e2⟩
 · rw [hk]
   unfold addT at hx
   rcases mem_set hx with hx | rfl
   · exact h.there x hx y hy
   · rcases mem_addL hy with hy | rfl
     · exact h.at_there hy
     · exact ek
 · by_cases h2 : (ndAt t e.ino).kind = 2
   · refine acc_add (a := e.ino) (B := fun p => p.toNat - 1 = dir.toNat - 1) h.acc (fun c p hc => ?_) (fun b hb hu => ?_)
     · obtain ⟨x, hx, hxc, hxk⟩ := hc
       rw [hk] at hxk
       unfold addT at hx
       rw [ndAt_set _ ha] at hx
       split at hx
       · rename_i hp
         rcases mem_addL hx with hx | rfl
         · exact .inl ⟨x, by rw [ndAt_same hp]; exact hx, hxc, hxk⟩
         · exact .inr ⟨hxc.symm, hp⟩
       · exact .inl ⟨x, hx, hxc, hxk⟩
     · have hp := hu.pos h e1
       have : b = dir := by omega
       subst this
       exact hno h2 hu
   · have hsub : ∀ c p, Child (addT t dir e) c p → Child t c p := fun c p hc => by
      obtain ⟨x, hx, hxc, hxk⟩ := hc
      rw [hk] at hxk
      unfold addT at hx
      rw [ndAt_set _ ha] at hx
      split at hx
      · rename_i hp
        rcases mem_addL hx with hx | rfl
        · exact ⟨x, by rw [ndAt_same hp]; exact hx, hxc, hxk⟩
        · rw [← hxc] at hxk; exact absurd hxk h2
      · exact ⟨x, hx, hxc, hxk⟩
     intro x
     have hx := h.acc x
     induction hx with
     | intro x _ ih => exact ⟨x, fun c hc => ih c (hsub c x hc)⟩
 · unfold addT at hx
   rcases mem_set hx with hx | rfl
   · exact h.data x hx
   · exact h.at_data dir
 · unfold addT at hx
   rcases mem_set hx with hx | rfl
   · have := h.held x hx; omega
   · have := h.at_held dir; show 0 ≤ (ndAt t dir).held ∧ (ndAt t dir).held ≤ _; omega
end Go.Proofs.YtogljgiefmfafaaGreat.D
namespace Go.Proofs.YtogljgiefmfafaaGreat.D
open Go.RowKit
theorem Well.makeR {n s : Nat} {t : Tr} (h : Well n s t) {dir : Int} {q : ByteArray} {kind ino : Int} {e : Int} {t1 : Tr} (hr : makeR t dir q kind ino = (e, t1)) : Well n (s + 1) t1 := by
 by_cases he : e = 0
 · subst he
   obtain ⟨rfl, _, hk, i1, i2, hd, _, hnt⟩ := make_zero hr
   obtain ⟨_, htd, _⟩ := dirE_zero hd
   obtain ⟨b1, b2, _⟩ := thereB_bounds htd
   have hne : dir ≠ ino := fun hh => by subst hh; rw [htd] at hnt; cases hnt
   have ha : ino.toNat - 1 < t.length := by omega
   have hk0 : (ndAt t ino).kind = 0 := by
    unfold thereB at hnt
    simp [i1, i2] at hnt
    exact hnt
   have hkn : kind ≠ 0 := by omega
   have hat := ndAt_set (t := t) (a := ino) { noNd with kind := kind } ha
   have w0 : Well n s (setNd t ino { noNd with kind := kind }) := by
    refine ⟨by rw [setNd_length]; exact h.len, fun x hx => ?_, fun x hx y hy => ?_, fun x hx y hy => ?_, ?_, fun x hx => ?_, fun x hx => ?_⟩
    · rcases mem_set hx with hx | rfl
      · exact h.small x hx
      · exact Nat.zero_le _
    · rw [setNd_length]
      rcases mem_set hx with hx | rfl
      · exact h.good x hx y hy
      · cases hy
    · rcases mem_set hx with hx | rfl
      · rw [hat]
        split
        · exact hkn
        · exact h.there x hx y hy
      · cases hy
    · have hsub : ∀ c p, Child (setNd t ino { noNd with kind := kind }) c p → Child t c p := fun c p hc => by
       obtain ⟨x, hx, hxc, hxk⟩ := hc
       rw [hat] at hx
       split at hx
       · cases hx
       · have g := h.at_good hx
         have g2 := h.at_there hx
         rw [hat] at hxk
         split at hxk
         · rename_i hp
           have : x.ino = ino := by omega
           rw [this] at g2
           exact absurd hk0 g2
         · exact ⟨x, hx, hxc, hxk⟩
      intro x
      have hx := h.acc x
      induction hx with
      | intro x _ ih => exact ⟨x, fun c hc => ih c (hsub c x hc)⟩
    · rcases mem_set hx with hx | rfl
      · exact h.data x hx
      · simp [noNd]
    · rcases mem_set hx with hx | rfl
      · exact h.held x hx
      · simp [noNd]
   have hai : ndAt (setNd t ino { noNd with kind := kind }) ino = { noNd with kind := kind } := ndAt_set_self _ i1 i2
   refine w0.add (e := ⟨q, ino⟩) b1 (by rw [setNd_length]; exact b2) i1 (by rw [setNd_length]; exact i2) (by rw [hai]; exact hkn) (fun _ hu => ?_)
   cases hu with
   | here => exact hne rfl
   | step hc _ =>
    obtain ⟨x, hx, _⟩ := hc
    rw [hai] at hx
    cases hx
 · have : t1 = t := by
    unfold Proofs.YtogljgiefmfafaaGreat.D.makeR at hr
    split at hr
    · injection hr with _ hr; exact hr.symm
    · split at hr
      · injection hr with _ hr; exact hr.symm
      · split at hr
        · injection hr with _ hr; exact hr.symm
        · injection hr with hr _; exact absurd hr.symm he
   rw [this]; exact h.mono (by omega)
theorem Well.holdR {n s : Nat} {t : Tr} (h : Well n s t) {ino : Int} {e : Int} {t1 : Tr} (hr : holdR t ino = (e, t1)) : Well n (s + 1) t1 := by
 unfold Proofs.YtogljgiefmfafaaGreat.D.holdR at hr
 by_cases hf : fileE t ino ≠ 0
 · rw [if_pos hf] at hr; injection hr with _ hr; subst hr; exact h.mono (by omega)
 · rw [if_neg hf] at hr
   injection hr with _ hr
   subst hr
   obtain ⟨b1, b2, _⟩ := thereB_bounds (fileE_zero (by omega : fileE t ino = 0)).1
   have := h.at_held ino
   exact h.set b1 b2 (by omega) rfl (fun _ h => h) (Nat.le_trans (h.at_small ino) (by omega)) (h.at_data ino) (by show 0 ≤ (ndAt t ino).held + 1 ∧ (ndAt t ino).held + 1 ≤ _; omega)
theorem Well.linkR {n s : Nat} {t : Tr} (h : Well n s t) {dir : Int} {q : ByteArray} {ino : Int} {e : Int} {t1 : Tr} (hr : linkR t dir q ino = (e, t1)) : Well n (s + 1) t1 := by
 unfold Proofs.YtogljgiefmfafaaGreat.D.linkR at hr
 split at hr
 · injection hr with _ hr; subst hr; exact h.mono (by omega)
 · split at hr
   · injection hr with _ hr; subst hr; exact h.mono (by omega)
   · rename_i hth
     split at hr
     · injection hr with _ hr; subst hr; exact h.mono (by omega)
     · split at hr
       · injection hr with _ hr; subst hr; exact h.mono (by omega)
       · rename_i hk
         split at hr
         · injection hr with _ hr; subst hr; exact h.mono (by omega)
         · split at hr
           · injection hr with _ hr; subst hr; exact h.mono (by omega)
           · injection hr with _ hr
             subst hr
             have h1 : thereB t dir = true := by cases hh : thereB t dir with
              | true => rfl
              | false => exact absurd (.inl hh) hth
             have h2 : thereB t ino = true := by cases hh : thereB t ino with
              | true => rfl
              | false => exact absurd (.inr hh) hth
             obtain ⟨b1, b2, _⟩ := thereB_bounds h1
             obtain ⟨i1, i2, i3⟩ := thereB_bounds h2
             exact h.add (e := ⟨q, ino⟩) b1 b2 i1 i2 i3 (fun hh => absurd (by simpa using hh) hk)
theorem Well.unlinkR {n s : Nat} {t : Tr} (h : Well n s t) {dir : Int} {q : ByteArray} : Well n s (unlinkR t dir q).2.2 := by
 unfold Proofs.YtogljgiefmfafaaGreat.D.unlinkR
 split
 · exact h
 · rename_i hl
   split
   · exact h
   · obtain ⟨ino, e, hlk⟩ : ∃ ino e, lookR t dir q = (ino, e) := ⟨_, _, rfl⟩
     rw [hlk] at hl ⊢
     obtain rfl : e = 0 := by simpa using hl
     obtain ⟨i1, i2⟩ := look_good h.good hlk
     obtain ⟨hd, _⟩ := look_ok hlk
     obtain ⟨_, ht, _⟩ := dirE_zero hd
     obtain ⟨b1, b2, _⟩ := thereB_bounds ht
     exact ((h.del b1 b2 q).1.free i1 (by rw [delS_length]; exact i2)).1
theorem Well.rmdirR {n s : Nat} {t : Tr} (h : Well n s t) {dir : Int} {q : ByteArray} : Well n s (rmdirR t dir q).2.2 := by
 unfold Proofs.YtogljgiefmfafaaGreat.D.rmdirR
 split
 · exact h
 · rename_i hl
   split
   · exact h
   · split
     · exact h
     · obtain ⟨ino, e, hlk⟩ : ∃ ino e, lookR t dir q = (ino, e) := ⟨_, _, rfl⟩
       rw [hlk] at hl ⊢
       obtain rfl : e = 0 := by simpa using hl
       obtain ⟨i1, i2⟩ := look_good h.good hlk
       obtain ⟨hd, _⟩ := look_ok hlk
       obtain ⟨_, ht, _⟩ := dirE_zero hd
       obtain ⟨b1, b2, _⟩ := thereB_bounds ht
       exact ((h.del b1 b2 q).1.free i1 (by rw [delS_length]; exact i2)).1
theorem Well.renameC {n s : Nat} {t : Tr} (h : Well n s t) {dir to ino old : Int} {q p : ByteArray} (hl : lookR t dir q = (ino, 0)) (hl2 : lookR t to p = (old, 0)) (hu : (ndAt t ino).kind = 2 → ¬ Under t to ino) {e : Int} {t1 : Tr} (hr : renameC t dir q to p ino old = (e, t1)) : Well n (s + 1) t1 := by
 unfold Proofs.YtogljgiefmfafaaGreat.D.renameC at hr
 split at hr
 · injection hr with _ hr; subst hr; exact h.mono (by omega)
 · rename_i hne
   split at hr
   · injection hr with _ hr; subst hr; exact h.mono (by omega)
   · split at hr
     · injection hr with _ hr; subst hr; exact h.mono (by omega)
     · split at hr
       · injection hr with _ hr; subst hr; exact h.mono (by omega)
       · injection hr with _ hr
         subst hr
         have hno : old ≠ ino := by simpa using hne
         obtain ⟨i1, i2⟩ := look_good h.good hl
         obtain ⟨o1, o2⟩ := look_good h.good hl2
         obtain ⟨hd, _⟩ := look_ok hl
         obtain ⟨_, ht, _⟩ := dirE_zero hd
         obtain ⟨b1, b2, _⟩ := thereB_bounds ht
         obtain ⟨hd2, _⟩ := look_ok hl2
         obtain ⟨_, ht2, _⟩ := dirE_zero hd2
         obtain ⟨c1, c2, _⟩ := thereB_bounds ht2
         obtain ⟨w1, s1, k1⟩ := h.del c1 c2 p
         obtain ⟨w2, s2, k2⟩ := w1.free o1 (by rw [delS_length]; exact o2)
         obtain ⟨w3, s3, k3⟩ := w2.del b1 (by rw [freeT_length, delS_length]; exact b2) q
         have hs := (s3.trans s2).trans s1
         have hki : (ndAt (delS (freeT (delS t to p) old) dir q) ino).kind = (ndAt t ino).kind := by
          rw [k3, k2 ino i1 (fun e => hno e.symm), k1]
         obtain ⟨_, kk, x, _, hx, hxi⟩ := look_ok hl
         have hk0 : (ndAt t ino).kind ≠ 0 := by rw [← hxi]; exact h.at_there (List.mem_of_getElem? hx)
         refine w3.add (e := ⟨p, ino⟩) c1 (by rw [delS_length, freeT_length, delS_length]; exact c2) i1 (by rw [delS_length, freeT_length, delS_length]; exact i2) (by rw [hki]; exact hk0) (fun hh hun => ?_)
         rw [hki] at hh
         exact hu hh (hs.under hun)
theorem Well.renameR {n s : Nat} {t : Tr} (h : Well n s t) {dir to : Int} {q p : ByteArray} {e : Int} {t1 : Tr} (hr : renameR t dir q to p = (e, t1)) : Well n (s + 1) t1 := by
 unfold Proofs.YtogljgiefmfafaaGreat.D.renameR at hr
 split at hr
 · injection hr with _ hr; subst hr; exact h.mono (by omega)
 · split at hr
   · injection hr with _ hr; subst hr; exact h.mono (by omega)
   · rename_i hth
     split at hr
     · injection hr with _ hr; subst hr; exact h.mono (by omega)
     · split at hr
       · injection hr with _ hr; subst hr; exact h.mono (by omega)
       · rename_i hl0
         obtain ⟨ino, e1, hl⟩ : ∃ ino e, lookR t dir q = (ino, e) := ⟨_, _, rfl⟩
         rw [hl] at hl0 hr
         obtain rfl : e1 = 0 := by simpa using hl0
         simp only [] at hr
         unfold renameB at hr
         split at hr
         · injection hr with _ hr; subst hr; exact h.mono (by omega)
         · rename_i hub
           have hu : (ndAt t ino).kind = 2 → ¬ Under t to ino := fun hk hun => hub ⟨by simpa using hk, underB_iff.2 hun⟩
           split at hr
           · rename_i h2
             obtain ⟨old, e2, hl2⟩ : ∃ ino e, lookR t to p = (ino, e) := ⟨_, _, rfl⟩
             rw [hl2] at h2 hr
             simp only [] at h2 hr
             subst h2
             exact h.renameC hl hl2 hu hr
           · injection hr with _ hr
             subst hr
             have ht2 : thereB t to = true := by cases hh : thereB t to with
              | true => rfl
              | false => exact absurd (.inr hh) hth
             obtain ⟨i1, i2⟩ := look_good h.good hl
             obtain ⟨hd, kk, x, _, hx, hxi⟩ := look_ok hl
             obtain ⟨_, ht, _⟩ := dirE_zero hd
             obtain ⟨b1, b2, _⟩ := thereB_bounds ht
             obtain ⟨c1, c2, _⟩ := thereB_bounds ht2
             obtain ⟨w3, s3, k3⟩ := h.del b1 b2 q
             have hk0 : (ndAt t ino).kind ≠ 0 := by rw [← hxi]; exact h.at_there (List.mem_of_getElem? hx)
             exact w3.add (e := ⟨p, ino⟩) c1 (by rw [delS_length]; exact c2) i1 (by rw [delS_length]; exact i2) (by rw [k3]; exact hk0) (fun hh hun => hu (by rw [← k3]; exact hh) (s3.under hun))
theorem Well.resizeR {n s : Nat} {t : Tr} (h : Well n s t) {ino size : Int} {e : Int} {t1 : Tr} (hr : resizeR t ino size = (e, t1)) : Well n s t1 := by
 unfold Proofs.YtogljgiefmfafaaGreat.D.resizeR at hr
 split at hr
 · injection hr with _ hr; subst hr; exact h
 · rename_i hf
   split at hr
   · injection hr with _ hr; subst hr; exact h
   · injection hr with _ hr
     subst hr
     obtain ⟨b1, b2, _⟩ := thereB_bounds (fileE_zero (by omega : fileE t ino = 0)).1
     exact h.set b1 b2 (Nat.le_refl _) rfl (fun _ h => h) (h.at_small ino) (by show (longS _ _).size ≤ _; rw [longS_size]; omega) (h.at_held ino)
theorem Well.writeR {n s : Nat} {t : Tr} (h : Well n s t) {ino page : Int} {d : ByteArray} {e : Int} {t1 : Tr} (hr : writeR t ino page d = (e, t1)) : Well n s t1 := by
 unfold Proofs.YtogljgiefmfafaaGreat.D.writeR at hr
 split at hr
 · injection hr with _ hr; subst hr; exact h
 · rename_i hf
   split at hr
   · injection hr with _ hr; subst hr; exact h
   · injection hr with _ hr
     subst hr
     obtain ⟨b1, b2, _⟩ := thereB_bounds (fileE_zero (by omega : fileE t ino = 0)).1
     have := h.at_data ino
     exact h.set b1 b2 (Nat.le_refl _) rfl (fun _ h => h) (h.at_small ino) (by show (writeS _ _ _).size ≤ _; rw [writeS_size]; omega) (h.at_held ino)
theorem Well.dropR {n s : Nat} {t : Tr} (h : Well n s t) {ino : Int} {e : Int} {t1 : Tr} (hr : dropR t ino = (e, t1)) : Well n s t1 := by
 unfold Proofs.YtogljgiefmfafaaGreat.D.dropR at hr
 split at hr
 · injection hr with _ hr; subst hr; exact h
 · rename_i hth
   split at hr
   · injection hr with _ hr; subst hr; exact h
   · rename_i hh
     injection hr with _ hr
     subst hr
     obtain ⟨b1, b2, _⟩ := thereB_bounds (t := t) (ino := ino) (by simpa using hth)
     have h0 := h.at_held ino
     have h1 : (ndAt t ino).held ≠ 0 := by simpa using hh
     have w1 : Well n s (dropT t ino) := h.set b1 b2 (Nat.le_refl _) rfl (fun _ h => h) (h.at_small ino) (h.at_data ino) (by show 0 ≤ (ndAt t ino).held - 1 ∧ (ndAt t ino).held - 1 ≤ _; omega)
     exact (w1.free b1 (by unfold dropT; rw [setNd_length]; exact b2)).1
theorem newT_well (n : Nat) (_h1 : 1 ≤ n) : Well n 0 (newT n) := by
 have hm : ∀ x ∈ newT n, x = noNd ∨ x = { noNd with kind := 2 } := fun x hx => by
  unfold newT at hx
  rcases mem_set hx with hx | rfl
  · exact .inl (List.eq_of_mem_replicate hx)
  · exact .inr rfl
 have hl : ∀ x ∈ newT n, x.l = [] := fun x hx => by rcases hm x hx with rfl | rfl <;> rfl
 refine ⟨by unfold newT; rw [setNd_length]; simp, (fun x hx => by rw [hl x hx]; exact Nat.le_refl _), (fun x hx e he => by rw [hl x hx] at he; cases he), (fun x hx e he => by rw [hl x hx] at he; cases he), fun x => ⟨x, fun c hc => ?_⟩, (fun x hx => by rcases hm x hx with rfl | rfl <;> simp [noNd]), (fun x hx => by rcases hm x hx with rfl | rfl <;> simp [noNd])⟩
 obtain ⟨e, he, _⟩ := hc
 rcases ndAt_or (t := newT n) x with h | h
 · rw [hl _ h] at he; cases he
 · rw [h] at he; cases he
end Go.Proofs.YtogljgiefmfafaaGreat.D
