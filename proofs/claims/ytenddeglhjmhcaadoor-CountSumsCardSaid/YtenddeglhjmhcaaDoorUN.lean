/- The document's row. -/
import Derived.Test.YtenddeglhjmhcaaDoorUM
namespace Go.Proofs.YtenddeglhjmhcaaDoor
open Go.RowKit

theorem str_app (a b : List UInt8) : (⟨a.toArray⟩ : ByteArray) ++ ⟨b.toArray⟩ = ⟨(a ++ b).toArray⟩ := by
  apply ByteArray.ext
  simp
theorem seg_row_len {l : List Int} (h : ∀ x ∈ l, I64 x) (hl : l.length ≤ 16) (i : Nat) : (rowS (l.take i)).length ≤ 1000 := row_len (fun x hx => h x (List.mem_of_mem_take hx)) (by rw [List.length_take]; omega)
set_option maxRecDepth 100000 in
set_option maxHeartbeats 8000000 in
theorem t_row (A : Option Addr) (n c : Nat) (l : List Int) (w : World) (hT : Tab w) (hl : VRead w A (l.map intV)) (hn : l.length = n) (hn2 : n ≤ 16) (hi : ∀ x ∈ l, I64 x) :
    Calls Tryd.prog 19 #[.slice A n c] w fun e w' => e = .returned (strV (rowS l)) ∧ Below w.heap.size w w' := by
  have HTB := Lib.hid hT
  have HL := Lib.hid hl
  have HN := Lib.hid hn
  have HI := Lib.hid hi
  clear hT hl hn hi
  go_enter Tryd.func19, Tryd.ntmps19
  go_wp2
  go_loopw [3, 4] (fun v2 v W => ∃ i : Nat, v = .int .i64 (i : Int) ∧ v2 = strV (rowS (l.take i)) ∧ i ≤ n ∧ Hid (Below w.heap.size w W)) (fun _ v _ => n - (intOf v).toNat)
  case atStart => exact ⟨0, rfl, rfl, Nat.zero_le _, Below.refl _ _⟩
  case round =>
    obtain ⟨i, rfl, rfl, hi, HB⟩ := hrel
    by_cases he : i = n
    · subst he
      have hr : rowS (l.take i) = rowS l := by rw [List.take_of_length_le (by rw [HN.out]; exact Nat.le_refl _)]
      rw [hr]
      clear hr
      go_wp2
      go_ret
      exact ⟨rfl, HB.out⟩
    · have hin : i < n := by omega
      have hii : (i : Int) < n := by omega
      obtain ⟨x, hx⟩ : ∃ x, l[i]? = some x := ⟨_, List.getElem?_eq_getElem (by rw [HN.out]; exact hin)⟩
      obtain ⟨b, o, rfl, hb, hc⟩ := HL.out.get (k := i) (x := intV x) (by rw [List.getElem?_map, hx]; rfl)
      have c1 := hc wr HB.out
      have hix := HI.out x (List.mem_of_getElem? hx)
      have hst := rowS_step hx
      have HST := Lib.hid hst
      have HLN := Lib.hid (seg_row_len HI.out (by rw [HN.out]; exact hn2) i)
      have HXL := Lib.hid (Lib.itoa_length_le x hix.1 hix.2)
      have HIT := Lib.hid (fun (W : World) (hW : Below wr.heap.size wr W) => t_fmtInt x hix W (HTB.out.below (ptrans HB.out hW)))
      obtain ⟨s, hs⟩ : ∃ s, rowS (l.take i) = s := ⟨_, rfl⟩
      rw [hs] at HST HLN ⊢
      clear hs hx hb hc hix hst
      unfold strV
      have hln := HLN.out
      have hxl := HXL.out
      by_cases h0 : 0 < i
      · have h0i : (0 : Int) < i := by omega
        have HS2 : Hid (rowS (l.take (i + 1)) = (s ++ [44]) ++ Lib.itoa x) := by rw [Hid, HST.out, if_pos h0]
        go_wp2_with (first
          | (go_at_call 27; (with_reducible refine (HIT.out _ (Below.refl _ _)).mono ?_); rintro e w5 ⟨rfl, h5⟩; have H5 := Lib.hid h5; clear h5))
        exact ⟨⟨i + 1, by go_num, congrArg Value.string (by rw [HS2.out, ← str_app, ← str_app]), by omega, ptrans HB.out H5.out⟩, by simp [intOf]; omega⟩
      · have h0i : ¬ (0 : Int) < i := by omega
        have HS2 : Hid (rowS (l.take (i + 1)) = s ++ Lib.itoa x) := by rw [Hid, HST.out, if_neg h0]
        go_wp2_with (first
          | (go_at_call 27; (with_reducible refine (HIT.out _ (Below.refl _ _)).mono ?_); rintro e w5 ⟨rfl, h5⟩; have H5 := Lib.hid h5; clear h5))
        exact ⟨⟨i + 1, by go_num, congrArg Value.string (by rw [HS2.out, ← str_app]), by omega, ptrans HB.out H5.out⟩, by simp [intOf]; omega⟩
end Go.Proofs.YtenddeglhjmhcaaDoor
