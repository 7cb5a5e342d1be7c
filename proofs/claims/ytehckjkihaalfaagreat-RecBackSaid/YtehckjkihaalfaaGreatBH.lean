/- Put's closure. -/
import Derived.Test.YtehckjkihaalfaaGreatBG
import Derived.Test.YtehckjkihaalfaaGreatBC
namespace Go.Proofs.YtehckjkihaalfaaGreat
open Go.RowKit Go.Maps

/-- A block of texts. -/
def TextsAt (w : World) (g : Nat) (ss : List ByteArray) : Prop := w.heap[g]? = some (.cells (ss.map Value.string).toArray 9 (0, 0))
def flatB (ss : List ByteArray) : List UInt8 := ss.flatMap fun s => s.data.toList
theorem TextsAt.cell {w : World} {g : Nat} {ss : List ByteArray} (h : TextsAt w g ss) {k : Nat} (hk : k < ss.length) : w.cell? ⟨g, k, none⟩ = some (.string ss[k]) := by
  unfold TextsAt at h
  simp only [World.cell?, h]
  simp [hk]
theorem TextsAt.kept {w w' : World} {g b : Nat} {ss : List ByteArray} (h : TextsAt w g ss) (hg : g ≠ b) (hk : Kept b w w') : TextsAt w' g ss :=
  hk g _ h (fun e => hg (by injection e)) (fun c fz e => by injection e with _ e; cases e)
theorem flatB_take (ss : List ByteArray) (k : Nat) (hk : k < ss.length) : flatB (ss.take (k + 1)) = flatB (ss.take k) ++ ss[k].data.toList := by
  unfold flatB
  rw [List.take_succ_eq_append_getElem hk, List.flatMap_append]
  simp
theorem flatB_le (ss : List ByteArray) (k : Nat) : (flatB (ss.take k)).length ≤ (flatB ss).length := by
  unfold flatB
  conv => rhs; rw [← List.take_append_drop k ss]
  rw [List.flatMap_append, List.length_append]
  omega
set_option maxRecDepth 100000 in
set_option maxHeartbeats 2000000 in
theorem t_put1 (is : Bool) (ss : List ByteArray) (n g B b : Nat) (l : List UInt8) (w : World) (hn : ss.length = n) (hn2 : n ≤ 60000) (hs : TextsAt w g ss) (hgb : g ≠ b) (hB : IsB B b l w) (hBw : B ≤ w.heap.size)
    (hlen : l.length + (flatB ss).length ≤ 140737488355328) :
    Calls Tryz.prog 72 #[.bool is, .slice (some ⟨g, 0, none⟩) n n, .pointer (some ⟨b, 0, none⟩)] w fun e w' => e = .returned (.tuple #[]) ∧ IsB B b (l ++ onB is (flatB ss)) w' ∧ Below B w w' ∧ Kept b w w' := by
  have HN := Lib.hid hn
  have HS := Lib.hid hs
  have HB := Lib.hid hB
  have HL := Lib.hid hlen
  clear hn hs hB hlen
  go_enter Tryz.func72, Tryz.ntmps72
  go_wp2
  go_loopw [9] (fun x wr => ∃ k : Nat, x = .int .i64 (k : Int) ∧ k ≤ n ∧ Hid (IsB B b (l ++ onB is (flatB (ss.take k))) wr ∧ Below B w wr ∧ Kept b w wr)) (fun x _ => n - (intOf x).toNat)
  case atStart => exact ⟨0, rfl, Nat.zero_le _, by show _ ∧ _; refine ⟨?_, Below.refl _ _, Lib.OthersKept.refl _ _ _⟩; have := HB.out; cases is <;> simpa [flatB, onB] using this⟩
  case round =>
    obtain ⟨k, rfl, hk, HR⟩ := hrel
    by_cases he : k = n
    · have hf : ss.take k = ss := List.take_of_length_le (by rw [HN.out]; omega)
      have h1 := HR.out
      rw [hf] at h1
      have H1 := Lib.hid h1
      clear h1 hf
      go_wp2
      all_goals
        go_end0
        exact ⟨rfl, H1.out⟩
    · have hk2 : k < n := by omega
      have hk3 : k < ss.length := by rw [HN.out]; exact hk2
      have c1 := (HS.out.kept hgb HR.out.2.2).cell hk3
      have hle := flatB_le ss (k + 1)
      rw [flatB_take ss k hk3, List.length_append] at hle
      have hd : ss[k].data.toList.length = ss[k].size := by rw [← Lib.size_eq]
      rw [hd] at hle
      cases is
      · have HR2 : Hid (IsB B b (l ++ onB false (flatB (ss.take (k + 1)))) wr ∧ Below B w wr ∧ Kept b w wr) := HR
        clear hle hd
        go_wp2
        refine ⟨⟨k + 1, rfl, hk2, HR2⟩, ?_⟩
        simp only [intOf]
        omega
      · have hl := HL.out
        have hlt : (l ++ onB true (flatB (ss.take k))).length + ss[k].size ≤ 140737488355328 := by show (l ++ flatB (ss.take k)).length + _ ≤ _; rw [List.length_append]; omega
        have HLT := Lib.hid hlt
        have HBW : Hid (B ≤ wr.heap.size) := Nat.le_trans hBw HR.out.2.1.size
        clear hle hd hl hlt
        go_wp2_with (go_at_call 73; (with_reducible refine (b_write B b _ _ _ HR.out.1 HLT.out HBW.out).mono ?_); rintro e w2 ⟨rfl, g1, g2, g3⟩; have HG := Lib.hid (And.intro g1 (And.intro g2 g3)); clear g1 g2 g3)
        refine ⟨⟨k + 1, rfl, hk2, ?_⟩, ?_⟩
        · show _ ∧ _
          obtain ⟨g1, g2, g3⟩ := HG.out
          refine ⟨?_, HR.out.2.1.trans g2, HR.out.2.2.trans g3⟩
          rw [flatB_take ss k hk3]
          simpa [onB] using g1
        · simp only [intOf]
          omega
end Go.Proofs.YtehckjkihaalfaaGreat
