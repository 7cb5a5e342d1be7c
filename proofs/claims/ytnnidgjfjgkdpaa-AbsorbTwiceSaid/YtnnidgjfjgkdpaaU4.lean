/- The law's own function freed; what the walk of AbsorbTwice reads. -/
import Derived.Test.YtnnidgjfjgkdpaaU2
import Derived.Test.YtnnidgjfjgkdpaaK
namespace Go.Proofs.Ytnnidgjfjgkdpaa
open Go.RowKit Go.Maps

theorem ret_bool' {a b : Bool} (h : a = b) : Ending.returned (.bool a) = .returned (.bool b) := by rw [h]
set_option maxRecDepth 100000 in
set_option maxHeartbeats 4000000 in
theorem freed_any (A : Option Addr) (n c B : Nat) (rs : List R) (w : World) (h : Recs w B A n rs) (hn : n ≤ maxLen) (k : Nat) (hk : k ≤ n) (ino : Int) (b : Bool) (hb : freedB rs k ino = b) :
    Calls Try.prog 10 #[.slice A n c, .int .i64 (k : Nat), .int .u32 ino] w fun e w' => e = .returned (.bool b) ∧ w = w' := by
  unfold maxLen at hn
  have HB := Lib.hid hb
  have HLen := Lib.hid h.len
  clear hb
  go_enter Try.func10, Try.ntmps10
  go_wp2
  go_loop [7] (fun i => ∃ j : Nat, j ≤ n ∧ i = .int .i64 j ∧ Hid (freedB rs j ino = b)) (fun i => n + 1 - (intOf i).toNat)
  case atStart => exact ⟨k, hk, rfl, HB⟩
  case round =>
    obtain ⟨j, hj, rfl, hp⟩ := hrel
    by_cases hjn : j = n
    · have hlt : ¬ (j : Int) < n := by omega
      have HF : Hid (false = b) := by
        have := hp.out
        unfold freedB at this
        rw [List.drop_eq_nil_of_le (by rw [HLen.out]; omega)] at this
        exact this
      clear hjn
      go_wp2
      go_ret
      exact ⟨ret_bool' HF.out, rfl⟩
    · have hlt : (j : Int) < n := by omega
      have hj1 : j < n := by omega
      obtain ⟨bb, o, r, rfl, _, hr, hat, _⟩ := h.get hj1
      have c1 := hat.c1
      have c4 := hat.c4
      have hdr : rs.drop j = r :: rs.drop (j + 1) := by
        obtain ⟨hkl, e⟩ := List.getElem?_eq_some_iff.1 hr
        rw [List.drop_eq_getElem_cons hkl, e]
      have hgo := hp.out
      unfold freedB at hgo
      rw [hdr, List.any_cons] at hgo
      have HGo := Lib.hid hgo
      clear hgo hdr hr hat hjn
      cases h7 : (r.act == 7) with
      | false =>
        have HF : Hid (freedB rs (j + 1) ino = b) := by
          show _ = _
          have := HGo.out; rw [h7] at this; unfold freedB; simpa using this
        go_wp2
        go_round
        case rel => exact ⟨j + 1, by omega, by go_num, HF⟩
        case measure => simp [intOf]; omega
      | true =>
        cases hi : (r.ino == ino) with
        | false =>
          have HF : Hid (freedB rs (j + 1) ino = b) := by
            show _ = _
            have := HGo.out; rw [hi] at this; unfold freedB; simpa using this
          go_wp2
          go_round
          case rel => exact ⟨j + 1, by omega, by go_num, HF⟩
          case measure => simp [intOf]; omega
        | true =>
          have HF : Hid (true = b) := by
            show _ = _
            have := HGo.out; rw [h7, hi] at this; simpa using this
          go_wp2
          go_ret
          exact ⟨ret_bool' HF.out, rfl⟩

/-- A row of places in memory, below some block. -/
structure Ints (w : World) (B : Nat) (A : Option Addr) (n : Nat) (l : List Nat) : Prop where
  len : l.length = n
  at_ : ∀ i k, l[i]? = some k → ∃ b, A = some ⟨b, 0, none⟩ ∧ b < B ∧ w.cell? ⟨b, i, none⟩ = some (.int .i64 (k : Nat))
theorem Ints.below {w w' : World} {B C : Nat} {A : Option Addr} {n : Nat} {l : List Nat} (h : Ints w B A n l) (hb : Below C w w') (hC : B ≤ C) : Ints w' B A n l :=
  ⟨h.len, fun i k hi => by
    obtain ⟨b, hA, hlt, hc⟩ := h.at_ i k hi
    exact ⟨b, hA, hlt, (World.cell?_of_block (a := ⟨b, i, none⟩) (hb.block b (by omega))).trans hc⟩⟩
theorem gone_ints (A : Option Addr) (n c B : Nat) (rs : List R) (w : World) (h : Recs w B A n rs) (hB : B ≤ w.heap.size) (hn : n ≤ 1000) (m : Nat) (hm : (goneOf rs).length = m) :
    Calls Try.prog 8 #[.slice A n c] w fun e W' => ∃ A' c', e = .returned (.slice A' m c') ∧ Ints W' W'.heap.size A' m (goneOf rs) ∧ Below w.heap.size w W' := by
  refine (gone_any A n c B rs w h hB hn).mono ?_
  rintro e W' ⟨v, rfl, hr, hb⟩
  rw [hm] at hr
  obtain ⟨A', c', rfl, hread⟩ := row_read hr hm
  refine ⟨A', c', rfl, ⟨hm, fun i k hi => ?_⟩, hb⟩
  obtain ⟨b, hA, hc⟩ := hread i k hi
  exact ⟨b, hA, World.block_lt_of_cell? W' _ hc, hc⟩
end Go.Proofs.Ytnnidgjfjgkdpaa
