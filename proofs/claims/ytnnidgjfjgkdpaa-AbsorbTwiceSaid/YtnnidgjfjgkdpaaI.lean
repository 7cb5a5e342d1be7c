/- Of, Gone. -/
import Derived.Test.YtnnidgjfjgkdpaaH
namespace Go.Proofs.Ytnnidgjfjgkdpaa
open Go.RowKit Go.Maps

def ofOf (rs : List R) : List R := pick rs (leftOf rs)

set_option maxRecDepth 100000 in
set_option maxHeartbeats 4000000 in
theorem gone_any (A : Option Addr) (n c B : Nat) (rs : List R) (w : World) (h : Recs w B A n rs) (hB : B ≤ w.heap.size) (hn : n ≤ 1000) :
    Calls Try.prog 8 #[.slice A n c] w fun e W' => ∃ v, e = .returned v ∧ W'.ownsRow w.heap.size 3 1 v (goneOf rs).length (intCells (goneOf rs)) ∧ Below w.heap.size w W' := by
  have hs := split_any A n c B rs w h hB hn
  go_enter Try.func8, Try.ntmps8
  go_wp2_with (first | (go_at_call 14; refine hs.mono ?_; rintro e w' ⟨v, v', rfl, hl, hg, hb⟩))
  go_ret
  exact ⟨_, rfl, hg, hb⟩

theorem leftOf_lt {rs : List R} {k : Nat} (h : k ∈ leftOf rs) : k < rs.length := by
  unfold leftOf at h; simpa using (List.mem_filter.1 h).1
theorem leftOf_le (rs : List R) : (leftOf rs).length ≤ rs.length := by
  have := List.length_filter_le (fun k => !goneB rs k) (List.range rs.length)
  simpa [leftOf] using this

set_option maxRecDepth 100000 in
set_option maxHeartbeats 4000000 in
theorem of_any (A : Option Addr) (n c B : Nat) (rs : List R) (w : World) (h : Recs w B A n rs) (hB : B ≤ w.heap.size) (hn : n ≤ 1000) :
    Calls Try.prog 7 #[.slice A n c] w fun e W' => ∃ v, e = .returned v ∧ W'.ownsRow w.heap.size 31 12 v (ofOf rs).length (recCells (ofOf rs)) ∧ Below w.heap.size w W' := by
  have hlen := h.len
  have ha := split_any A n c B rs w h hB hn
  have hal := leftOf_le rs
  obtain ⟨al, hAl⟩ : ∃ al, leftOf rs = al := ⟨_, rfl⟩
  have hlt : ∀ k ∈ al, k < n := fun k hk => by rw [← hAl] at hk; have := leftOf_lt hk; omega
  have HAl := Lib.hid hAl
  have Hlt := Lib.hid hlt
  rw [hAl] at ha hal
  clear hAl hlt
  obtain ⟨m, hm⟩ : ∃ m, al.length = m := ⟨_, rfl⟩
  rw [hm] at ha hal
  have Hm := Lib.hid hm
  clear hm
  go_enter Try.func7, Try.ntmps7
  go_wp2_with (first | (go_at_call 14; refine ha.mono ?_; rintro e w' ⟨v, v', rfl, hrow, _, hb⟩; obtain ⟨Av, cv, rfl, hread⟩ := row_read hrow Hm.out; have Hread := Lib.hid hread; clear hread))
  go_loopw [2, 14] (fun t i wr => ∃ (j : Nat) (v : Value), j ≤ m ∧ i = .int .i64 j ∧ t = v ∧ wr.ownsRow w'.heap.size 31 12 v j (recCells (pick rs (al.take j))) ∧ Below w'.heap.size w' wr) (fun _ i _ => m + 1 - (intOf i).toNat)
  case atStart => exact ⟨0, _, Nat.zero_le _, rfl, rfl, by simpa [pick, recCells] using World.ownsRow_nil _ _ _ _, Below.refl _ _⟩
  case round =>
    obtain ⟨j, v, hj, rfl, rfl, hr1, hb1⟩ := hrel
    by_cases hjm : j = m
    · have hlt : ¬ (j : Int) < m := by omega
      subst hjm
      have hfin : pick rs (al.take j) = ofOf rs := by unfold ofOf; rw [HAl.out, List.take_of_length_le (by rw [Hm.out]; exact Nat.le_refl _)]
      rw [hfin] at hr1
      have hlf : (ofOf rs).length = j := by unfold ofOf pick; rw [List.length_map, HAl.out, Hm.out]
      have HR1 := Lib.hid (row_base hr1 hb.size)
      have HLF := Lib.hid hlf
      have HW1 := Lib.hid (hb.trans (hb1.mono hb.size))
      clear hfin hr1 hrow hb1 hlf
      go_wp2
      go_ret
      exact ⟨_, rfl, by rw [HLF.out]; exact HR1.out, HW1.out⟩
    · have hlt : (j : Int) < m := by omega
      have hjl : j < al.length := by rw [Hm.out]; omega
      obtain ⟨p, hp⟩ : ∃ p, al[j]? = some p := ⟨_, List.getElem?_eq_getElem hjl⟩
      have hpn : p < n := Hlt.out p (List.mem_of_getElem? hp)
      obtain ⟨bp, rfl, hcp⟩ := Hread.out j p hp
      have hbp : bp < w'.heap.size := World.block_lt_of_cell? w' _ hcp
      have hcp' : wr.cell? ⟨bp, j, none⟩ = some (.int .i64 (p : Nat)) := (World.cell?_of_block (hb1.block bp hbp)).trans hcp
      have hr3 := h.below (hb.trans (hb1.mono hb.size)) hB (Nat.le_refl _)
      obtain ⟨b, o, x, rfl, _, hgx, hat, _⟩ := hr3.get hpn
      have hax : at_ rs p = x := by unfold at_; rw [List.getD_eq_getElem?_getD, hgx]; rfl
      have htk : pick rs (al.take (j + 1)) = pick rs (al.take j) ++ [x] := by
        rw [List.take_add_one, hp]; simp [pick, hax]
      obtain ⟨i0, hi, hz0, hz1, hz2⟩ := info31
      obtain ⟨c0, c1, c2, c3, c4, c5, c6, c7, c8, c9, c10, c11⟩ := hat
      have HT := Lib.hid htk
      have HB1 := Lib.hid hb1
      have hsz := hb1.size
      have HR1 := Lib.hid hr1
      have hjm' : j < m := by omega
      clear htk hjm hr3 hgx hax hb1 hcp hr1
      go_wp2_with (first | (at_builtin; refine wpList_append_own _ rfl _ _ 22 rfl w'.heap.size 31 i0 noR.val 12 96 Try.underlying22 hi hz0 hz1 hz2 rfl (by decide) _ _ _ rfl (HR1.out.alloc _) ⟨wr.heap.size, 0, none⟩ 1 1 x.cells rfl rfl (cells_new _ _ _) (by simp [R.cells, Value.oneCell']) (by unfold maxLen; omega) (by omega) (by simp; omega) ?_; intro v' w1 hown' hgrow _))
      have hblk := row_block HR1.out
      go_roundw
      case rel =>
        refine ⟨j + 1, _, by omega, by go_num, rfl, ?_, (HB1.out.alloc hsz _).grown hgrow (by simp; omega) (fun q hq => hblk q hq)⟩
        rw [HT.out, recCells_snoc]; exact hown'
      case measure => simp [intOf]; omega
end Go.Proofs.Ytnnidgjfjgkdpaa
