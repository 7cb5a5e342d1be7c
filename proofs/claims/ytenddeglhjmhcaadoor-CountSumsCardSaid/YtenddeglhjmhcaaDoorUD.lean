/- count.parts: a tally's rows, as pointers. -/
import Derived.Test.YtenddeglhjmhcaaDoorUC
namespace Go.Proofs.YtenddeglhjmhcaaDoor
open Go.RowKit

/-- Pointers to the cells of a block. -/
def ptrs (b o n : Nat) : List Value := (List.range n).map fun i => .pointer (some ⟨b, o + i, none⟩)
theorem ptrs_len (b o n : Nat) : (ptrs b o n).length = n := by simp [ptrs]
theorem ptrs_snoc (b o n : Nat) : ptrs b o (n + 1) = ptrs b o n ++ [.pointer (some ⟨b, o + n, none⟩)] := by simp [ptrs, List.range_succ]
theorem ptrs_get {b o n i : Nat} (h : i < n) : (ptrs b o n)[i]? = some (.pointer (some ⟨b, o + i, none⟩)) := by simp [ptrs, h]
def pOff : Nat → Nat | 0 => 0 | 1 => 4 | 2 => 20 | 3 => 21 | _ => 22
def pLen : Nat → Nat | 0 => 4 | 1 => 16 | _ => 1
/-- A tally's rows in memory, in block g. -/
def PartsG (W : World) (g b : Nat) : Prop := g < W.heap.size ∧ ∀ n, n < 4 → ∃ A c, W.cell? ⟨g, n, none⟩ = some (.slice A (pLen n) c) ∧ VRead W A (ptrs b (pOff n) (pLen n))
theorem PartsG.below {W W' : World} {g b : Nat} (h : PartsG W g b) (hb : Below W.heap.size W W') : PartsG W' g b := by
  obtain ⟨h2, h3⟩ := h
  refine ⟨Nat.lt_of_lt_of_le h2 hb.size, fun n hn => ?_⟩
  obtain ⟨A, c, h4, h5⟩ := h3 n hn
  exact ⟨A, c, (World.cell?_of_block (a := ⟨g, n, none⟩) (hb.block g h2)).trans h4, h5.below hb⟩
def PartsAt (W : World) (v : Value) (b : Nat) : Prop := ∃ g, v = .slice (some ⟨g, 0, none⟩) 4 4 ∧ PartsG W g b
theorem PartsAt.below {W W' : World} {v : Value} {b : Nat} (h : PartsAt W v b) (hb : Below W.heap.size W W') : PartsAt W' v b := by
  obtain ⟨g, h1, h2⟩ := h
  exact ⟨g, h1, h2.below hb⟩
theorem elPInt : ElemOf 59 60 (.pointer none) := ⟨Tryd.underlying59, ⟨8, by decide, by kernel_rfl⟩, rfl⟩
/-- A row of one pointer. -/
def isOne (b o : Nat) : Ph := fun v W => ∃ g, v = .slice (some ⟨g, 0, none⟩) 1 1 ∧ W.heap[g]? = some (.cells #[.pointer (some ⟨b, o, none⟩)] 60 (0, 0))
theorem isOne.stay {b o : Nat} : ∀ v W W', isOne b o v W → RelB W W' → isOne b o v W' := fun _ _ _ ⟨g, h1, h2⟩ hb => ⟨g, h1, (hb.block g (Array.getElem?_eq_some_iff.1 h2).1).trans h2⟩
theorem isOne.read {b o g : Nat} {W : World} (h : W.heap[g]? = some (.cells #[.pointer (some ⟨b, o, none⟩)] 60 (0, 0))) : VRead W (some ⟨g, 0, none⟩) (ptrs b o 1) := fun _ => ⟨g, 0, rfl, (Array.getElem?_eq_some_iff.1 h).1, fun k x hk => by
  have hk1 : k < 1 := by have := (List.getElem?_eq_some_iff.1 hk).1; rw [ptrs_len] at this; exact this
  obtain rfl : k = 0 := by omega
  rw [ptrs_get (by decide)] at hk
  cases hk
  simp [World.cell?, h]⟩
def isParts (b : Nat) : Ph := fun v W => PartsAt W v b
theorem isParts.stay {b : Nat} : ∀ v W W', isParts b v W → RelB W W' → isParts b v W' := fun _ _ _ h hb => PartsAt.below h hb
theorem cell_of {W : World} {g n : Nat} {cs : Array Value} {t : TypeId} {f : Nat × Nat} (h : W.heap[g]? = some (.cells cs t f)) : W.cell? ⟨g, n, none⟩ = cs[n]? := by simp [World.cell?, h]
/-- The four rows, put together. -/
theorem parts_mk {W : World} {b g2 g3 c0 c1 : Nat} {A0 A1 : Option Addr} (h0 : VRead W A0 (ptrs b 0 4)) (h1 : VRead W A1 (ptrs b 4 16)) (h2 : W.heap[g2]? = some (.cells #[.pointer (some ⟨b, 20, none⟩)] 60 (0, 0))) (h3 : W.heap[g3]? = some (.cells #[.pointer (some ⟨b, 21, none⟩)] 60 (0, 0))) :
    PartsAt (W.alloc (.cells #[.slice A0 4 c0, .slice A1 16 c1, .slice (some ⟨g2, 0, none⟩) 1 1, .slice (some ⟨g3, 0, none⟩) 1 1] 59)) (.slice (some ⟨W.heap.size, 0, none⟩) 4 4) b := by
  have hb : Below W.heap.size W (W.alloc (.cells #[.slice A0 4 c0, .slice A1 16 c1, .slice (some ⟨g2, 0, none⟩) 1 1, .slice (some ⟨g3, 0, none⟩) 1 1] 59)) := (Below.refl _ _).alloc (Nat.le_refl _) _
  have hn := heap_alloc_new W (.cells #[.slice A0 4 c0, .slice A1 16 c1, .slice (some ⟨g2, 0, none⟩) 1 1, .slice (some ⟨g3, 0, none⟩) 1 1] 59)
  refine ⟨W.heap.size, rfl, by simp, fun n hn4 => ?_⟩
  match n, hn4 with
  | 0, _ => exact ⟨A0, c0, (cell_of hn).trans rfl, h0.below hb⟩
  | 1, _ => exact ⟨A1, c1, (cell_of hn).trans rfl, h1.below hb⟩
  | 2, _ => exact ⟨some ⟨g2, 0, none⟩, 1, (cell_of hn).trans rfl, (isOne.read h2).below hb⟩
  | 3, _ => exact ⟨some ⟨g3, 0, none⟩, 1, (cell_of hn).trans rfl, (isOne.read h3).below hb⟩
set_option maxRecDepth 100000 in
set_option maxHeartbeats 4000000 in
theorem t_parts (b : Nat) (w : World) :
    Calls Tryd.prog 15 #[.pointer (some ⟨b, 0, none⟩)] w fun e w' => ∃ v, e = .returned v ∧ PartsAt w' v b ∧ Below w.heap.size w w' := by
  go_enter Tryd.func15, Tryd.ntmps15
  go_wp2
  have hr0 : VR 60 w w (.slice none 0 0) (ptrs b 0 0) := VR.nil _ _
  go_loopw [3, 5, 7] (fun v3 _ v7 W => ∃ i : Nat, v7 = .int .i64 (i : Int) ∧ i ≤ 4 ∧ Hid (VR 60 w W v3 (ptrs b 0 i))) (fun _ _ v _ => 4 - (intOf v).toNat)
  case atStart => exact ⟨0, rfl, Nat.zero_le _, hr0⟩
  case round =>
    clear hr0
    obtain ⟨i, rfl, hi, HR⟩ := hrel
    by_cases he : i = 4
    · subst he
      obtain ⟨A0, c0, rfl, _, hk⟩ := HR.out.reads
      have HK := Lib.hid hk
      have HB1 := Lib.hid HR.out.2
      clear hk HR
      rw [ptrs_len, show ((4 : Nat) : Int) = 4 from rfl]
      go_wp2
      obtain ⟨w1, hw1⟩ : ∃ w1, wr = w1 := ⟨_, rfl⟩
      rw [hw1] at HK HB1 ⊢
      clear hw1
      have hr0 : VR 60 w1 w1 (.slice none 0 0) (ptrs b 4 0) := VR.nil _ _
      go_loopw [4, 6, 19] (fun v4 _ v19 W => ∃ i : Nat, v19 = .int .i64 (i : Int) ∧ i ≤ 16 ∧ Hid (VR 60 w1 W v4 (ptrs b 4 i))) (fun _ _ v _ => 16 - (intOf v).toNat)
      case atStart => exact ⟨0, rfl, Nat.zero_le _, hr0⟩
      case round =>
        clear hr0
        obtain ⟨i, rfl, hi, HR⟩ := hrel
        by_cases he : i = 16
        · subst he
          obtain ⟨A1, c1, rfl, _, hk⟩ := HR.out.reads
          have HK1 := Lib.hid hk
          have HB2 := Lib.hid HR.out.2
          have HK0 := Lib.hid (HK.out.below HB2.out)
          clear hk HR HK
          rw [ptrs_len]
          go_wp2
          refine wp_region_rel RelB (phi [isV (.slice A0 4 c0), isV (.slice A1 16 c1), isV (.pointer (some ⟨b, 0, none⟩)), isV (.pointer (some ⟨b, 0, none⟩)), isV (.pointer (some ⟨b, 20, none⟩)), (isOne b 20), isV (.pointer (some ⟨b, 0, none⟩)), isV (.pointer (some ⟨b, 0, none⟩)), isV (.pointer (some ⟨b, 21, none⟩)), (isOne b 21), (isParts b), (isParts b)]) (by kernel_rfl) (by kernel_rfl) (by kernel_rfl) (RelB.of (below_drew _)) (fun _ _ _ a b => a.trans b) ?_ ?_ ?_
          · refine stays_phiR ?_
            simp only [List.forall_mem_cons]
            exact ⟨fun _ _ _ h _ => h, fun _ _ _ h _ => h, fun _ _ _ h _ => h, fun _ _ _ h _ => h, fun _ _ _ h _ => h, isOne.stay, fun _ _ _ h _ => h, fun _ _ _ h _ => h, fun _ _ _ h _ => h, isOne.stay, isParts.stay, isParts.stay, fun _ h => absurd h (by simp)⟩
          · refine ⟨?_, ?_, ?_, ?_, ?_, ?_, ?_, ?_, ?_, ?_, ?_, ?_, trivial⟩
            · refine opR_mk rfl fun aa W2 hB hp hq K hK => ?_
              have e3 : aa.tmps[3]?.getD undef = .slice A0 4 c0 := hp 3 (by kernel_rfl)
              clear hp hq
              go_simp
              exact hK _ _ (RelB.refl _) rfl
            · refine opR_mk rfl fun aa W2 hB hp hq K hK => ?_
              have e4 : aa.tmps[4]?.getD undef = .slice A1 16 c1 := hp 4 (by kernel_rfl)
              clear hp hq
              go_simp
              exact hK _ _ (RelB.refl _) rfl
            · refine opR_mk rfl fun aa W2 hB hp hq K hK => ?_
              have e0 : aa.tmps[0]?.getD undef = .pointer (some ⟨b, 0, none⟩) := hp 0 (by kernel_rfl)
              clear hp hq
              go_simp
              exact hK _ _ (RelB.refl _) rfl
            · refine opR_mk rfl fun aa W2 hB hp hq K hK => ?_
              have e33 : aa.tmps[33]?.getD undef = .pointer (some ⟨b, 0, none⟩) := hq 2 _ (by kernel_rfl) rfl
              clear hp hq
              go_simp
              exact hK _ _ (RelB.refl _) rfl
            · refine opR_mk rfl fun aa W2 hB hp hq K hK => ?_
              have e34 : aa.tmps[34]?.getD undef = .pointer (some ⟨b, 0, none⟩) := hq 3 _ (by kernel_rfl) rfl
              clear hp hq
              go_simp
              exact hK _ _ (RelB.refl _) rfl
            · refine opR_mk rfl fun aa W2 hB hp hq K hK => ?_
              have e35 : aa.tmps[35]?.getD undef = .pointer (some ⟨b, 20, none⟩) := hq 4 _ (by kernel_rfl) rfl
              clear hp hq
              go_simp
              exact hK _ _ ((Below.refl _ _).alloc (Nat.le_refl _) _) ⟨_, rfl, heap_alloc_new _ _⟩
            · refine opR_mk rfl fun aa W2 hB hp hq K hK => ?_
              have e0 : aa.tmps[0]?.getD undef = .pointer (some ⟨b, 0, none⟩) := hp 0 (by kernel_rfl)
              clear hp hq
              go_simp
              exact hK _ _ (RelB.refl _) rfl
            · refine opR_mk rfl fun aa W2 hB hp hq K hK => ?_
              have e37 : aa.tmps[37]?.getD undef = .pointer (some ⟨b, 0, none⟩) := hq 6 _ (by kernel_rfl) rfl
              clear hp hq
              go_simp
              exact hK _ _ (RelB.refl _) rfl
            · refine opR_mk rfl fun aa W2 hB hp hq K hK => ?_
              have e38 : aa.tmps[38]?.getD undef = .pointer (some ⟨b, 0, none⟩) := hq 7 _ (by kernel_rfl) rfl
              clear hp hq
              go_simp
              exact hK _ _ (RelB.refl _) rfl
            · refine opR_mk rfl fun aa W2 hB hp hq K hK => ?_
              have e39 : aa.tmps[39]?.getD undef = .pointer (some ⟨b, 21, none⟩) := hq 8 _ (by kernel_rfl) rfl
              clear hp hq
              go_simp
              exact hK _ _ ((Below.refl _ _).alloc (Nat.le_refl _) _) ⟨_, rfl, heap_alloc_new _ _⟩
            · refine opR_mk rfl fun aa W2 hB hp hq K hK => ?_
              have e31 : aa.tmps[31]?.getD undef = .slice A0 4 c0 := hq 0 _ (by kernel_rfl) rfl
              have e32 : aa.tmps[32]?.getD undef = .slice A1 16 c1 := hq 1 _ (by kernel_rfl) rfl
              obtain ⟨g2, e36, h2⟩ : isOne b 20 (aa.tmps[36]?.getD undef) W2 := hq 5 _ (by kernel_rfl) rfl
              obtain ⟨g3, e40, h3⟩ : isOne b 21 (aa.tmps[40]?.getD undef) W2 := hq 9 _ (by kernel_rfl) rfl
              have HP := Lib.hid (parts_mk (c0 := c0) (c1 := c1) (HK0.out.below hB) (HK1.out.below hB) h2 h3)
              clear h2 h3
              clear hp hq
              go_simp
              exact hK _ _ ((Below.refl _ _).alloc (Nat.le_refl _) _) HP.out
            · refine opR_mk rfl fun aa W2 hB hp hq K hK => ?_
              have h4 : isParts b (aa.tmps[41]?.getD undef) W2 := hq 10 _ (by kernel_rfl) rfl
              obtain ⟨v4, e41⟩ : ∃ v4, aa.tmps[41]?.getD undef = v4 := ⟨_, rfl⟩
              rw [e41] at h4
              have H4 := Lib.hid h4
              clear h4
              clear hp hq
              go_simp
              exact hK _ _ (RelB.refl _) H4.out
          · intro vs W3 hB3 hv3 _
            have hp : isParts b (vs 11) W3 := hv3 11 _ rfl rfl
            have HP := Lib.hid hp
            have H3 := Lib.hid hB3
            clear hp hB3 hv3
            simp only [putAll, Act.put, List.setIfInBounds_toArray, List.set_cons_succ, List.set_cons_zero, Nat.zero_add, Nat.reduceAdd]
            go_wp2
            go_ret
            exact ⟨_, rfl, HP.out, ptrans HB1.out (ptrans HB2.out H3.out)⟩
        · have hi16 : i < 16 := by omega
          have hq := heap_alloc_new wr (.cells #[.pointer (some ⟨b, 4 + i, none⟩)] 60)
          have hown := (HR.out.later ((Below.refl _ _).alloc (Nat.le_refl _) (.cells #[.pointer (some ⟨b, 4 + i, none⟩)] 60) : Below wr.heap.size wr (wr.alloc (.cells #[.pointer (some ⟨b, 4 + i, none⟩)] 60)))).1
          rw [ptrs_len] at hown
          have hsz := HR.out.2.size
          have HOW := Lib.hid hown
          have HQ := Lib.hid hq
          have HB := Lib.hid HR.out.2
          clear hown hq HR
          go_wp2_with (refine wpList_append_v elPInt rfl _ _ rfl w1.heap.size _ (ptrs b 4 i) i (i + 1) (ptrs_len _ _ _) rfl rfl HOW.out wr.heap.size (.pointer (some ⟨b, 4 + i, none⟩)) rfl rfl HQ.out (by omega) (by simp; omega) ?_; intro A1 c1 w' hown' hgrow)
          have HRN : Hid (VR 60 w1 w' (.slice A1 (i + 1) c1) (ptrs b 4 (i + 1))) := ⟨by rw [ptrs_len, ptrs_snoc]; exact hown', grow_below HB.out HOW.out hgrow⟩
          clear hown' hgrow
          go_roundw
          case rel => exact ⟨i + 1, by go_num, by omega, HRN⟩
          case measure => simp [intOf]; omega
    · have hi4 : i < 4 := by omega
      have hq := heap_alloc_new wr (.cells #[.pointer (some ⟨b, i, none⟩)] 60)
      have hown := (HR.out.later ((Below.refl _ _).alloc (Nat.le_refl _) (.cells #[.pointer (some ⟨b, i, none⟩)] 60) : Below wr.heap.size wr (wr.alloc (.cells #[.pointer (some ⟨b, i, none⟩)] 60)))).1
      rw [ptrs_len] at hown
      have hsz := HR.out.2.size
      have HOW := Lib.hid hown
      have HQ := Lib.hid hq
      have HB := Lib.hid HR.out.2
      clear hown hq HR
      go_wp2_with (refine wpList_append_v elPInt rfl _ _ rfl w.heap.size _ (ptrs b 0 i) i (i + 1) (ptrs_len _ _ _) rfl rfl HOW.out wr.heap.size (.pointer (some ⟨b, i, none⟩)) rfl rfl HQ.out (by omega) (by simp; omega) ?_; intro A1 c1 w' hown' hgrow)
      have HRN : Hid (VR 60 w w' (.slice A1 (i + 1) c1) (ptrs b 0 (i + 1))) := ⟨by rw [ptrs_len, ptrs_snoc, Nat.zero_add]; exact hown', grow_below HB.out HOW.out hgrow⟩
      clear hown' hgrow
      exact ⟨⟨i + 1, by go_num, by omega, HRN⟩, by simp [intOf]; omega⟩
end Go.Proofs.YtenddeglhjmhcaaDoor
