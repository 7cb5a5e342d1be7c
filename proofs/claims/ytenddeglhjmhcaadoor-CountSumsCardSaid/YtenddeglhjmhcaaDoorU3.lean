/- count.Of. -/
import Derived.Test.YtenddeglhjmhcaaDoorU5
namespace Go.Proofs.YtenddeglhjmhcaaDoor
open Go.RowKit Go.Shelf

attribute [local go_sem] Oper.semAt_some
/-- One more at a place. -/
def bump (t : List Int) (i : Nat) : List Int := t.set i (wrap64 (t.getD i 0 + 1))
def slotOf (n k : Nat) : Nat := if k < n then k else 0
/-- A tally, with an event more. -/
def ofStep (t : List Int) (e : CEv) : List Int :=
  if e.kind = 1 then bump (bump t (slotOf 4 e.kind)) (4 + slotOf 16 e.act) else if e.kind = 3 then (if e.err = 0 then bump (bump t (slotOf 4 e.kind)) 20 else bump (bump t (slotOf 4 e.kind)) 21) else bump t (slotOf 4 e.kind)
def ofR (es : List CEv) : List Int := es.foldl ofStep zT
theorem bump_len (t : List Int) (i : Nat) : (bump t i).length = t.length := by simp [bump]
theorem ofStep_len (t : List Int) (e : CEv) : (ofStep t e).length = t.length := by unfold ofStep; split <;> (try split) <;> (try split) <;> simp [bump_len]
theorem ofR_len (es : List CEv) : (ofR es).length = 22 := by
  suffices h : ∀ (es : List CEv) (t : List Int), (es.foldl ofStep t).length = t.length from (h es zT).trans rfl
  intro es
  induction es with
  | nil => intro t; rfl
  | cons e es ih => intro t; rw [List.foldl_cons, ih, ofStep_len]
theorem slotOf_lt {n : Nat} (h : 0 < n) (k : Nat) : slotOf n k < n := by unfold slotOf; split <;> omega
theorem get_of_len {t : List Int} {n i : Nat} (h : t.length = n) (hi : i < n) : t[i]? = some (t.getD i 0) := by
  rw [List.getD_eq_getElem?_getD, List.getElem?_eq_getElem (by omega)]; rfl
set_option maxRecDepth 100000 in
set_option maxHeartbeats 4000000 in
theorem of_in (bb n c : Nat) (es : List CEv) (w : World) (hn : es.length = n) (hn2 : n ≤ 1000) (hbb : bb < w.heap.size) (h : CEvs w bb es) :
    CallsIn Fence.wide 7 Tryd.prog 11 #[.slice (some ⟨bb, 0, none⟩) n c] w fun e W' => e = .returned (talV (ofR es)) ∧ Below w.heap.size w W' := by
  refine callsIn_of_wp_marks Tryd.func11 rfl trivial ?_ rfl
  simp only [Tryd.ntmps11, List.size_toArray, List.length_cons, List.length_nil, Nat.reduceAdd, Nat.reduceSub, Array.replicate_succ, Array.replicate_zero, List.push_toArray, List.append_toArray, List.nil_append, List.cons_append]
  gi_wp2_with (refine ⟨trivial, ?_⟩; gi_at_call 20; refine (callsIn_wide.2 (t_rows _ _ _ _)).mono ?_; rintro e w' ⟨rfl, rfl⟩)
  have hT0 : ((w.alloc (.cells (zT.map intV).toArray 26)).alloc (.cells #[.slice (some ⟨bb, 0, none⟩) n c] 44)).heap[w.heap.size]? = some (.cells (zT.map intV).toArray 26 (0, 0)) := (Below.heap_alloc _ _ _ (by simp)).trans (heap_alloc_new _ _)
  have hB0 := ((Below.refl _ w).alloc (Nat.le_refl _) (.cells (zT.map intV).toArray 26)).alloc (by simp) (.cells #[.slice (some ⟨bb, 0, none⟩) n c] 44)
  have bt0 := Boxed.new (w.alloc (.cells (zT.map intV).toArray 26)) 44 (.slice (some ⟨bb, 0, none⟩) n c)
  have hs0 : ((w.alloc (.cells (zT.map intV).toArray 26)).alloc (.cells #[.slice (some ⟨bb, 0, none⟩) n c] 44)).heap.size = w.heap.size + 2 := by simp
  simp only [World.size_alloc] at bt0
  obtain ⟨W0, hW0⟩ : ∃ W0, (w.alloc (.cells (zT.map intV).toArray 26)).alloc (.cells #[.slice (some ⟨bb, 0, none⟩) n c] 44) = W0 := ⟨_, rfl⟩
  rw [hW0] at hT0 hB0 bt0 hs0
  refine (show Code.wpIn _ _ _ _ _ _ ((w.alloc (.cells (zT.map intV).toArray 26)).alloc (.cells #[.slice (some ⟨bb, 0, none⟩) n c] 44)) from ?_)
  rw [hW0]
  clear hW0
  have h0 : CEvs W0 bb es := fun k e hk j v hv => (World.cell?_of_block (a := ⟨bb, _, none⟩) (hB0.block bb hbb)).trans (h k e hk j v hv)
  refine wpIn_rangeFunc_ownH rfl (by omega) (gf := 28) (lb := #[.pointer (some ⟨w.heap.size + 1, 0, none⟩)]) rfl trivial (enters_of Tryd.func28 (by kernel_rfl) rfl)
    (rows_stops (w.heap.size + 1) bb n c w.heap.size es W0 hn hn2 hbb (by omega) bt0 h0) KeepAt.trans (KeepAt.put (by omega) (by omega)) (Below.refl _ _) (fun _ => rfl)
    (fun pre W => W.heap[w.heap.size]? = some (.cells ((ofR (pre.map (·.2))).map intV).toArray 26 (0, 0)) ∧ Boxed W (w.heap.size + 1) 44 (.slice (some ⟨bb, 0, none⟩) n c) ∧ Below w.heap.size w W)
    (fun _ _ _ => False)
    (OwnFrom.and (Own.from (cel_own _ _ _) _) (OwnFrom.and (Own.from (boxed_own _ _ _) _) (ownFrom_below (Nat.le_refl _) (by omega))))
    (fun d => ownFrom_pure _ _)
    ⟨hT0, bt0, hB0⟩
    (fun y a' W => ∃ Bx, w.heap.size + 1 < Bx ∧ EvBox W Bx y.2 ∧ a' = { tmps := #[.slice (some ⟨bb, 0, none⟩) n c, undef, .pointer (some ⟨w.heap.size, 0, none⟩), undef, .pointer (some ⟨Bx, 0, none⟩), .slice (some ⟨bb, 0, none⟩) n c, .func (.func 28) #[] #[.pointer (some ⟨w.heap.size + 1, 0, none⟩)], .int .i64 y.1, .agg y.2.cells.toArray, undef, undef, undef, undef, undef, undef, undef, undef, undef, undef, undef, undef, undef, undef, undef, undef, undef, undef, undef, undef, undef, undef, undef, undef, undef, undef, undef, undef, undef, undef, undef, undef, undef, undef, undef, undef, undef, undef], defers := [] })
    (fun y a' _ X Y row hs hg hr => by obtain ⟨Bx, h1, h2, h3⟩ := hs; exact ⟨Bx, h1, cel_own Bx 43 (fun _ : Unit => y.2.cells.toArray) () X Y row h2 hg (fun r e => (hr r e).2), h3⟩)
    ?assign ?body ?done ?stop
  case assign =>
    rintro l pre y W K ⟨hT, hb, hB⟩ hK
    have hsW := hB.size
    have HZ : Hid ((W.alloc (.cells #[.int .i64 0, .int .u8 0, .int .u8 0, .string ⟨#[]⟩, .string ⟨#[]⟩, .int .i64 0, .int .i64 0, .int .u32 0, .string ⟨#[]⟩, .int .i64 0, .int .i64 0, .int .u32 0, .int .u32 0, .int .u8 0, .int .i64 0, .int .u32 0, .slice none 0 0, .string ⟨#[]⟩] 43)).heap[W.heap.size]? = some (.cells (CEv.cells ⟨0, 0, 0, 0, by decide, by decide⟩).toArray 43 (0, 0))) := heap_alloc_new _ _
    gi_wp2_with (refine wpListIn_store_cel rfl 43 _ _ rfl W.heap.size 18 (CEv.cells ⟨0, 0, 0, 0, by decide, by decide⟩) y.2.cells rfl rfl infoEvC (cev_one y.2) rfl rfl HZ.out ?_; intro w4 h4 hg4)
    have HB4 := Lib.hid (below_store2 hg4)
    have hb4 := HB4.out
    exact hK _ _ (KeepsFrom.of_below hb4) (KeepAt.of_below hb4 hsW hb.lt) ⟨(hb4.block _ (Array.getElem?_eq_some_iff.1 hT).1).trans hT, (hb4.block _ hb.lt).trans hb, hB.trans (hb4.mono hsW)⟩ ⟨W.heap.size, hb.lt, h4, rfl⟩
  case body =>
    rintro l pre y a' W hl _ ⟨hT, hb, hB⟩ ⟨Bx, hBx, hX, rfl⟩ hlt
    have hlen := ofR_len (pre.map (·.2))
    have hR : ofR ((pre ++ [y]).map (·.2)) = ofStep (ofR (pre.map (·.2))) y.2 := by simp [ofR, List.foldl_append]
    have HR := Lib.hid hR
    clear hR
    obtain ⟨t, ht⟩ : ∃ t, ofR (pre.map (·.2)) = t := ⟨_, rfl⟩
    rw [ht] at hT hlen HR
    obtain ⟨x, hx⟩ : ∃ x, y.2 = x := ⟨_, rfl⟩
    rw [hx] at hX HR ⊢
    clear ht hx
    have hk := x.hk
    have HT := Lib.hid hT
    have HX := Lib.hid hX
    clear hT hX
    have HFin : Hid (∀ W9 : World, W.grownBy W9 (some w.heap.size) → ArrB 26 W9 w.heap.size (ofStep t x) → KeepsFrom W0.heap.size W W9 ∧ KeepAt w.heap.size (w.heap.size + 1) W W9 ∧ W9.heap[w.heap.size]? = some (.cells ((ofR ((pre ++ [y]).map (·.2))).map intV).toArray 26 (0, 0)) ∧ Boxed W9 (w.heap.size + 1) 44 (.slice (some ⟨bb, 0, none⟩) n c) ∧ Below w.heap.size w W9) := Lib.hid fun W9 hG h9 =>
      ⟨KeepsFrom.of_grown hG (by omega), KeepAt.of_grown hG (Nat.le_refl _) (by omega) hB.size hb.lt, by rw [HR.out]; exact h9, hb.kept hG (by simp), below_grown hB hG (Nat.le_refl _)⟩
    clear hb hB HR
    gi_wp2
    refine wpIn_region_frontM 4 (phi [isV (.pointer (some ⟨w.heap.size, 0, none⟩)), isV (.slice (some ⟨w.heap.size, 0, none⟩) 4 4), isV (.pointer (some ⟨Bx, 1, none⟩)), isV (.int .u8 (x.kind : Nat))]) (by kernel_rfl) (by kernel_rfl) (by kernel_rfl) ?_ ?_ ?_
    · refine stays_phiF ?_
      simp only [List.forall_mem_cons]
      exact ⟨fun _ _ _ h _ => h, fun _ _ _ h _ => h, fun _ _ _ h _ => h, fun _ _ _ h _ => h, fun _ h => absurd h (by simp)⟩
    · refine ⟨?_, ?_, ?_, ?_, trivial⟩
      · refine opMIn_mk rfl fun aa W2 hB2 hp hq K hK => ?_
        have e2 : aa.tmps[2]?.getD undef = .pointer (some ⟨w.heap.size, 0, none⟩) := hp 2 (by kernel_rfl)
        clear hp hq
        go_simp
        exact hK _ _ (Below.refl _ _) rfl
      · refine opMIn_mk rfl fun aa W2 hB2 hp hq K hK => ?_
        have e9 : aa.tmps[9]?.getD undef = .pointer (some ⟨w.heap.size, 0, none⟩) := hq 0 _ (by kernel_rfl) rfl
        clear hp hq
        go_simp
        exact hK _ _ (Below.refl _ _) rfl
      · refine opMIn_mk rfl fun aa W2 hB2 hp hq K hK => ?_
        have e4 : aa.tmps[4]?.getD undef = .pointer (some ⟨Bx, 0, none⟩) := hp 4 (by kernel_rfl)
        clear hp hq
        go_simp
        exact hK _ _ (Below.refl _ _) rfl
      · refine opMIn_mk rfl fun aa W2 hB2 hp hq K hK => ?_
        have e11 : aa.tmps[11]?.getD undef = .pointer (some ⟨Bx, 1, none⟩) := hq 2 _ (by kernel_rfl) rfl
        have c1 := (HX.out.below hB2).kind
        clear hp hq
        go_simp
        exact hK _ _ (Below.refl _ _) rfl
    · intro vs W5 hB5 hv
      have f0 : vs 0 = .pointer (some ⟨w.heap.size, 0, none⟩) := hv 0 (by decide) (by kernel_rfl)
      have f1 : vs 1 = .slice (some ⟨w.heap.size, 0, none⟩) 4 4 := hv 1 (by decide) (by kernel_rfl)
      have f2 : vs 2 = .pointer (some ⟨Bx, 1, none⟩) := hv 2 (by decide) (by kernel_rfl)
      have f3 : vs 3 = .int .u8 (x.kind : Nat) := hv 3 (by decide) (by kernel_rfl)
      have HM := Lib.hid (t_more 26 w.heap.size t 0 4 4 x.kind x.hk (slotOf 4 x.kind) rfl _ (get_of_len hlen (by have := slotOf_lt (n := 4) (by decide) x.kind; omega)) (by decide) (by decide) W5 (ArrB.below HT.out hB5))
      have HW5 := Lib.hid hB5
      clear hv hB5
      refine (show wpAnyIn _ _ Tryd.prog .any _ _ 1 _ _ W5 from ?_)
      refine wpAnyIn_one (i := 4) (by kernel_rfl) (by rfl) rfl (fun K hK => ?_)
      simp only [List.take_succ_cons, List.take_zero, putAll, Act.put, List.setIfInBounds_toArray, List.set_cons_succ, List.set_cons_zero, Nat.zero_add, Nat.reduceAdd, f0, f1, f2, f3] at hK ⊢
      go_simp
      refine ⟨trivial, ?_⟩
      gi_at_call 21
      refine (show CallsIn (Fence.wide.inRound l) _ _ _ _ _ _ from (callsIn_wide.2 HM.out : CallsIn Fence.wide _ _ _ _ _ _)).mono ?_
      rintro e W7 ⟨rfl, h7, hg7⟩
      refine hK _ _ (wpAnyIn_end (by kernel_rfl) ?_)
      clear hK HM
      rw [Nat.zero_add] at h7
      have HT1 : Hid (ArrB 26 W7 w.heap.size (bump t (slotOf 4 x.kind))) := h7
      have HG1 := Lib.hid (bel_grown HW5.out hg7)
      have HX1 : Hid (EvBox W7 Bx x) := (HX.out.below HW5.out).kept hg7 (by omega)
      have hlen1 : (bump t (slotOf 4 x.kind)).length = 22 := by rw [bump_len, hlen]
      have ck := HX1.out.kind
      have ce := HX1.out.err
      clear h7 hg7 HW5 HT HX f0 f1 f2 f3
      by_cases k1 : x.kind = 1
      · have k1' : ((x.kind : Int) == 1) = true := by rw [k1]; rfl
        have HS := Lib.hid (show ofStep t x = bump (bump t (slotOf 4 x.kind)) (4 + slotOf 16 x.act) by unfold ofStep; rw [if_pos k1])
        clear k1
        gi_wp2
        refine wpIn_region_frontM 5 (phi [isV (.pointer (some ⟨w.heap.size, 4, none⟩)), isV (.slice (some ⟨w.heap.size, 4, none⟩) 16 16), isV (.pointer (some ⟨Bx, 2, none⟩)), isV (.pointer (some ⟨Bx, 2, none⟩)), isV (.int .u8 (x.act : Nat))]) (by kernel_rfl) (by kernel_rfl) (by kernel_rfl) ?_ ?_ ?_
        · refine stays_phiF ?_
          simp only [List.forall_mem_cons]
          exact ⟨fun _ _ _ h _ => h, fun _ _ _ h _ => h, fun _ _ _ h _ => h, fun _ _ _ h _ => h, fun _ _ _ h _ => h, fun _ h => absurd h (by simp)⟩
        · refine ⟨?_, ?_, ?_, ?_, ?_, trivial⟩
          · refine opMIn_mk rfl fun aa W2 hB2 hp hq K hK => ?_
            have e2 : aa.tmps[2]?.getD undef = .pointer (some ⟨w.heap.size, 0, none⟩) := hp 2 (by kernel_rfl)
            clear hp hq
            go_simp
            exact hK _ _ (Below.refl _ _) rfl
          · refine opMIn_mk rfl fun aa W2 hB2 hp hq K hK => ?_
            have e18 : aa.tmps[18]?.getD undef = .pointer (some ⟨w.heap.size, 4, none⟩) := hq 0 _ (by kernel_rfl) rfl
            clear hp hq
            go_simp
            exact hK _ _ (Below.refl _ _) rfl
          · refine opMIn_mk rfl fun aa W2 hB2 hp hq K hK => ?_
            have e4 : aa.tmps[4]?.getD undef = .pointer (some ⟨Bx, 0, none⟩) := hp 4 (by kernel_rfl)
            clear hp hq
            go_simp
            exact hK _ _ (Below.refl _ _) rfl
          · refine opMIn_mk rfl fun aa W2 hB2 hp hq K hK => ?_
            have e20 : aa.tmps[20]?.getD undef = .pointer (some ⟨Bx, 2, none⟩) := hq 2 _ (by kernel_rfl) rfl
            clear hp hq
            go_simp
            exact hK _ _ (Below.refl _ _) rfl
          · refine opMIn_mk rfl fun aa W2 hB2 hp hq K hK => ?_
            have e21 : aa.tmps[21]?.getD undef = .pointer (some ⟨Bx, 2, none⟩) := hq 3 _ (by kernel_rfl) rfl
            have c1 := (HX1.out.below hB2).act
            clear hp hq
            go_simp
            exact hK _ _ (Below.refl _ _) rfl
        · intro vs W5 hB5 hv
          have f0 : vs 0 = .pointer (some ⟨w.heap.size, 4, none⟩) := hv 0 (by decide) (by kernel_rfl)
          have f1 : vs 1 = .slice (some ⟨w.heap.size, 4, none⟩) 16 16 := hv 1 (by decide) (by kernel_rfl)
          have f2 : vs 2 = .pointer (some ⟨Bx, 2, none⟩) := hv 2 (by decide) (by kernel_rfl)
          have f3 : vs 3 = .pointer (some ⟨Bx, 2, none⟩) := hv 3 (by decide) (by kernel_rfl)
          have f4 : vs 4 = .int .u8 (x.act : Nat) := hv 4 (by decide) (by kernel_rfl)
          have HM := Lib.hid (t_more 26 w.heap.size (bump t (slotOf 4 x.kind)) 4 16 16 x.act x.ha (slotOf 16 x.act) rfl _ (get_of_len hlen1 (by have := slotOf_lt (n := 16) (by decide) x.act; omega)) (by decide) (by decide) W5 (ArrB.below HT1.out hB5))
          have HW5 := Lib.hid hB5
          clear hv hB5
          refine (show wpAnyIn _ _ Tryd.prog .any _ _ 1 _ _ W5 from ?_)
          refine wpAnyIn_one (i := 5) (by kernel_rfl) (by rfl) rfl (fun K hK => ?_)
          simp only [List.take_succ_cons, List.take_zero, putAll, Act.put, List.setIfInBounds_toArray, List.set_cons_succ, List.set_cons_zero, Nat.zero_add, Nat.reduceAdd, f0, f1, f2, f3, f4] at hK ⊢
          go_simp
          refine ⟨trivial, ?_⟩
          gi_at_call 21
          refine (show CallsIn (Fence.wide.inRound l) _ _ _ _ _ _ from (callsIn_wide.2 HM.out : CallsIn Fence.wide _ _ _ _ _ _)).mono ?_
          rintro e W7 ⟨rfl, h7, hg7⟩
          refine hK _ _ (wpAnyIn_end (by kernel_rfl) ?_)
          clear hK HM
          have HG2 := Lib.hid (pgrown_trans HG1.out (bel_grown HW5.out hg7))
          have HT2 : Hid (ArrB 26 W7 w.heap.size (ofStep t x)) := by rw [HS.out]; exact h7
          clear h7 hg7
          gi_wp2
          exact HFin.out _ HG2.out HT2.out
      · have k1' : ((x.kind : Int) == 1) = false := by simp; omega
        by_cases k3 : x.kind = 3
        · have k3' : ((x.kind : Int) == 3) = true := by rw [k3]; rfl
          by_cases ke : x.err = 0
          · have ke' : (x.err == 0) = true := by simpa using ke
            have HS := Lib.hid (show ofStep t x = bump (bump t (slotOf 4 x.kind)) 20 by unfold ofStep; rw [if_neg k1, if_pos k3, if_pos ke])
            obtain ⟨v, hv⟩ : ∃ v, (bump t (slotOf 4 x.kind)).getD 20 0 = v := ⟨_, rfl⟩
            have c20 := HT1.out.cell ((get_of_len hlen1 (i := 20) (by omega)).trans (congrArg some hv))
            have HT2 : Hid (ArrB 26 (W7.setCell ⟨w.heap.size, 20, none⟩ (.int .i64 (wrap64 (v + 1)))) w.heap.size (ofStep t x)) := by rw [HS.out, ← hv]; exact HT1.out.set _ _
            clear hv
            have f20 := HT1.out.froz 20
            clear k1 k3 ke
            gi_wp2
            exact HFin.out _ (pgrown_trans HG1.out (pgrown_set _ _ _ _)) HT2.out
          · have ke' : (x.err == 0) = false := by simpa using ke
            have HS := Lib.hid (show ofStep t x = bump (bump t (slotOf 4 x.kind)) 21 by unfold ofStep; rw [if_neg k1, if_pos k3, if_neg ke])
            obtain ⟨v, hv⟩ : ∃ v, (bump t (slotOf 4 x.kind)).getD 21 0 = v := ⟨_, rfl⟩
            have c20 := HT1.out.cell ((get_of_len hlen1 (i := 21) (by omega)).trans (congrArg some hv))
            have HT2 : Hid (ArrB 26 (W7.setCell ⟨w.heap.size, 21, none⟩ (.int .i64 (wrap64 (v + 1)))) w.heap.size (ofStep t x)) := by rw [HS.out, ← hv]; exact HT1.out.set _ _
            clear hv
            have f20 := HT1.out.froz 21
            clear k1 k3 ke
            gi_wp2
            exact HFin.out _ (pgrown_trans HG1.out (pgrown_set _ _ _ _)) HT2.out
        · have k3' : ((x.kind : Int) == 3) = false := by simp; omega
          have HS := Lib.hid (show ofStep t x = bump t (slotOf 4 x.kind) by unfold ofStep; rw [if_neg k1, if_neg k3])
          clear k1 k3
          gi_wp2
          refine HFin.out _ HG1.out ?_
          rw [HS.out]
          exact HT1.out
  case stop => exact fun _ _ _ _ _ _ hf => hf.elim
  case done =>
    rintro D ys W hD rfl ⟨hT, hb, hB⟩ hK
    rw [placed_snd] at hT
    have hlen := ofR_len es
    have HT := Lib.hid hT
    gi_wp2_with (first
      | (refine wpListIn_load_mid rfl 26 _ rfl w.heap.size 0 rfl ((ofR es).map intV) _ (cel_range HT.out) Tryd.underlying26 rfl (by rw [List.length_map, hlen]; exact infoT) ?_)
      | (refine wpListIn_store_cel rfl 26 _ _ rfl w.heap.size 22 ((ofR es).map intV) ((ofR es).map intV) (by rw [List.length_map, hlen]) (by rw [List.length_map, hlen]) infoT (fun v hv => by obtain ⟨x, _, rfl⟩ := List.mem_map.1 hv; rfl) rfl rfl HT.out ?_; intro w4 h4 hg4))
    have hne : some D ≠ some w.heap.size := fun e => by have := Option.some.inj e; omega
    have hD4 : w4.heap[D]? = some (.deferred (some [])) := (hg4.block D (Array.getElem?_eq_some_iff.1 hK).1 hne).trans hK
    refine ⟨by simp, .inl ⟨_, _, rfl, run_takeDeferred hD4, ?_⟩⟩
    exact ⟨_, results_tal (a := 2) rfl rfl (take_own h4 hD4) hlen, rfl, (below_grown hB hg4 (Nat.le_refl _)).trans (belowK_b (w := w) (Nat.le_refl _) _ D _ _ (by omega) hD4 rfl rfl)⟩
end Go.Proofs.YtenddeglhjmhcaaDoor
