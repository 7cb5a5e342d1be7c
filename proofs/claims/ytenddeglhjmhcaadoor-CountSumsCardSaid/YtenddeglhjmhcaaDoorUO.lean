/- The document's Line. -/
import Derived.Test.YtenddeglhjmhcaaDoorUN
import Derived.Test.YtenddeglhjmhcaaDoorUJ
namespace Go.Proofs.YtenddeglhjmhcaaDoor
open Go.RowKit

theorem ArrB.vread {T : TypeId} {W : World} {b : Nat} {t : List Int} (h : ArrB T W b t) : VRead W (some ⟨b, 0, none⟩) (t.map intV) := fun _ => ⟨b, 0, rfl, (Array.getElem?_eq_some_iff.1 h).1, fun k x hk => by
  rw [Nat.zero_add, cell_of h]
  simpa using hk⟩
def isI (x : Int) : Ph := fun v W => ∃ g, v = .slice (some ⟨g, 0, none⟩) 1 1 ∧ W.heap[g]? = some (.cells #[intV x] 3 (0, 0))
theorem isI.stay {x : Int} : ∀ v W W', isI x v W → RelB W W' → isI x v W' := fun _ _ _ ⟨g, h1, h2⟩ hb => ⟨g, h1, (hb.block g (Array.getElem?_eq_some_iff.1 h2).1).trans h2⟩
theorem one_at {t : List Int} {k : Nat} {x : Int} (h : t[k]? = some x) : (t.drop k).take 1 = [x] := by
  have hl := (List.getElem?_eq_some_iff.1 h).1
  rw [List.drop_eq_getElem_cons hl, (List.getElem?_eq_some_iff.1 h).2]
  rfl
theorem str_len {a : List UInt8} {n : Nat} (h : a.length ≤ n) (b : List UInt8) {m : Nat} (hb : b.length ≤ m) : (a ++ b).length ≤ n + m := by rw [List.length_append]; omega
set_option maxRecDepth 100000 in
set_option maxHeartbeats 8000000 in
theorem t_rline (t : List Int) (ht : Tal t) (w : World) (hT : Tab w) :
    Calls Tryd.prog 10 #[talV t] w fun e w' => e = .returned (strV (lineT t)) ∧ Below w.heap.size w w' := by
  have HT := Lib.hid ht
  have HTB := Lib.hid hT
  have HTL := Lib.hid ht.1
  clear ht hT
  go_enter Tryd.func10, Tryd.ntmps10
  go_wp2
  have HA0 : Hid (TalB (w.alloc (.cells (t.map intV).toArray 26)) w.heap.size t) := heap_alloc_new _ _
  have HW0 := Lib.hid ((Below.refl w.heap.size w).alloc (Nat.le_refl _) (.cells (t.map intV).toArray 26))
  have HN0 : Hid (w.heap.size + 1 ≤ (w.alloc (.cells (t.map intV).toArray 26)).heap.size) := by rw [Hid, World.size_alloc]; exact Nat.le_refl _
  obtain ⟨w0, hw0⟩ : ∃ w0, w.alloc (.cells (t.map intV).toArray 26) = w0 := ⟨_, rfl⟩
  rw [hw0] at HA0 HW0 HN0 ⊢
  clear hw0
  have hle := lineT_eq t
  obtain ⟨x0, hx0⟩ : ∃ x, t[20]? = some x := ⟨_, List.getElem?_eq_getElem (by rw [HTL.out]; decide)⟩
  obtain ⟨x1, hx1⟩ : ∃ x, t[21]? = some x := ⟨_, List.getElem?_eq_getElem (by rw [HTL.out]; decide)⟩
  rw [one_at hx0, one_at hx1] at hle
  have HI0 := Lib.hid (HT.out.2 x0 (List.mem_of_getElem? hx0))
  have HI1 := Lib.hid (HT.out.2 x1 (List.mem_of_getElem? hx1))
  have HX := Lib.hid (And.intro hx0 hx1)
  clear hx0 hx1
  obtain ⟨A1, hA1⟩ : ∃ A1, t.take 4 = A1 := ⟨_, rfl⟩
  obtain ⟨A2, hA2⟩ : ∃ A2, (t.drop 4).take 16 = A2 := ⟨_, rfl⟩
  have HL1 : Hid (A1.length = 4) := by rw [← hA1, List.length_take, HTL.out]; rfl
  have HL2 : Hid (A2.length = 16) := by rw [← hA2, List.length_take, List.length_drop, HTL.out]; rfl
  have HJ1 : Hid (∀ x ∈ A1, I64 x) := fun x hx => HT.out.2 x (by rw [← hA1] at hx; exact List.mem_of_mem_take hx)
  have HJ2 : Hid (∀ x ∈ A2, I64 x) := fun x hx => HT.out.2 x (by rw [← hA2] at hx; exact List.mem_of_mem_drop (List.mem_of_mem_take hx))
  have HR1 : Hid (∀ W, Below w0.heap.size w0 W → W.rangeAt w.heap.size 0 (A1.map intV)) := fun W h => by rw [← hA1]; exact tal4 (HA0.out.below h)
  have HR2 : Hid (∀ W, Below w0.heap.size w0 W → W.rangeAt w.heap.size 4 (A2.map intV)) := fun W h => by rw [← hA2]; exact tal16 (HA0.out.below h)
  rw [hA1, hA2] at hle
  clear hA1 hA2
  have HRI : Hid (∀ x, I64 x → ∀ (g : Nat) W, Below w.heap.size w W → W.heap[g]? = some (.cells #[intV x] 3 (0, 0)) → Calls Tryd.prog 19 #[.slice (some ⟨g, 0, none⟩) 1 1] W fun e w' => e = .returned (strV (rowS [x])) ∧ Below W.heap.size W w') := fun x hx g W hW hg =>
    t_row (some ⟨g, 0, none⟩) 1 1 [x] W (HTB.out.below hW) (ArrB.vread (T := 3) (t := [x]) hg) rfl (by decide) fun y hy => by rw [List.mem_singleton.1 hy]; exact hx
  have l1 := row_len HJ1.out (by rw [HL1.out]; decide)
  have l2 := row_len HJ2.out (by rw [HL2.out]; decide)
  have l3 := row_len (l := [x0]) (fun y hy => by rw [List.mem_singleton.1 hy]; exact HI0.out) (show 1 ≤ 16 by decide)
  have l4 := row_len (l := [x1]) (fun y hy => by rw [List.mem_singleton.1 hy]; exact HI1.out) (show 1 ≤ 16 by decide)
  obtain ⟨r1, hr1⟩ : ∃ r1, rowS A1 = r1 := ⟨_, rfl⟩
  obtain ⟨r2, hr2⟩ : ∃ r2, rowS A2 = r2 := ⟨_, rfl⟩
  obtain ⟨r3, hr3⟩ : ∃ r3, rowS [x0] = r3 := ⟨_, rfl⟩
  obtain ⟨r4, hr4⟩ : ∃ r4, rowS [x1] = r4 := ⟨_, rfl⟩
  rw [hr1] at l1 hle
  rw [hr2] at l2 hle
  rw [hr3] at l3 hle
  rw [hr4] at l4 hle
  have HRR := Lib.hid (And.intro hr1 (And.intro hr2 (And.intro hr3 hr4)))
  clear hr1 hr2 hr3 hr4
  have lq2 := str_len (show [(107 : UInt8)].length ≤ 1000 by decide) (r1) l1
  have Eq2 : Hid ((⟨#[107]⟩ : ByteArray) ++ ⟨r1.toArray⟩ = ⟨([107] ++ r1).toArray⟩) := str_app ([107]) (r1)
  obtain ⟨q2, hq2⟩ : ∃ q2, [107] ++ r1 = q2 := ⟨_, rfl⟩
  rw [hq2] at lq2 Eq2 hle
  clear hq2
  have lq3 := str_len lq2 ([32, 99]) (show ([32, 99] : List UInt8).length ≤ 1000 by decide)
  have Eq3 : Hid ((⟨q2.toArray⟩ : ByteArray) ++ ⟨#[32, 99]⟩ = ⟨(q2 ++ [32, 99]).toArray⟩) := str_app (q2) ([32, 99])
  obtain ⟨q3, hq3⟩ : ∃ q3, q2 ++ [32, 99] = q3 := ⟨_, rfl⟩
  rw [hq3] at lq3 Eq3 hle
  clear hq3
  have lq6 := str_len lq3 (r2) l2
  have Eq6 : Hid ((⟨q3.toArray⟩ : ByteArray) ++ ⟨r2.toArray⟩ = ⟨(q3 ++ r2).toArray⟩) := str_app (q3) (r2)
  obtain ⟨q6, hq6⟩ : ∃ q6, q3 ++ r2 = q6 := ⟨_, rfl⟩
  rw [hq6] at lq6 Eq6 hle
  clear hq6
  have lq7 := str_len lq6 ([32, 103]) (show ([32, 103] : List UInt8).length ≤ 1000 by decide)
  have Eq7 : Hid ((⟨q6.toArray⟩ : ByteArray) ++ ⟨#[32, 103]⟩ = ⟨(q6 ++ [32, 103]).toArray⟩) := str_app (q6) ([32, 103])
  obtain ⟨q7, hq7⟩ : ∃ q7, q6 ++ [32, 103] = q7 := ⟨_, rfl⟩
  rw [hq7] at lq7 Eq7 hle
  clear hq7
  have lq12 := str_len lq7 (r3) l3
  have Eq12 : Hid ((⟨q7.toArray⟩ : ByteArray) ++ ⟨r3.toArray⟩ = ⟨(q7 ++ r3).toArray⟩) := str_app (q7) (r3)
  obtain ⟨q12, hq12⟩ : ∃ q12, q7 ++ r3 = q12 := ⟨_, rfl⟩
  rw [hq12] at lq12 Eq12 hle
  clear hq12
  have lq13 := str_len lq12 ([32, 98]) (show ([32, 98] : List UInt8).length ≤ 1000 by decide)
  have Eq13 : Hid ((⟨q12.toArray⟩ : ByteArray) ++ ⟨#[32, 98]⟩ = ⟨(q12 ++ [32, 98]).toArray⟩) := str_app (q12) ([32, 98])
  obtain ⟨q13, hq13⟩ : ∃ q13, q12 ++ [32, 98] = q13 := ⟨_, rfl⟩
  rw [hq13] at lq13 Eq13 hle
  clear hq13
  have lq18 := str_len lq13 (r4) l4
  have Eq18 : Hid ((⟨q13.toArray⟩ : ByteArray) ++ ⟨r4.toArray⟩ = ⟨(q13 ++ r4).toArray⟩) := str_app (q13) (r4)
  obtain ⟨q18, hq18⟩ : ∃ q18, q13 ++ r4 = q18 := ⟨_, rfl⟩
  rw [hq18] at lq18 Eq18 hle
  clear hq18
  have HLE := Lib.hid hle
  clear hle
  have Lq2 := Lib.hid lq2
  have Lq3 := Lib.hid lq3
  have Lq6 := Lib.hid lq6
  have Lq7 := Lib.hid lq7
  have Lq12 := Lib.hid lq12
  have Lq13 := Lib.hid lq13
  have Lr := Lib.hid (And.intro l1 (And.intro l2 (And.intro l3 l4)))
  clear l1 l2 l3 l4 lq2 lq3 lq6 lq7 lq12 lq13 lq18
  refine wp_region_rel (RelA w0.heap.size A1 A2) (phi [isV (.pointer (some ⟨w.heap.size, 0, none⟩)), isV (.agg (A1.map intV).toArray), isV (.pointer (some ⟨w.heap.size, 4, none⟩)), isV (.agg (A2.map intV).toArray), (is4 w0.heap.size A1), (is16 w0.heap.size A2), (full4 w0.heap.size A1), (full16 w0.heap.size A2)]) (by kernel_rfl) (by kernel_rfl) (by kernel_rfl) RelA.drew (fun _ _ _ a b => a.trans b) ?_ ?_ ?_
  · refine stays_phiR ?_
    simp only [List.forall_mem_cons]
    exact ⟨fun _ _ _ h _ => h, fun _ _ _ h _ => h, fun _ _ _ h _ => h, fun _ _ _ h _ => h, is4.stay, is16.stay, full4.stay, full16.stay, fun _ h => absurd h (by simp)⟩
  · refine ⟨?_, ?_, ?_, ?_, ?_, ?_, ?_, ?_, trivial⟩
    · refine opR_mk rfl fun aa W2 hB hp hq K hK => ?_
      have e1 : aa.tmps[1]?.getD undef = .pointer (some ⟨w.heap.size, 0, none⟩) := hp 1 (by kernel_rfl)
      clear hp hq
      go_simp
      exact hK _ _ RelA.refl rfl
    · refine opR_mk rfl fun aa W2 hB hp hq K hK => ?_
      have e5 : aa.tmps[5]?.getD undef = .pointer (some ⟨w.heap.size, 0, none⟩) := hq 0 _ (by kernel_rfl) rfl
      clear hp hq
      refine wp_load_mid 23 _ rfl w.heap.size 0 (ev_tmp e5) (A1.map intV) _ (HR1.out W2 (And.left hB)) Tryd.underlying23 rfl (by rw [List.length_map, HL1.out]; exact infoA4) ?_
      exact hK _ _ RelA.refl rfl
    · refine opR_mk rfl fun aa W2 hB hp hq K hK => ?_
      have e1 : aa.tmps[1]?.getD undef = .pointer (some ⟨w.heap.size, 0, none⟩) := hp 1 (by kernel_rfl)
      clear hp hq
      go_simp
      exact hK _ _ RelA.refl rfl
    · refine opR_mk rfl fun aa W2 hB hp hq K hK => ?_
      have e7 : aa.tmps[7]?.getD undef = .pointer (some ⟨w.heap.size, 4, none⟩) := hq 2 _ (by kernel_rfl) rfl
      clear hp hq
      refine wp_load_mid 24 _ rfl w.heap.size 4 (ev_tmp e7) (A2.map intV) _ (HR2.out W2 (And.left hB)) Tryd.underlying24 rfl (by rw [List.length_map, HL2.out]; exact infoA16) ?_
      exact hK _ _ RelA.refl rfl
    · refine opR_mk rfl fun aa W2 hB hp hq K hK => ?_
      have hn0 : w0.heap.size ≤ W2.heap.size := (And.left hB).size
      have HN := Lib.hid hn0
      clear hn0
      clear hp hq
      go_simp
      exact hK _ _ (RelA.alloc HN.out _) ⟨_, rfl, HN.out, .inl (heap_alloc_new _ _)⟩
    · refine opR_mk rfl fun aa W2 hB hp hq K hK => ?_
      have hn0 : w0.heap.size ≤ W2.heap.size := (And.left hB).size
      have HN := Lib.hid hn0
      clear hn0
      clear hp hq
      go_simp
      exact hK _ _ (RelA.alloc HN.out _) ⟨_, rfl, HN.out, .inl (heap_alloc_new _ _)⟩
    · refine opR_mk rfl fun aa W2 hB hp hq K hK => ?_
      have hn0 : w0.heap.size ≤ W2.heap.size := (And.left hB).size
      obtain ⟨g, ea, hg, h4⟩ : is4 w0.heap.size A1 (aa.tmps[3]?.getD undef) W2 := hq 4 _ (by kernel_rfl) rfl
      have eb : aa.tmps[6]?.getD undef = .agg (A1.map intV).toArray := hq 1 _ (by kernel_rfl) rfl
      obtain ⟨r1, r2⟩ := RelA.put4 (A2 := A2) hg hn0 h4 HL1.out
      have hth : W2.there g 0 4 := h4.elim (fun h => h.there rfl) fun h => h.there HL1.out
      have hsz : (A1.map intV).toArray.size = 4 := by simp [HL1.out]
      clear hp hq
      refine wp_store_mid 23 _ _ rfl g 0 (A1.map intV).toArray (ev_tmp ea) (ev_tmp eb) (by rw [hsz]; exact hth) (by rw [hsz]; exact infoA4) (all_oneCell_toArray fun v hv => by obtain ⟨x, _, rfl⟩ := List.mem_map.1 hv; rfl) ?_
      rw [List.toList_toArray]
      refine hK _ _ r1 ?_
      show full4 w0.heap.size A1 (aa.tmps[3]?.getD undef) _
      exact ⟨g, ea, hg, r2⟩
    · refine opR_mk rfl fun aa W2 hB hp hq K hK => ?_
      have hn0 : w0.heap.size ≤ W2.heap.size := (And.left hB).size
      obtain ⟨g, ea, hg, h4⟩ : is16 w0.heap.size A2 (aa.tmps[4]?.getD undef) W2 := hq 5 _ (by kernel_rfl) rfl
      have eb : aa.tmps[8]?.getD undef = .agg (A2.map intV).toArray := hq 3 _ (by kernel_rfl) rfl
      obtain ⟨r1, r2⟩ := RelA.put16 (A1 := A1) hg hn0 h4 HL2.out
      have hth : W2.there g 0 16 := h4.elim (fun h => h.there rfl) fun h => h.there HL2.out
      have hsz : (A2.map intV).toArray.size = 16 := by simp [HL2.out]
      clear hp hq
      refine wp_store_mid 24 _ _ rfl g 0 (A2.map intV).toArray (ev_tmp ea) (ev_tmp eb) (by rw [hsz]; exact hth) (by rw [hsz]; exact infoA16) (all_oneCell_toArray fun v hv => by obtain ⟨x, _, rfl⟩ := List.mem_map.1 hv; rfl) ?_
      rw [List.toList_toArray]
      refine hK _ _ r1 ?_
      show full16 w0.heap.size A2 (aa.tmps[4]?.getD undef) _
      exact ⟨g, ea, hg, r2⟩
  · intro vs W3 hB3 hv3 hst3
    obtain ⟨g4, v4, n4, k4⟩ : full4 w0.heap.size A1 (vs 4) W3 := hst3 6 _ 3 4 _ rfl rfl rfl rfl rfl
    obtain ⟨g16, v5, n16, k16⟩ : full16 w0.heap.size A2 (vs 5) W3 := hst3 7 _ 4 5 _ rfl rfl rfl rfl rfl
    have H3 := Lib.hid (And.left hB3)
    have HK4 := Lib.hid k4
    have HK16 := Lib.hid k16
    clear hB3 hv3 hst3 k4 k16
    simp only [putAll, Act.put, List.setIfInBounds_toArray, List.set_cons_succ, List.set_cons_zero, Nat.zero_add, Nat.reduceAdd, v4, v5]
    have HA3 := HA0.out.below H3.out
    have HX3 := Lib.hid (And.intro (HA3.cell HX.out.1) (HA3.cell HX.out.2))
    have HW3 : Hid (∀ W, Below W3.heap.size W3 W → Below w.heap.size w W) := fun W h => ptrans HW0.out (ptrans H3.out h)
    clear HA3
    have HC4 : Hid (∀ W, Below W3.heap.size W3 W → Calls Tryd.prog 19 #[.slice (some ⟨g4, 0, none⟩) 4 4] W fun e w' => e = .returned (strV r1) ∧ Below W.heap.size W w') := fun W h => by rw [← HRR.out.1]; exact t_row _ 4 4 A1 W (HTB.out.below (HW3.out W h)) (HK4.out.below h).vread HL1.out (by decide) HJ1.out
    have HC16 : Hid (∀ W, Below W3.heap.size W3 W → Calls Tryd.prog 19 #[.slice (some ⟨g16, 0, none⟩) 16 16] W fun e w' => e = .returned (strV r2) ∧ Below W.heap.size W w') := fun W h => by rw [← HRR.out.2.1]; exact t_row _ 16 16 A2 W (HTB.out.below (HW3.out W h)) (HK16.out.below h).vread HL2.out (by decide) HJ2.out
    go_wp2
    refine wp_region_rel RelB (phi [isV (.slice (some ⟨g4, 0, none⟩) 4 4), isV (.string ⟨r1.toArray⟩), isV (.string ⟨q2.toArray⟩), isV (.string ⟨q3.toArray⟩), isV (.slice (some ⟨g16, 0, none⟩) 16 16), isV (.string ⟨r2.toArray⟩), isV (.string ⟨q6.toArray⟩), isV (.string ⟨q7.toArray⟩), isV (.pointer (some ⟨w.heap.size, 20, none⟩)), isV (.int .i64 x0), (isI x0), isV (.string ⟨r3.toArray⟩), isV (.string ⟨q12.toArray⟩), isV (.string ⟨q13.toArray⟩), isV (.pointer (some ⟨w.heap.size, 21, none⟩)), isV (.int .i64 x1), (isI x1), isV (.string ⟨r4.toArray⟩), isV (.string ⟨q18.toArray⟩), isV (.string ⟨q18.toArray⟩)]) (by kernel_rfl) (by kernel_rfl) (by kernel_rfl) (RelB.of (below_drew _)) (fun _ _ _ a b => a.trans b) ?_ ?_ ?_
    · refine stays_phiR ?_
      simp only [List.forall_mem_cons]
      exact ⟨fun _ _ _ h _ => h, fun _ _ _ h _ => h, fun _ _ _ h _ => h, fun _ _ _ h _ => h, fun _ _ _ h _ => h, fun _ _ _ h _ => h, fun _ _ _ h _ => h, fun _ _ _ h _ => h, fun _ _ _ h _ => h, fun _ _ _ h _ => h, isI.stay, fun _ _ _ h _ => h, fun _ _ _ h _ => h, fun _ _ _ h _ => h, fun _ _ _ h _ => h, fun _ _ _ h _ => h, isI.stay, fun _ _ _ h _ => h, fun _ _ _ h _ => h, fun _ _ _ h _ => h, fun _ h => absurd h (by simp)⟩
    · refine ⟨?_, ?_, ?_, ?_, ?_, ?_, ?_, ?_, ?_, ?_, ?_, ?_, ?_, ?_, ?_, ?_, ?_, ?_, ?_, ?_, trivial⟩
      · refine opR_mk rfl fun aa W2 hB hp hq K hK => ?_
        have e3 : aa.tmps[3]?.getD undef = .pointer (some ⟨g4, 0, none⟩) := hp 3 (by kernel_rfl)
        clear hp hq
        go_simp
        exact hK _ _ (RelB.refl _) rfl
      · refine opR_mk rfl fun aa W2 hB hp hq K hK => ?_
        have e9 : aa.tmps[9]?.getD undef = .slice (some ⟨g4, 0, none⟩) 4 4 := hq 0 _ (by kernel_rfl) rfl
        have hb2 : Below W3.heap.size W3 W2 := hB
        clear hp hq
        go_simp
        go_at_call 19
        (with_reducible refine (HC4.out _ hb2).mono ?_)
        rintro e5 w7 ⟨rfl, h7⟩
        exact hK _ _ h7 rfl
      · refine opR_mk rfl fun aa W2 hB hp hq K hK => ?_
        have e10 : aa.tmps[10]?.getD undef = .string ⟨r1.toArray⟩ := hq 1 _ (by kernel_rfl) rfl
        clear hp hq
        go_simp
        rw [if_neg (by have h2 := Lr.out; omega)]
        exact hK _ _ (RelB.refl _) (congrArg Value.string Eq2.out)
      · refine opR_mk rfl fun aa W2 hB hp hq K hK => ?_
        have e11 : aa.tmps[11]?.getD undef = .string ⟨q2.toArray⟩ := hq 2 _ (by kernel_rfl) rfl
        clear hp hq
        go_simp
        rw [if_neg (by have h1 := Lq2.out; have h2 := Lr.out; omega)]
        exact hK _ _ (RelB.refl _) (congrArg Value.string Eq3.out)
      · refine opR_mk rfl fun aa W2 hB hp hq K hK => ?_
        have e4 : aa.tmps[4]?.getD undef = .pointer (some ⟨g16, 0, none⟩) := hp 4 (by kernel_rfl)
        clear hp hq
        go_simp
        exact hK _ _ (RelB.refl _) rfl
      · refine opR_mk rfl fun aa W2 hB hp hq K hK => ?_
        have e13 : aa.tmps[13]?.getD undef = .slice (some ⟨g16, 0, none⟩) 16 16 := hq 4 _ (by kernel_rfl) rfl
        have hb2 : Below W3.heap.size W3 W2 := hB
        clear hp hq
        go_simp
        go_at_call 19
        (with_reducible refine (HC16.out _ hb2).mono ?_)
        rintro e5 w7 ⟨rfl, h7⟩
        exact hK _ _ h7 rfl
      · refine opR_mk rfl fun aa W2 hB hp hq K hK => ?_
        have e12 : aa.tmps[12]?.getD undef = .string ⟨q3.toArray⟩ := hq 3 _ (by kernel_rfl) rfl
        have e14 : aa.tmps[14]?.getD undef = .string ⟨r2.toArray⟩ := hq 5 _ (by kernel_rfl) rfl
        clear hp hq
        go_simp
        rw [if_neg (by have h1 := Lq3.out; have h2 := Lr.out; omega)]
        exact hK _ _ (RelB.refl _) (congrArg Value.string Eq6.out)
      · refine opR_mk rfl fun aa W2 hB hp hq K hK => ?_
        have e15 : aa.tmps[15]?.getD undef = .string ⟨q6.toArray⟩ := hq 6 _ (by kernel_rfl) rfl
        clear hp hq
        go_simp
        rw [if_neg (by have h1 := Lq6.out; have h2 := Lr.out; omega)]
        exact hK _ _ (RelB.refl _) (congrArg Value.string Eq7.out)
      · refine opR_mk rfl fun aa W2 hB hp hq K hK => ?_
        have e1 : aa.tmps[1]?.getD undef = .pointer (some ⟨w.heap.size, 0, none⟩) := hp 1 (by kernel_rfl)
        clear hp hq
        go_simp
        exact hK _ _ (RelB.refl _) rfl
      · refine opR_mk rfl fun aa W2 hB hp hq K hK => ?_
        have e17 : aa.tmps[17]?.getD undef = .pointer (some ⟨w.heap.size, 20, none⟩) := hq 8 _ (by kernel_rfl) rfl
        have c1 := cell_bel HX3.out.1 hB
        clear hp hq
        go_simp
        exact hK _ _ (RelB.refl _) rfl
      · refine opR_mk rfl fun aa W2 hB hp hq K hK => ?_
        have e18 : aa.tmps[18]?.getD undef = .int .i64 x0 := hq 9 _ (by kernel_rfl) rfl
        clear hp hq
        go_simp
        exact hK _ _ ((Below.refl _ _).alloc (Nat.le_refl _) _) ⟨_, rfl, heap_alloc_new _ _⟩
      · refine opR_mk rfl fun aa W2 hB hp hq K hK => ?_
        obtain ⟨g, ea, hg⟩ : isI x0 (aa.tmps[19]?.getD undef) W2 := hq 10 _ (by kernel_rfl) rfl
        have HC := Lib.hid (HRI.out x0 HI0.out g W2 (HW3.out W2 hB) hg)
        rw [HRR.out.2.2.1] at HC
        clear hg
        clear hp hq
        go_simp
        go_at_call 19
        (with_reducible refine (HC.out).mono ?_)
        rintro e5 w7 ⟨rfl, h7⟩
        exact hK _ _ h7 rfl
      · refine opR_mk rfl fun aa W2 hB hp hq K hK => ?_
        have e16 : aa.tmps[16]?.getD undef = .string ⟨q7.toArray⟩ := hq 7 _ (by kernel_rfl) rfl
        have e20 : aa.tmps[20]?.getD undef = .string ⟨r3.toArray⟩ := hq 11 _ (by kernel_rfl) rfl
        clear hp hq
        go_simp
        rw [if_neg (by have h1 := Lq7.out; have h2 := Lr.out; omega)]
        exact hK _ _ (RelB.refl _) (congrArg Value.string Eq12.out)
      · refine opR_mk rfl fun aa W2 hB hp hq K hK => ?_
        have e21 : aa.tmps[21]?.getD undef = .string ⟨q12.toArray⟩ := hq 12 _ (by kernel_rfl) rfl
        clear hp hq
        go_simp
        rw [if_neg (by have h1 := Lq12.out; have h2 := Lr.out; omega)]
        exact hK _ _ (RelB.refl _) (congrArg Value.string Eq13.out)
      · refine opR_mk rfl fun aa W2 hB hp hq K hK => ?_
        have e1 : aa.tmps[1]?.getD undef = .pointer (some ⟨w.heap.size, 0, none⟩) := hp 1 (by kernel_rfl)
        clear hp hq
        go_simp
        exact hK _ _ (RelB.refl _) rfl
      · refine opR_mk rfl fun aa W2 hB hp hq K hK => ?_
        have e23 : aa.tmps[23]?.getD undef = .pointer (some ⟨w.heap.size, 21, none⟩) := hq 14 _ (by kernel_rfl) rfl
        have c1 := cell_bel HX3.out.2 hB
        clear hp hq
        go_simp
        exact hK _ _ (RelB.refl _) rfl
      · refine opR_mk rfl fun aa W2 hB hp hq K hK => ?_
        have e24 : aa.tmps[24]?.getD undef = .int .i64 x1 := hq 15 _ (by kernel_rfl) rfl
        clear hp hq
        go_simp
        exact hK _ _ ((Below.refl _ _).alloc (Nat.le_refl _) _) ⟨_, rfl, heap_alloc_new _ _⟩
      · refine opR_mk rfl fun aa W2 hB hp hq K hK => ?_
        obtain ⟨g, ea, hg⟩ : isI x1 (aa.tmps[25]?.getD undef) W2 := hq 16 _ (by kernel_rfl) rfl
        have HC := Lib.hid (HRI.out x1 HI1.out g W2 (HW3.out W2 hB) hg)
        rw [HRR.out.2.2.2] at HC
        clear hg
        clear hp hq
        go_simp
        go_at_call 19
        (with_reducible refine (HC.out).mono ?_)
        rintro e5 w7 ⟨rfl, h7⟩
        exact hK _ _ h7 rfl
      · refine opR_mk rfl fun aa W2 hB hp hq K hK => ?_
        have e22 : aa.tmps[22]?.getD undef = .string ⟨q13.toArray⟩ := hq 13 _ (by kernel_rfl) rfl
        have e26 : aa.tmps[26]?.getD undef = .string ⟨r4.toArray⟩ := hq 17 _ (by kernel_rfl) rfl
        clear hp hq
        go_simp
        rw [if_neg (by have h1 := Lq13.out; have h2 := Lr.out; omega)]
        exact hK _ _ (RelB.refl _) (congrArg Value.string Eq18.out)
      · refine opR_mk rfl fun aa W2 hB hp hq K hK => ?_
        have e27 : aa.tmps[27]?.getD undef = .string ⟨q18.toArray⟩ := hq 18 _ (by kernel_rfl) rfl
        clear hp hq
        go_simp
        exact hK _ _ (RelB.refl _) rfl
    · intro vs2 W4 hB4 hv4 _
      have f19 : vs2 19 = .string ⟨q18.toArray⟩ := hv4 19 _ rfl rfl
      have HB4 := Lib.hid (HW3.out _ hB4)
      clear hv4 hB4
      simp only [putAll, Act.put, List.setIfInBounds_toArray, List.set_cons_succ, List.set_cons_zero, Nat.zero_add, Nat.reduceAdd, f19]
      go_wp2
      go_ret
      exact ⟨by rw [HLE.out]; rfl, HB4.out⟩
end Go.Proofs.YtenddeglhjmhcaaDoor
