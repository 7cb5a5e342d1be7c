/- The document's add, walked. -/
import Derived.Test.YtenddeglhjmhcaaDoorUI
import Derived.Great.Walk
namespace Go.Proofs.YtenddeglhjmhcaaDoor
open Go.RowKit

/-- What add does to two numbers. -/
def fA (u x y : Int) : Int := wrap64 (x + wrap64 (u * y))
set_option maxRecDepth 100000 in
theorem built_tal : ∀ (A C : List Int) (x y : Int), A.length = 4 → C.length = 16 → Tryd.prog.built 26 [(0, .agg (A.map intV).toArray), (1, .agg (C.map intV).toArray), (2, intV x), (3, intV y)] = some ((A ++ (C ++ [x, y])).map intV).toArray
  | [_, _, _, _], [_, _, _, _, _, _, _, _, _, _, _, _, _, _, _, _], _, _, _, _ => by kernel_rfl
theorem zip_parts {f : Int → Int → Int} {a b : List Int} (ha : a.length = 22) (hb : b.length = 22) {x0 x1 y0 y1 : Int} (h1 : a[20]? = some x0) (h2 : a[21]? = some x1) (h3 : b[20]? = some y0) (h4 : b[21]? = some y1) :
    List.zipWith f (a.take 4) (b.take 4) ++ (List.zipWith f ((a.drop 4).take 16) ((b.drop 4).take 16) ++ [f x0 y0, f x1 y1]) = List.zipWith f a b := by
  obtain ⟨p, q, g1, g2, e1⟩ := tal_split ha
  obtain ⟨r, s, g3, g4, e2⟩ := tal_split hb
  rw [h1] at g1; rw [h2] at g2; rw [h3] at g3; rw [h4] at g4
  cases g1; cases g2; cases g3; cases g4
  conv => rhs; rw [e1, e2]
  rw [List.zipWith_append (by simp [ha, hb]), List.zipWith_append (by simp [ha, hb])]
  rfl
/-- A row's copy, so many numbers done. -/
def StA (T : TypeId) (f : Int → Int → Int) (A B : List Int) (g : Nat) (w3 W : World) (j : Nat) : Prop := ArrB T W g (mixL f A B j) ∧ w3.grownBy W (some g)
theorem StA.below {T : TypeId} {f : Int → Int → Int} {A B : List Int} {g j : Nat} {w3 W W' : World} (h : StA T f A B g w3 W j) (hb : Below W.heap.size W W') : StA T f A B g w3 W' j := ⟨h.1.below hb, grown_bel h.2 hb⟩
theorem StA.set {T : TypeId} {f : Int → Int → Int} {A B : List Int} {g j n : Nat} {w3 W : World} (h : StA T f A B g w3 W j) (ht : A.length = n) (hy : B.length = n) {a b : Int} (ha : A[j]? = some a) (hb : B[j]? = some b) : StA T f A B g w3 (W.setCell ⟨g, j, none⟩ (.int .i64 (f a b))) (j + 1) :=
  ⟨by rw [← mix_set ht hy ha hb]; exact h.1.set j _, pgrown_trans h.2 (pgrown_set _ _ _ _)⟩
theorem fA_wrap (u x y : Int) : IntKind.i64.wrap (x + IntKind.i64.wrap (u * y)) = fA u x y := by rw [wrap_k, wrap_k]; rfl
set_option maxRecDepth 100000 in
set_option maxHeartbeats 8000000 in
theorem t_add (a b : List Int) (ht : a.length = 22) (hy : b.length = 22) (u : Int) (w : World) :
    Calls Tryd.prog 16 #[talV a, talV b, .int .i64 u] w fun e w' => e = .returned (talV (List.zipWith (fA u) a b)) ∧ Below w.heap.size w w' := by
  have HT := Lib.hid ht
  have HY := Lib.hid hy
  clear ht hy
  go_enter Tryd.func16, Tryd.ntmps16
  go_wp2
  obtain ⟨h1, h2, h3, h4, h5⟩ := three_blocks (Below.refl _ (((w.alloc (.cells (a.map intV).toArray 26)).alloc (.cells (b.map intV).toArray 26)).alloc (.cells #[.int .i64 0, .int .i64 0, .int .i64 0, .int .i64 0, .int .i64 0, .int .i64 0, .int .i64 0, .int .i64 0, .int .i64 0, .int .i64 0, .int .i64 0, .int .i64 0, .int .i64 0, .int .i64 0, .int .i64 0, .int .i64 0, .int .i64 0, .int .i64 0, .int .i64 0, .int .i64 0, .int .i64 0, .int .i64 0] 26)))
  obtain ⟨w0, hw0⟩ : ∃ w0, (((w.alloc (.cells (a.map intV).toArray 26)).alloc (.cells (b.map intV).toArray 26)).alloc (.cells #[.int .i64 0, .int .i64 0, .int .i64 0, .int .i64 0, .int .i64 0, .int .i64 0, .int .i64 0, .int .i64 0, .int .i64 0, .int .i64 0, .int .i64 0, .int .i64 0, .int .i64 0, .int .i64 0, .int .i64 0, .int .i64 0, .int .i64 0, .int .i64 0, .int .i64 0, .int .i64 0, .int .i64 0, .int .i64 0] 26)) = w0 := ⟨_, rfl⟩
  rw [hw0] at h1 h2 h3 h4 h5 ⊢
  have HA0 : Hid (TalB w0 w.heap.size a) := h1
  have HB0 : Hid (TalB w0 (w.heap.size + 1) b) := h2
  have HZ0 : Hid (TalB w0 (w.heap.size + 1 + 1) zT) := by rw [TalB, zT_arr]; exact h3
  have HW0 := Lib.hid h4
  have HN0 := Lib.hid h5
  clear h1 h2 h3 h4 h5 hw0
  obtain ⟨A1, hA1⟩ : ∃ A1, a.take 4 = A1 := ⟨_, rfl⟩
  obtain ⟨A2, hA2⟩ : ∃ A2, (a.drop 4).take 16 = A2 := ⟨_, rfl⟩
  have HL1 : Hid (A1.length = 4) := by rw [← hA1, List.length_take, HT.out]; rfl
  have HL2 : Hid (A2.length = 16) := by rw [← hA2, List.length_take, List.length_drop, HT.out]; rfl
  have HR1 : Hid (∀ W, Below w0.heap.size w0 W → W.rangeAt w.heap.size 0 (A1.map intV)) := fun W h => by rw [← hA1]; exact tal4 (HA0.out.below h)
  have HR2 : Hid (∀ W, Below w0.heap.size w0 W → W.rangeAt w.heap.size 4 (A2.map intV)) := fun W h => by rw [← hA2]; exact tal16 (HA0.out.below h)
  obtain ⟨B1, hB1⟩ : ∃ B1, b.take 4 = B1 := ⟨_, rfl⟩
  obtain ⟨B2, hB2⟩ : ∃ B2, (b.drop 4).take 16 = B2 := ⟨_, rfl⟩
  have HM1 : Hid (B1.length = 4) := by rw [← hB1, List.length_take, HY.out]; rfl
  have HM2 : Hid (B2.length = 16) := by rw [← hB2, List.length_take, List.length_drop, HY.out]; rfl
  have HG1 : Hid (∀ j y, B1[j]? = some y → b[j]? = some y) := fun j y h => by
    rw [← hB1] at h
    have hj : j < 4 := by have := (List.getElem?_eq_some_iff.1 h).1; rw [List.length_take] at this; omega
    rwa [List.getElem?_take_of_lt hj] at h
  have HG2 : Hid (∀ j y, B2[j]? = some y → b[4 + j]? = some y) := fun j y h => by
    rw [← hB2] at h
    have hj : j < 16 := by have := (List.getElem?_eq_some_iff.1 h).1; rw [List.length_take] at this; omega
    rwa [List.getElem?_take_of_lt hj, List.getElem?_drop] at h
  have HE3 := Lib.hid hB1
  have HE4 := Lib.hid hB2
  clear hB1 hB2
  have HE1 := Lib.hid hA1
  have HE2 := Lib.hid hA2
  clear hA1 hA2
  refine wp_region_rel (RelA w0.heap.size A1 A2) (phi [isV (.pointer (some ⟨w.heap.size, 0, none⟩)), isV (.agg (A1.map intV).toArray), isV (.pointer (some ⟨w.heap.size, 4, none⟩)), isV (.agg (A2.map intV).toArray), (is4 w0.heap.size A1), (is16 w0.heap.size A2), (full4 w0.heap.size A1), (full16 w0.heap.size A2)]) (by kernel_rfl) (by kernel_rfl) (by kernel_rfl) RelA.drew (fun _ _ _ a b => a.trans b) ?_ ?_ ?_
  · refine stays_phiR ?_
    simp only [List.forall_mem_cons]
    exact ⟨fun _ _ _ h _ => h, fun _ _ _ h _ => h, fun _ _ _ h _ => h, fun _ _ _ h _ => h, is4.stay, is16.stay, full4.stay, full16.stay, fun _ h => absurd h (by simp)⟩
  · refine ⟨?_, ?_, ?_, ?_, ?_, ?_, ?_, ?_, trivial⟩
    · refine opR_mk rfl fun aa W2 hB hp hq K hK => ?_
      have e3 : aa.tmps[3]?.getD undef = .pointer (some ⟨w.heap.size, 0, none⟩) := hp 3 (by kernel_rfl)
      clear hp hq
      go_simp
      exact hK _ _ RelA.refl rfl
    · refine opR_mk rfl fun aa W2 hB hp hq K hK => ?_
      have e11 : aa.tmps[11]?.getD undef = .pointer (some ⟨w.heap.size, 0, none⟩) := hq 0 _ (by kernel_rfl) rfl
      clear hp hq
      refine wp_load_mid 23 _ rfl w.heap.size 0 (ev_tmp e11) (A1.map intV) _ (HR1.out W2 (And.left hB)) Tryd.underlying23 rfl (by rw [List.length_map, HL1.out]; exact infoA4) ?_
      exact hK _ _ RelA.refl rfl
    · refine opR_mk rfl fun aa W2 hB hp hq K hK => ?_
      have e3 : aa.tmps[3]?.getD undef = .pointer (some ⟨w.heap.size, 0, none⟩) := hp 3 (by kernel_rfl)
      clear hp hq
      go_simp
      exact hK _ _ RelA.refl rfl
    · refine opR_mk rfl fun aa W2 hB hp hq K hK => ?_
      have e13 : aa.tmps[13]?.getD undef = .pointer (some ⟨w.heap.size, 4, none⟩) := hq 2 _ (by kernel_rfl) rfl
      clear hp hq
      refine wp_load_mid 24 _ rfl w.heap.size 4 (ev_tmp e13) (A2.map intV) _ (HR2.out W2 (And.left hB)) Tryd.underlying24 rfl (by rw [List.length_map, HL2.out]; exact infoA16) ?_
      exact hK _ _ RelA.refl rfl
    · refine opR_mk rfl fun aa W2 hB hp hq K hK => ?_
      have hn0 : w0.heap.size ≤ W2.heap.size := (And.left hB).size
      have HN := Lib.hid hn0
      clear hn0
      clear hp hq
      go_simp
      exact hK _ _ (RelA.alloc HN.out _) ⟨_, rfl, HN.out, .inl (heap_alloc_new _ _)⟩
    · refine opR_mk rfl fun aa W2 hB hp hq K hK => ?_
      have hn0 : w0.heap.size ≤ W2.heap.size := (And.left hB).size
      have HN := Lib.hid hn0
      clear hn0
      clear hp hq
      go_simp
      exact hK _ _ (RelA.alloc HN.out _) ⟨_, rfl, HN.out, .inl (heap_alloc_new _ _)⟩
    · refine opR_mk rfl fun aa W2 hB hp hq K hK => ?_
      have hn0 : w0.heap.size ≤ W2.heap.size := (And.left hB).size
      obtain ⟨g, e7, hg, h4⟩ : is4 w0.heap.size A1 (aa.tmps[7]?.getD undef) W2 := hq 4 _ (by kernel_rfl) rfl
      have e12 : aa.tmps[12]?.getD undef = .agg (A1.map intV).toArray := hq 1 _ (by kernel_rfl) rfl
      obtain ⟨r1, r2⟩ := RelA.put4 (A2 := A2) hg hn0 h4 HL1.out
      have hth : W2.there g 0 4 := h4.elim (fun h => h.there rfl) fun h => h.there HL1.out
      have hsz : (A1.map intV).toArray.size = 4 := by simp [HL1.out]
      clear hp hq
      refine wp_store_mid 23 _ _ rfl g 0 (A1.map intV).toArray (ev_tmp e7) (ev_tmp e12) (by rw [hsz]; exact hth) (by rw [hsz]; exact infoA4) (all_oneCell_toArray fun v hv => by obtain ⟨x, _, rfl⟩ := List.mem_map.1 hv; rfl) ?_
      rw [List.toList_toArray]
      refine hK _ _ r1 ?_
      show full4 w0.heap.size A1 (aa.tmps[7]?.getD undef) _
      exact ⟨g, e7, hg, r2⟩
    · refine opR_mk rfl fun aa W2 hB hp hq K hK => ?_
      have hn0 : w0.heap.size ≤ W2.heap.size := (And.left hB).size
      obtain ⟨g, e8, hg, h4⟩ : is16 w0.heap.size A2 (aa.tmps[8]?.getD undef) W2 := hq 5 _ (by kernel_rfl) rfl
      have e14 : aa.tmps[14]?.getD undef = .agg (A2.map intV).toArray := hq 3 _ (by kernel_rfl) rfl
      obtain ⟨r1, r2⟩ := RelA.put16 (A1 := A1) hg hn0 h4 HL2.out
      have hth : W2.there g 0 16 := h4.elim (fun h => h.there rfl) fun h => h.there HL2.out
      have hsz : (A2.map intV).toArray.size = 16 := by simp [HL2.out]
      clear hp hq
      refine wp_store_mid 24 _ _ rfl g 0 (A2.map intV).toArray (ev_tmp e8) (ev_tmp e14) (by rw [hsz]; exact hth) (by rw [hsz]; exact infoA16) (all_oneCell_toArray fun v hv => by obtain ⟨x, _, rfl⟩ := List.mem_map.1 hv; rfl) ?_
      rw [List.toList_toArray]
      refine hK _ _ r1 ?_
      show full16 w0.heap.size A2 (aa.tmps[8]?.getD undef) _
      exact ⟨g, e8, hg, r2⟩
  · intro vs W3 hB3 hv3 hst3
    obtain ⟨g4, v4, n4, k4⟩ : full4 w0.heap.size A1 (vs 4) W3 := hst3 6 _ 7 4 _ rfl rfl rfl rfl rfl
    obtain ⟨g16, v5, n16, k16⟩ : full16 w0.heap.size A2 (vs 5) W3 := hst3 7 _ 8 5 _ rfl rfl rfl rfl rfl
    have hne := arr_ne k4 k16 (by decide)
    have H3 := Lib.hid (And.left hB3)
    have HK4 := Lib.hid k4
    have HK16 := Lib.hid k16
    clear hB3 hv3 hst3 k4 k16
    simp only [putAll, Act.put, List.setIfInBounds_toArray, List.set_cons_succ, List.set_cons_zero, Nat.zero_add, Nat.reduceAdd, v4, v5]
    have hn0 := HN0.out
    have HA3 := Lib.hid (HA0.out.below H3.out)
    have HB3 := Lib.hid (HB0.out.below H3.out)
    have HZ3 := Lib.hid (HZ0.out.below H3.out)
    go_wp2
    have HS0 : Hid (StA 23 (fA u) A1 B1 g4 W3 W3 0) := ⟨by rw [mix_zero]; exact HK4.out, pgrown_refl _ _⟩
    go_loopw [9] (fun v W => ∃ i : Nat, v = .int .i64 (i : Int) ∧ i ≤ 4 ∧ Hid (StA 23 (fA u) A1 B1 g4 W3 W i)) (fun v _ => 4 - (intOf v).toNat)
    case atStart => exact ⟨0, rfl, Nat.zero_le _, HS0⟩
    case round =>
      clear HS0
      obtain ⟨i, rfl, hi, HS⟩ := hrel
      by_cases he : i = 4
      · subst he
        obtain ⟨w4, hw4⟩ : ∃ w4, wr = w4 := ⟨_, rfl⟩
        rw [hw4] at HS ⊢
        clear hw4
        have HF4 : Hid (ArrB 23 w4 g4 (List.zipWith (fA u) A1 B1)) := by
          have h := HS.out.1
          rw [mix_all HL1.out HM1.out] at h
          exact h
        have HK16b := Lib.hid (HK16.out.kept HS.out.2 (Ne.symm hne))
        have HA4 : Hid (TalB w4 w.heap.size a) := (HS.out.2.block _ (Array.getElem?_eq_some_iff.1 HA3.out).1 (by intro e; injection e with e; omega)).trans HA3.out
        have HB4 : Hid (TalB w4 (w.heap.size + 1) b) := (HS.out.2.block _ (Array.getElem?_eq_some_iff.1 HB3.out).1 (by intro e; injection e with e; omega)).trans HB3.out
        have HZ4 : Hid (TalB w4 (w.heap.size + 1 + 1) zT) := (HS.out.2.block _ (Array.getElem?_eq_some_iff.1 HZ3.out).1 (by intro e; injection e with e; omega)).trans HZ3.out
        have HW4 : Hid (Below w.heap.size w w4) := below_grown (ptrans HW0.out H3.out) HS.out.2 (by omega)
        clear HS
        rw [show ((4 : Nat) : Int) = 4 from rfl]
        go_wp2
        have HS0 : Hid (StA 24 (fA u) A2 B2 g16 w4 w4 0) := ⟨by rw [mix_zero]; exact HK16b.out, pgrown_refl _ _⟩
        go_loopw [10] (fun v W => ∃ i : Nat, v = .int .i64 (i : Int) ∧ i ≤ 16 ∧ Hid (StA 24 (fA u) A2 B2 g16 w4 W i)) (fun v _ => 16 - (intOf v).toNat)
        case atStart => exact ⟨0, rfl, Nat.zero_le _, HS0⟩
        case round =>
          clear HS0
          obtain ⟨i, rfl, hi, HS⟩ := hrel
          by_cases he : i = 16
          · subst he
            have HF16 : Hid (ArrB 24 wr g16 (List.zipWith (fA u) A2 B2)) := by
              have h := HS.out.1
              rw [mix_all HL2.out HM2.out] at h
              exact h
            have HF4b := Lib.hid (HF4.out.kept HS.out.2 hne)
            have HA5 : TalB wr w.heap.size a := (HS.out.2.block _ (Array.getElem?_eq_some_iff.1 HA4.out).1 (by intro e; injection e with e; omega)).trans HA4.out
            have HB5 : TalB wr (w.heap.size + 1) b := (HS.out.2.block _ (Array.getElem?_eq_some_iff.1 HB4.out).1 (by intro e; injection e with e; omega)).trans HB4.out
            have HZ5 : Hid (TalB wr (w.heap.size + 1 + 1) zT) := (HS.out.2.block _ (Array.getElem?_eq_some_iff.1 HZ4.out).1 (by intro e; injection e with e; omega)).trans HZ4.out
            have HW5 : Hid (Below w.heap.size w wr) := below_grown HW4.out HS.out.2 (by omega)
            obtain ⟨x0, hx0⟩ : ∃ x, a[20]? = some x := ⟨_, List.getElem?_eq_getElem (by rw [HT.out]; decide)⟩
            obtain ⟨x1, hx1⟩ : ∃ x, a[21]? = some x := ⟨_, List.getElem?_eq_getElem (by rw [HT.out]; decide)⟩
            obtain ⟨y0, hy0⟩ : ∃ x, b[20]? = some x := ⟨_, List.getElem?_eq_getElem (by rw [HY.out]; decide)⟩
            obtain ⟨y1, hy1⟩ : ∃ x, b[21]? = some x := ⟨_, List.getElem?_eq_getElem (by rw [HY.out]; decide)⟩
            have c1 := HA5.cell hx0
            have c2 := HA5.cell hx1
            have c3 := HB5.cell hy0
            have c4 := HB5.cell hy1
            have HZP := Lib.hid (zip_parts (f := fA u) HT.out HY.out hx0 hx1 hy0 hy1)
            rw [HE1.out, HE2.out, HE3.out, HE4.out] at HZP
            have HZL : Hid ((List.zipWith (fA u) a b).length = 22) := by rw [Hid, List.length_zipWith, HT.out, HY.out]; rfl
            have HQ4 : Hid ((List.zipWith (fA u) A1 B1).length = 4) := by rw [Hid, List.length_zipWith, HL1.out, HM1.out]; rfl
            have HQ16 : Hid ((List.zipWith (fA u) A2 B2).length = 16) := by rw [Hid, List.length_zipWith, HL2.out, HM2.out]; rfl
            clear HS HA5 HB5 hx0 hx1 hy0 hy1
            obtain ⟨Z1, hz1⟩ : ∃ Z1, List.zipWith (fA u) A1 B1 = Z1 := ⟨_, rfl⟩
            obtain ⟨Z2, hz2⟩ : ∃ Z2, List.zipWith (fA u) A2 B2 = Z2 := ⟨_, rfl⟩
            rw [hz1] at HF4b HQ4 HZP
            rw [hz2] at HF16 HQ16 HZP
            obtain ⟨Z, hz⟩ : ∃ Z, List.zipWith (fA u) a b = Z := ⟨_, rfl⟩
            rw [hz] at HZP HZL
            have HZZ := Lib.hid hz
            clear hz hz1 hz2
            go_wp2_with (first
              | (refine wpList_load_mid rfl 23 _ rfl g4 0 rfl (Z1.map intV) _ HF4b.out.range Tryd.underlying23 rfl (by rw [List.length_map, HQ4.out]; exact infoA4) ?_)
              | (refine wpList_load_mid rfl 24 _ rfl g16 0 rfl (Z2.map intV) _ HF16.out.range Tryd.underlying24 rfl (by rw [List.length_map, HQ16.out]; exact infoA16) ?_)
              | (refine wpList_buildTo rfl 26 _ rfl _ rfl (Z.map intV).toArray (by rw [← HZP.out]; simp only [List.map_toArray, List.map_cons, List.map_nil]; exact built_tal Z1 Z2 (fA u x0 y0) (fA u x1 y1) HQ4.out HQ16.out) ?_)
              | (refine wpList_store_tal rfl _ _ rfl (w.heap.size + 1 + 1) zT Z rfl HZL.out rfl rfl HZ5.out ?_; intro w7 h7 hg7))
            exact ⟨rfl, _, results_tal (a := 6) rfl rfl h7 HZL.out, by rw [HZZ.out], below_grown HW5.out hg7 (by omega)⟩
          · have hin : i < 16 := by omega
            obtain ⟨x, hx⟩ : ∃ x, A2[i]? = some x := ⟨_, List.getElem?_eq_getElem (by rw [HL2.out]; exact hin)⟩
            obtain ⟨y, hy⟩ : ∃ y, B2[i]? = some y := ⟨_, List.getElem?_eq_getElem (by rw [HM2.out]; exact hin)⟩
            have hbt : TalB wr (w.heap.size + 1) b := (HS.out.2.block _ (Array.getElem?_eq_some_iff.1 HB4.out).1 (by intro e; injection e with e; omega)).trans HB4.out
            have HC := Lib.hid (And.intro (HS.out.1.cell (mix_get HL2.out HM2.out hx)) (hbt.cell (HG2.out i y hy)))
            have HST : Hid (∀ W, Below wr.heap.size wr W → StA 24 (fA u) A2 B2 g16 w4 (W.setCell ⟨g16, i, none⟩ (.int .i64 (IntKind.i64.wrap (x + IntKind.i64.wrap (u * y))))) (i + 1)) := fun W h => by rw [fA_wrap]; exact (HS.out.below h).set HL2.out HM2.out hx hy
            have HFZ := Lib.hid (fun (W : World) (h : Below wr.heap.size wr W) => (HS.out.1.below h).froz i)
            clear HS hbt hx hy
            go_wp2
            refine wp_region_last 12 RelB (phi [isV (.int .i64 (i : Int)), isV (.int .i64 (i : Int)), isV (.pointer (some ⟨g16, i, none⟩)), isV (.int .i64 x), isV (.int .i64 u), isV (.int .i64 (i : Int)), isV (.pointer (some ⟨w.heap.size + 1, 4, none⟩)), isV (.pointer (some ⟨w.heap.size + 1, 4 + i, none⟩)), isV (.int .i64 y), isV (.int .i64 (IntKind.i64.wrap (u * y))), isV (.int .i64 (IntKind.i64.wrap (x + IntKind.i64.wrap (u * y)))), isV (.pointer (some ⟨g16, i, none⟩))]) (fun W => StA 24 (fA u) A2 B2 g16 w4 W (i + 1)) (by kernel_rfl) (by kernel_rfl) (by kernel_rfl) (RelB.of (below_drew _)) (fun _ _ _ a b => a.trans b) ?_ ?_ ?_ ?_
            · refine stays_phiR ?_
              simp only [List.forall_mem_cons]
              exact ⟨fun _ _ _ h _ => h, fun _ _ _ h _ => h, fun _ _ _ h _ => h, fun _ _ _ h _ => h, fun _ _ _ h _ => h, fun _ _ _ h _ => h, fun _ _ _ h _ => h, fun _ _ _ h _ => h, fun _ _ _ h _ => h, fun _ _ _ h _ => h, fun _ _ _ h _ => h, fun _ _ _ h _ => h, fun _ h => absurd h (by simp)⟩
            · refine ⟨?_, ?_, ?_, ?_, ?_, ?_, ?_, ?_, ?_, ?_, ?_, ?_, trivial⟩
              · refine opR_mk rfl fun aa W2 hB hp hq K hK => ?_
                have e10 : aa.tmps[10]?.getD undef = .int .i64 (i : Int) := hp 10 (by kernel_rfl)
                clear hp hq
                go_simp
                exact hK _ _ (RelB.refl _) rfl
              · refine opR_mk rfl fun aa W2 hB hp hq K hK => ?_
                have e10 : aa.tmps[10]?.getD undef = .int .i64 (i : Int) := hp 10 (by kernel_rfl)
                clear hp hq
                go_simp
                exact hK _ _ (RelB.refl _) rfl
              · refine opR_mk rfl fun aa W2 hB hp hq K hK => ?_
                have e8 : aa.tmps[8]?.getD undef = .pointer (some ⟨g16, 0, none⟩) := hp 8 (by kernel_rfl)
                have e36 : aa.tmps[36]?.getD undef = .int .i64 (i : Int) := hq 1 _ (by kernel_rfl) rfl
                clear hp hq
                go_simp
                exact hK _ _ (RelB.refl _) rfl
              · refine opR_mk rfl fun aa W2 hB hp hq K hK => ?_
                have e37 : aa.tmps[37]?.getD undef = .pointer (some ⟨g16, i, none⟩) := hq 2 _ (by kernel_rfl) rfl
                have c1 := cell_bel HC.out.1 hB
                clear hp hq
                go_simp
                exact hK _ _ (RelB.refl _) rfl
              · refine opR_mk rfl fun aa W2 hB hp hq K hK => ?_
                have e2 : aa.tmps[2]?.getD undef = .int .i64 u := hp 2 (by kernel_rfl)
                clear hp hq
                go_simp
                exact hK _ _ (RelB.refl _) rfl
              · refine opR_mk rfl fun aa W2 hB hp hq K hK => ?_
                have e10 : aa.tmps[10]?.getD undef = .int .i64 (i : Int) := hp 10 (by kernel_rfl)
                clear hp hq
                go_simp
                exact hK _ _ (RelB.refl _) rfl
              · refine opR_mk rfl fun aa W2 hB hp hq K hK => ?_
                have e4 : aa.tmps[4]?.getD undef = .pointer (some ⟨w.heap.size + 1, 0, none⟩) := hp 4 (by kernel_rfl)
                clear hp hq
                go_simp
                exact hK _ _ (RelB.refl _) rfl
              · refine opR_mk rfl fun aa W2 hB hp hq K hK => ?_
                have e41 : aa.tmps[41]?.getD undef = .pointer (some ⟨w.heap.size + 1, 4, none⟩) := hq 6 _ (by kernel_rfl) rfl
                have e40 : aa.tmps[40]?.getD undef = .int .i64 (i : Int) := hq 5 _ (by kernel_rfl) rfl
                clear hp hq
                go_simp
                exact hK _ _ (RelB.refl _) rfl
              · refine opR_mk rfl fun aa W2 hB hp hq K hK => ?_
                have e42 : aa.tmps[42]?.getD undef = .pointer (some ⟨w.heap.size + 1, 4 + i, none⟩) := hq 7 _ (by kernel_rfl) rfl
                have c1 := cell_bel HC.out.2 hB
                clear hp hq
                go_simp
                exact hK _ _ (RelB.refl _) rfl
              · refine opR_mk rfl fun aa W2 hB hp hq K hK => ?_
                have e39 : aa.tmps[39]?.getD undef = .int .i64 u := hq 4 _ (by kernel_rfl) rfl
                have e43 : aa.tmps[43]?.getD undef = .int .i64 y := hq 8 _ (by kernel_rfl) rfl
                clear hp hq
                go_simp
                exact hK _ _ (RelB.refl _) rfl
              · refine opR_mk rfl fun aa W2 hB hp hq K hK => ?_
                have e38 : aa.tmps[38]?.getD undef = .int .i64 x := hq 3 _ (by kernel_rfl) rfl
                have e44 : aa.tmps[44]?.getD undef = .int .i64 (IntKind.i64.wrap (u * y)) := hq 9 _ (by kernel_rfl) rfl
                clear hp hq
                go_simp
                exact hK _ _ (RelB.refl _) rfl
              · refine opR_mk rfl fun aa W2 hB hp hq K hK => ?_
                have e8 : aa.tmps[8]?.getD undef = .pointer (some ⟨g16, 0, none⟩) := hp 8 (by kernel_rfl)
                have e35 : aa.tmps[35]?.getD undef = .int .i64 (i : Int) := hq 0 _ (by kernel_rfl) rfl
                clear hp hq
                go_simp
                exact hK _ _ (RelB.refl _) rfl
            · intro oN hoN aa W2 hB hp hq K hK
              obtain rfl := Option.some.inj hoN
              have e46 : aa.tmps[46]?.getD undef = .pointer (some ⟨g16, i, none⟩) := hq 11 _ (by decide) rfl
              have e45 : aa.tmps[45]?.getD undef = .int .i64 (IntKind.i64.wrap (x + IntKind.i64.wrap (u * y))) := hq 10 _ (by decide) rfl
              have c1 := cell_bel HC.out.1 hB
              have f1 := HFZ.out W2 hB
              have HS3 := Lib.hid (HST.out W2 hB)
              clear hp hq
              go_simp
              exact hK _ HS3.out
            · intro vs W3 hF hv
              have HF3 := Lib.hid hF
              clear hF hv
              simp only [putAll, Act.put, List.setIfInBounds_toArray, List.set_cons_succ, List.set_cons_zero, Nat.zero_add, Nat.reduceAdd]
              go_wp2
              exact ⟨⟨i + 1, by go_num, by omega, HF3⟩, by simp [intOf]; omega⟩
      · have hin : i < 4 := by omega
        obtain ⟨x, hx⟩ : ∃ x, A1[i]? = some x := ⟨_, List.getElem?_eq_getElem (by rw [HL1.out]; exact hin)⟩
        obtain ⟨y, hy⟩ : ∃ y, B1[i]? = some y := ⟨_, List.getElem?_eq_getElem (by rw [HM1.out]; exact hin)⟩
        have hbt : TalB wr (w.heap.size + 1) b := (HS.out.2.block _ (Array.getElem?_eq_some_iff.1 HB3.out).1 (by intro e; injection e with e; omega)).trans HB3.out
        have HC := Lib.hid (And.intro (HS.out.1.cell (mix_get HL1.out HM1.out hx)) (hbt.cell (HG1.out i y hy)))
        have HST : Hid (∀ W, Below wr.heap.size wr W → StA 23 (fA u) A1 B1 g4 W3 (W.setCell ⟨g4, i, none⟩ (.int .i64 (IntKind.i64.wrap (x + IntKind.i64.wrap (u * y))))) (i + 1)) := fun W h => by rw [fA_wrap]; exact (HS.out.below h).set HL1.out HM1.out hx hy
        have HFZ := Lib.hid (fun (W : World) (h : Below wr.heap.size wr W) => (HS.out.1.below h).froz i)
        clear HS hbt hx hy
        go_wp2
        refine wp_region_last 12 RelB (phi [isV (.int .i64 (i : Int)), isV (.int .i64 (i : Int)), isV (.pointer (some ⟨g4, i, none⟩)), isV (.int .i64 x), isV (.int .i64 u), isV (.int .i64 (i : Int)), isV (.pointer (some ⟨w.heap.size + 1, 0, none⟩)), isV (.pointer (some ⟨w.heap.size + 1, i, none⟩)), isV (.int .i64 y), isV (.int .i64 (IntKind.i64.wrap (u * y))), isV (.int .i64 (IntKind.i64.wrap (x + IntKind.i64.wrap (u * y)))), isV (.pointer (some ⟨g4, i, none⟩))]) (fun W => StA 23 (fA u) A1 B1 g4 W3 W (i + 1)) (by kernel_rfl) (by kernel_rfl) (by kernel_rfl) (RelB.of (below_drew _)) (fun _ _ _ a b => a.trans b) ?_ ?_ ?_ ?_
        · refine stays_phiR ?_
          simp only [List.forall_mem_cons]
          exact ⟨fun _ _ _ h _ => h, fun _ _ _ h _ => h, fun _ _ _ h _ => h, fun _ _ _ h _ => h, fun _ _ _ h _ => h, fun _ _ _ h _ => h, fun _ _ _ h _ => h, fun _ _ _ h _ => h, fun _ _ _ h _ => h, fun _ _ _ h _ => h, fun _ _ _ h _ => h, fun _ _ _ h _ => h, fun _ h => absurd h (by simp)⟩
        · refine ⟨?_, ?_, ?_, ?_, ?_, ?_, ?_, ?_, ?_, ?_, ?_, ?_, trivial⟩
          · refine opR_mk rfl fun aa W2 hB hp hq K hK => ?_
            have e9 : aa.tmps[9]?.getD undef = .int .i64 (i : Int) := hp 9 (by kernel_rfl)
            clear hp hq
            go_simp
            exact hK _ _ (RelB.refl _) rfl
          · refine opR_mk rfl fun aa W2 hB hp hq K hK => ?_
            have e9 : aa.tmps[9]?.getD undef = .int .i64 (i : Int) := hp 9 (by kernel_rfl)
            clear hp hq
            go_simp
            exact hK _ _ (RelB.refl _) rfl
          · refine opR_mk rfl fun aa W2 hB hp hq K hK => ?_
            have e7 : aa.tmps[7]?.getD undef = .pointer (some ⟨g4, 0, none⟩) := hp 7 (by kernel_rfl)
            have e20 : aa.tmps[20]?.getD undef = .int .i64 (i : Int) := hq 1 _ (by kernel_rfl) rfl
            clear hp hq
            go_simp
            exact hK _ _ (RelB.refl _) rfl
          · refine opR_mk rfl fun aa W2 hB hp hq K hK => ?_
            have e21 : aa.tmps[21]?.getD undef = .pointer (some ⟨g4, i, none⟩) := hq 2 _ (by kernel_rfl) rfl
            have c1 := cell_bel HC.out.1 hB
            clear hp hq
            go_simp
            exact hK _ _ (RelB.refl _) rfl
          · refine opR_mk rfl fun aa W2 hB hp hq K hK => ?_
            have e2 : aa.tmps[2]?.getD undef = .int .i64 u := hp 2 (by kernel_rfl)
            clear hp hq
            go_simp
            exact hK _ _ (RelB.refl _) rfl
          · refine opR_mk rfl fun aa W2 hB hp hq K hK => ?_
            have e9 : aa.tmps[9]?.getD undef = .int .i64 (i : Int) := hp 9 (by kernel_rfl)
            clear hp hq
            go_simp
            exact hK _ _ (RelB.refl _) rfl
          · refine opR_mk rfl fun aa W2 hB hp hq K hK => ?_
            have e4 : aa.tmps[4]?.getD undef = .pointer (some ⟨w.heap.size + 1, 0, none⟩) := hp 4 (by kernel_rfl)
            clear hp hq
            go_simp
            exact hK _ _ (RelB.refl _) rfl
          · refine opR_mk rfl fun aa W2 hB hp hq K hK => ?_
            have e25 : aa.tmps[25]?.getD undef = .pointer (some ⟨w.heap.size + 1, 0, none⟩) := hq 6 _ (by kernel_rfl) rfl
            have e24 : aa.tmps[24]?.getD undef = .int .i64 (i : Int) := hq 5 _ (by kernel_rfl) rfl
            clear hp hq
            go_simp
            exact hK _ _ (RelB.refl _) rfl
          · refine opR_mk rfl fun aa W2 hB hp hq K hK => ?_
            have e26 : aa.tmps[26]?.getD undef = .pointer (some ⟨w.heap.size + 1, i, none⟩) := hq 7 _ (by kernel_rfl) rfl
            have c1 := cell_bel HC.out.2 hB
            clear hp hq
            go_simp
            exact hK _ _ (RelB.refl _) rfl
          · refine opR_mk rfl fun aa W2 hB hp hq K hK => ?_
            have e23 : aa.tmps[23]?.getD undef = .int .i64 u := hq 4 _ (by kernel_rfl) rfl
            have e27 : aa.tmps[27]?.getD undef = .int .i64 y := hq 8 _ (by kernel_rfl) rfl
            clear hp hq
            go_simp
            exact hK _ _ (RelB.refl _) rfl
          · refine opR_mk rfl fun aa W2 hB hp hq K hK => ?_
            have e22 : aa.tmps[22]?.getD undef = .int .i64 x := hq 3 _ (by kernel_rfl) rfl
            have e28 : aa.tmps[28]?.getD undef = .int .i64 (IntKind.i64.wrap (u * y)) := hq 9 _ (by kernel_rfl) rfl
            clear hp hq
            go_simp
            exact hK _ _ (RelB.refl _) rfl
          · refine opR_mk rfl fun aa W2 hB hp hq K hK => ?_
            have e7 : aa.tmps[7]?.getD undef = .pointer (some ⟨g4, 0, none⟩) := hp 7 (by kernel_rfl)
            have e19 : aa.tmps[19]?.getD undef = .int .i64 (i : Int) := hq 0 _ (by kernel_rfl) rfl
            clear hp hq
            go_simp
            exact hK _ _ (RelB.refl _) rfl
        · intro oN hoN aa W2 hB hp hq K hK
          obtain rfl := Option.some.inj hoN
          have e30 : aa.tmps[30]?.getD undef = .pointer (some ⟨g4, i, none⟩) := hq 11 _ (by decide) rfl
          have e29 : aa.tmps[29]?.getD undef = .int .i64 (IntKind.i64.wrap (x + IntKind.i64.wrap (u * y))) := hq 10 _ (by decide) rfl
          have c1 := cell_bel HC.out.1 hB
          have f1 := HFZ.out W2 hB
          have HS3 := Lib.hid (HST.out W2 hB)
          clear hp hq
          go_simp
          exact hK _ HS3.out
        · intro vs W3 hF hv
          have HF3 := Lib.hid hF
          clear hF hv
          simp only [putAll, Act.put, List.setIfInBounds_toArray, List.set_cons_succ, List.set_cons_zero, Nat.zero_add, Nat.reduceAdd]
          go_wp2
          exact ⟨⟨i + 1, by go_num, by omega, HF3⟩, by simp [intOf]; omega⟩
end Go.Proofs.YtenddeglhjmhcaaDoor
