/- ClosureMany, walked. -/
import Derived.Test.YtehckjkihaalfaaGreatCL
namespace Go.Proofs.YtehckjkihaalfaaGreat
open Go.RowKit Go.Maps

/-- Behind i inodes, and k places of the next one's closure. -/
def manyAt (l : List R) (inos : List Int) (i : Nat) (ps : List Nat) (k j : Nat) : Bool := manyB l inos i j || decide (j ∈ ps.take k)
/-- What is known when the rows are compared. -/
theorem wantTo_succ (f : Nat → Bool) (k : Nat) : (List.range (k + 1)).filter f = (List.range k).filter f ++ (if f k = true then [k] else []) := by
  rw [List.range_succ, List.filter_append]
  congr 1
  cases h : f k <;> simp [h]
theorem wantTo_len (f : Nat → Bool) (k : Nat) : ((List.range k).filter f).length ≤ k := Nat.le_trans (List.length_filter_le _ _) (by simp)
theorem inos_nil (w : World) : InosAt w none [] := fun h => absurd rfl h
set_option maxRecDepth 100000 in
set_option maxHeartbeats 8000000 in
theorem t_closureMany (A : Option Addr) (c n : Nat) (l : List R) (Ai : Option Addr) (ni ci : Nat) (inos : List Int) (w : World) (hl : RecsAt w A l) (hn : l.length = n) (hnc : n ≤ c) (hnm : n ≤ maxLen) (hi : InosAt w Ai inos) (hni : inos.length = ni) (hni2 : ni ≤ maxLen) :
    Calls Tryz.prog 9 #[.slice A n c, .slice Ai ni ci] w fun e w' => e = .returned (.bool true) ∧ Below w.heap.size w w' := by
  have HL := Lib.hid hl
  have HN := Lib.hid hn
  have HI := Lib.hid hi
  have HNI := Lib.hid hni
  have HLG := Lib.hid (t_long25 A c n l w hl hn hnc hnm)
  clear hl hn hi hni
  obtain ⟨i0, hi0, hz0, hz1, hz2⟩ := infoB
  by_cases h20 : 20 < ni
  · go_enter Tryz.func9, Tryz.ntmps9
    go_wp2_with (first
      | (go_at_call 36; (with_reducible refine HLG.out.mono ?_); rintro e w1 ⟨b, rfl, h1, h2⟩; have H1 := Lib.hid h2; clear h1 h2; cases b)
      | (go_at_call 37; (with_reducible refine (t_alive25 _).mono ?_); rintro e w9 ⟨rfl, hb⟩; have HB9 := Lib.hid hb; clear hb))
    all_goals
      go_ret
      exact ⟨rfl, ptrans H1.out HB9.out⟩
  · go_enter Tryz.func9, Tryz.ntmps9
    go_wp2_with (first
      | (go_at_call 36; (with_reducible refine HLG.out.mono ?_); rintro e w1 ⟨b, rfl, h1, h2⟩; have H1 := Lib.hid h2; have H60 := Lib.hid h1; clear h1 h2; cases b)
      | (go_at_call 37; (with_reducible refine (t_alive25 _).mono ?_); rintro e w9 ⟨rfl, hb⟩; have HB9 := Lib.hid hb; clear hb)
      | (at_make; refine wpList_make_full _ rfl _ _ 78 rfl w1.heap.size 4 i0 (.bool false) 1 Tryz.underlying78 hi0 hz0 hz1 .i64 .i64 _ _ n rfl rfl rfl rfl (by rw [hz2]; have h60' : n ≤ 60 := (by have h := H60.out; first | exact h rfl | exact h trivial); omega) hnm (Nat.le_refl _) ?_; intro w2 hr2 hg2; rw [boolV_start] at hr2; have H2 := Lib.hid (And.intro hr2 hg2); clear hr2 hg2))
    · obtain ⟨g, hg⟩ : ∃ g, w1.heap.size = g := ⟨_, rfl⟩
      have h60 : n ≤ 60 := by have h := H60.out; first | exact h rfl | exact h trivial
      have hst : Hid (BoolsAt w2 g g n (manyB l inos 0) ∧ Below w.heap.size w w2) := by
        have h3 := H2.out.1
        rw [hg] at h3
        refine ⟨BoolsAt.congr h3 (fun k _ => ?_), H1.out.grown H2.out.2 H1.out.size (fun q h => by cases h)⟩
        unfold manyB
        simp
      have HGW : Hid (w.heap.size ≤ g) := by show _ ≤ _; rw [← hg]; exact H1.out.size
      rw [hg]
      clear hg H1 H2 H60
      go_loopw [6] (fun x wr => ∃ i : Nat, x = .int .i64 (i : Int) ∧ i ≤ ni ∧ Hid (BoolsAt wr g g n (manyB l inos i) ∧ Below w.heap.size w wr)) (fun x _ => ni - (intOf x).toNat)
      case atStart => exact ⟨0, rfl, Nat.zero_le _, hst⟩
      case round =>
        obtain ⟨i, rfl, hi, HA⟩ := hrel
        by_cases he : i = ni
        · have he' : ni = i := he.symm
          clear he
          subst he'
          clear hst
          go_wp2
          obtain ⟨w3, rfl⟩ : ∃ w3 : World, w3 = wr := ⟨_, rfl⟩
          go_loopw [9, 10] (fun v x wr => ∃ (k m : Nat) (A1 : Option Addr) (d1 : Nat), x = .int .i64 (k : Int) ∧ v = .slice A1 m d1 ∧ k ≤ n ∧ Hid (((List.range k).filter (manyB l inos ni)).length = m ∧ wr.ownsRow w3.heap.size 3 1 (.slice A1 m d1) m (natV ((List.range k).filter (manyB l inos ni))) ∧ Below w3.heap.size w3 wr)) (fun _ x _ => n - (intOf x).toNat)
          case atStart => exact ⟨0, 0, none, 0, rfl, rfl, Nat.zero_le _, rfl, World.ownsRow_nil _ _ _ _, Below.refl _ _⟩
          case round =>
            obtain ⟨k, m, A1, d1, rfl, rfl, hk, HK⟩ := hrel
            by_cases hkn : k = n
            · obtain ⟨np, hnp⟩ : ∃ np, (placesL l inos).length = np := ⟨_, rfl⟩
              have hf : Hid (m = np ∧ IntsAt wr A1 ((placesL l inos).map fun (n : Nat) => (n : Int))) := by
                have h1 := HK.out
                rw [hkn, ← HN.out, ← HNI.out, many_all] at h1
                exact ⟨h1.1.symm.trans hnp, ints_of_row h1.2.1 rfl⟩
              have hmn : np = m := hf.out.1.symm
              have HB : Hid (Below w.heap.size w wr) := ptrans HA.out.2 HK.out.2.2
              have HNP := Lib.hid hnp
              have hnp2 : np ≤ 60 := by have := places_len l inos; rw [hnp, HN.out] at this; omega
              have HAL : Hid (RecsAt wr A l) := HL.out.below HB.out
              clear HK hnp
              have hkn' : n = k := hkn.symm
              clear hkn
              subst hkn'
              subst hmn
              go_wp2_with (first
                | (go_at_call 39; (with_reducible refine (t_places A c n l Ai ni ci inos wr HAL.out HN.out (by omega) hnc (HI.out.below HB.out) HNI.out (by omega)).mono ?_); rintro e w6 ⟨v6, rfl, h1, h2⟩; rw [HNP.out] at h1; obtain ⟨A6, c6, rfl⟩ := row_slice h1; have HI6 := Lib.hid (ints_of_row h1 rfl); have H6 := Lib.hid h2; clear h1 h2)
                | (go_at_call 38; (with_reducible refine (t_sameInts A6 A1 np np c6 d1 _ _ true (decide_eq_true rfl) w6 HI6.out (by rw [List.length_map]; exact HNP.out) (by omega) (hf.out.2.below H6.out) (by rw [List.length_map]; exact HNP.out) (by omega)).mono ?_); rintro e w7 ⟨rfl, h2⟩; have H7 := Lib.hid (ptrans H6.out h2); clear h2)
                | (go_at_call 39; (with_reducible refine (t_places A c n l none 0 0 [] w7 (HAL.out.below H7.out) HN.out (by omega) hnc (inos_nil _) rfl (by decide)).mono ?_); rintro e w8 ⟨v8, rfl, h1, h2⟩; rw [places_none] at h1; have h1 : w8.ownsRow _ 3 1 v8 0 (natV []) := h1; obtain ⟨A8, c8, rfl⟩ := row_slice h1; have H8 := Lib.hid (ptrans H7.out h2); clear h1 h2)
                | (go_at_call 41; (with_reducible refine (t_of A c n l none 0 0 [] w8 (HAL.out.below H8.out) HN.out (by omega) hnc (inos_nil _) rfl (by decide)).mono ?_); rintro e w9 ⟨v9, rfl, h1, h2⟩; rw [pick_none] at h1; have h1 : w9.ownsRow _ 34 12 v9 0 (flatR []) := h1; obtain ⟨A9, c9, rfl⟩ := row_slice h1; have H9 := Lib.hid (ptrans H8.out h2); clear h1 h2)
                | (go_at_call 43; (with_reducible refine (t_rest A c n l none 0 0 [] w9 (HAL.out.below H9.out) HN.out (by omega) hnc (inos_nil _) rfl (by decide)).mono ?_); rintro e wA ⟨vA, rfl, h1, h2⟩; rw [pick_rest, HN.out] at h1; obtain ⟨AA, cA, rfl⟩ := row_slice h1; have HRA := Lib.hid (recs_of_row h1 HN.out HAL.out.ok); have HA2 := Lib.hid (ptrans H9.out h2); clear h1 h2)
                | (go_at_call 17; (with_reducible refine (t_same AA A n n cA c l l true (iff_of_true rfl rfl) wA HRA.out HN.out (by omega) (HAL.out.below HA2.out) HN.out (by omega)).mono ?_); rintro e wB ⟨rfl, h2⟩; have HB2 := Lib.hid (ptrans HA2.out h2); clear h2)
                | (go_at_call 37; (with_reducible refine (t_alive25 _).mono ?_); rintro e wC ⟨rfl, h2⟩; have HC2 := Lib.hid (ptrans HB2.out h2); clear h2))
              go_ret
              exact ⟨rfl, ptrans HB.out HC2.out⟩
            · have hk2 : k < n := by omega
              have HBW := Lib.hid (HA.out.1.below HK.out.2.2)
              have c1 := HBW.out.cell hk2
              have hst := wantTo_succ (manyB l inos ni) k
              have hm2 : m ≤ k := by have := wantTo_len (manyB l inos ni) k; rw [HK.out.1] at this; exact this
              obtain ⟨q, hq⟩ : ∃ q, manyB l inos ni k = q := ⟨_, rfl⟩
              rw [hq] at hst c1
              have HST := Lib.hid hst
              clear hst hq
              cases q
              · go_wp2
                go_roundw
                case rel =>
                  refine ⟨k + 1, m, A1, d1, rfl, rfl, hk2, ?_⟩
                  show _ ∧ _
                  rw [HST.out, if_neg (by simp), List.append_nil]
                  exact HK.out
                case measure => simp only [intOf]; omega
              · go_wp2_with (at_builtin; refine wpList_append_int rfl _ _ rfl w3.heap.size _ ((List.range k).filter (manyB l inos ni)) m (m + 1) HK.out.1 rfl rfl (HK.out.2.1.alloc _) wr.heap.size k rfl (heap_alloc_new _ _) (by omega) (by rw [World.alloc_size']; have := HK.out.2.2.size; omega) ?_; intro A2 d2 W4 g2 g3; have H4 := Lib.hid (And.intro g2 g3); clear g2 g3)
                go_roundw
                case rel =>
                  refine ⟨k + 1, m + 1, A2, d2, rfl, rfl, hk2, ?_⟩
                  show _ ∧ _
                  rw [HST.out, if_pos rfl]
                  refine ⟨by rw [List.length_append, HK.out.1]; rfl, H4.out.1, ?_⟩
                  exact (HK.out.2.2.alloc HK.out.2.2.size _).grown H4.out.2 (by rw [World.alloc_size']; have := HK.out.2.2.size; omega) (fun q hq => (HK.out.2.1.lt q hq).1)
                case measure => simp only [intOf]; omega
        · have hi2 : i < ni := by omega
          obtain ⟨x, hx⟩ : ∃ x, inos[i]? = some x := ⟨inos[i]'(by rw [HNI.out]; exact hi2), List.getElem?_eq_getElem _⟩
          obtain ⟨b, o, rfl, hb1, hc⟩ := (HI.out.below HA.out.2) (fun e => by rw [e] at hx; simp at hx)
          have c1 := hc i x hx
          have HX := Lib.hid hx
          have HAL : Hid (RecsAt wr A l) := HL.out.below HA.out.2
          clear hc hx hb1 hst
          go_wp2_with (go_at_call 39; (with_reducible refine (t_places A c n l (some ⟨wr.heap.size, 0, none⟩) 1 1 [x] _ (HAL.out.below (below_a1' wr _)) HN.out (by omega) hnc (inos_one wr x _) rfl (by decide)).mono ?_); rintro e w5 ⟨v5, rfl, h1, h2⟩; obtain ⟨A5, c5, rfl⟩ := row_slice h1; have H5 := Lib.hid (And.intro h1 (ptrans (below_a1' wr _) h2)); clear h1 h2)
          obtain ⟨ps, hps⟩ : ∃ ps, placesL l [x] = ps := ⟨_, rfl⟩
          have HPS := Lib.hid hps
          rw [hps] at H5 ⊢
          obtain ⟨np, hnp⟩ : ∃ np, ps.length = np := ⟨_, rfl⟩
          rw [hnp] at H5 ⊢
          have hnp2 : np ≤ 60 := by have := places_len l [x]; rw [hps, hnp, HN.out] at this; omega
          obtain ⟨b5, hb5⟩ : ∃ b5, (wr.alloc (.cells #[.int .u32 x] 32)).heap.size = b5 := ⟨_, rfl⟩
          rw [hb5] at H5
          have hgb : g < b5 := by
            have := HA.out.1.lt
            rw [World.alloc_size'] at hb5
            omega
          have HNP := Lib.hid hnp
          clear hps hnp hb5
          obtain ⟨w0, rfl⟩ : ∃ w0 : World, w0 = wr := ⟨_, rfl⟩
          go_loopw [8] (fun y wr => ∃ k : Nat, y = .int .i64 (k : Int) ∧ k ≤ np ∧ Hid (BoolsAt wr g g n (manyAt l inos i ps k) ∧ wr.ownsRow b5 3 1 (.slice A5 np c5) np (natV ps) ∧ Below w.heap.size w wr)) (fun y _ => np - (intOf y).toNat)
          case atStart =>
            refine ⟨0, rfl, Nat.zero_le _, BoolsAt.congr (HA.out.1.below H5.out.2) (fun k _ => ?_), H5.out.1, ptrans HA.out.2 H5.out.2⟩
            unfold manyAt
            simp
          case round =>
            obtain ⟨k, rfl, hk, HK⟩ := hrel
            by_cases hkn : k = np
            · have HE : Hid (BoolsAt wr g g n (manyB l inos (i + 1)) ∧ Below w.heap.size w wr) := by
                refine ⟨BoolsAt.congr HK.out.1 (fun j hj => ?_), HK.out.2.2⟩
                rw [many_succ HX.out (by rw [HN.out]; exact hj), HPS.out]
                unfold manyAt
                rw [hkn, ← HNP.out, List.take_length]
              go_wp2
              go_roundw
              case rel => exact ⟨i + 1, rfl, hi2, HE⟩
              case measure => simp only [intOf]; omega
            · have hk2 : k < np := by omega
              obtain ⟨q, hq, _, j, hj, cj, _⟩ := nat_cell (K := fun _ => False) ⟨own_base0 HK.out.2.1, fun _ _ h => h⟩ hk2
              subst hq
              have hjn : j < n := by
                have h1 := List.mem_of_getElem? hj
                rw [← HPS.out, mem_places] at h1
                have := h1.lt
                rw [HN.out] at this
                exact this
              have cb := HK.out.1.cell hjn
              have fb := HK.out.1.frozen (k := j)
              have HJ := Lib.hid hj
              obtain ⟨hs1, hs2⟩ := HK.out.1.set (k := j) true
              have HS1 := Lib.hid hs1
              have HS2 := Lib.hid hs2
              clear hj hs1 hs2
              go_wp2
              go_roundw
              case rel =>
                refine ⟨k + 1, rfl, hk2, BoolsAt.congr HS1.out (fun a _ => ?_), HK.out.2.1.kept HS2.out (.inr (fun e => ?_)), HK.out.2.2.grown HS2.out HK.out.2.2.size (fun q hq => by injection hq with hq; have := HGW.out; omega)⟩
                · unfold manyAt
                  rw [List.take_add_one, HJ.out]
                  by_cases ha : a = j
                  · subst ha
                    simp
                  · simp [ha]
                · have := (HK.out.2.1.lt q rfl).1
                  injection e with e
                  simp at e
                  omega
              case measure => simp only [intOf]; omega
    · go_ret
      exact ⟨rfl, ptrans H1.out HB9.out⟩
end Go.Proofs.YtehckjkihaalfaaGreat
