/- inside, walked; rows within what is merged. -/
import Derived.Test.YtehckjkihaalfaaGreatES
namespace Go.Proofs.YtehckjkihaalfaaGreat
open Go.RowKit Go.Maps

theorem ite_lastE {α : Type} [BEq α] [LawfulBEq α] {a b : α} [Decidable (a = b)] {w : World} : (if a = b then Result.ok (Value.bool true) w else Result.ok (Value.bool false) w) = Result.ok (Value.bool (a == b)) w := by
  split <;> simp_all
theorem ite_stepE {α : Type} [BEq α] [LawfulBEq α] {a b : α} [Decidable (a = b)] {c : Bool} {w : World} : (if a = b then Result.ok (Value.bool c) w else Result.ok (Value.bool false) w) = Result.ok (Value.bool (a == b && c)) w := by
  split <;> simp_all
set_option maxRecDepth 100000 in
theorem eql_rec (x y : R) (w : World) : (binOp .eql 34 x.val y.val).run Tryz.prog w = .ok (.bool (eqR x y)) w := by
  unfold R.val
  go_simp
  unfold eqR
  rw [ite_lastE]
  repeat rw [ite_stepE]
theorem drop_rAt {l : List R} {k : Nat} (h : k < l.length) : l.drop k = rAt l k :: l.drop (k + 1) := by
  rw [List.drop_eq_getElem_cons h]
  congr 1
  unfold rAt
  rw [List.getD_eq_getElem?_getD, List.getElem?_eq_getElem h]
  rfl
/-- A core's row stands in what is merged, in its order. -/
theorem row_inside {x : PLog} (hx : LogOk x) {d : List (Nat × Nat)} (h : IsMerge x d) {c : Nat} (hc : c < x.cores) (hc8 : c < 8) : (x.rows c).Sublist (d.map (recAt x)) := by
  have h1 : ((d.map (tagOf x)).filter fun a => a.1 == c).map Prod.snd = x.rows c := by
    refine sorted_unique (r := fun a b : R => a.stamp < b.stamp) (fun a => by omega) (fun a b c h1 h2 => by omega) ?_ (hx.rising c hc8) fun r => ?_
    · rw [List.pairwise_map]
      have h2 := (h.tags.sort.filter fun a => a.1 == c)
      refine List.Pairwise.imp_of_mem (fun {a b} ha hb hab => ?_) h2
      have h3 := (List.mem_filter.1 ha).2
      have h4 := (List.mem_filter.1 hb).2
      simp only [beq_iff_eq] at h3 h4
      unfold tLt at hab
      omega
    · rw [List.mem_map]
      constructor
      · rintro ⟨a, ha, rfl⟩
        obtain ⟨h3, h4⟩ := List.mem_filter.1 ha
        simp only [beq_iff_eq] at h4
        rw [← h4]
        exact ((h.tags.mem a).1 h3).2
      · intro hr
        exact ⟨(c, r), List.mem_filter.2 ⟨(h.tags.mem _).2 ⟨hc, hr⟩, by simp⟩, rfl⟩
  have h2 : d.map (recAt x) = (d.map (tagOf x)).map Prod.snd := by rw [List.map_map]; rfl
  rw [h2, ← h1]
  exact (List.filter_sublist (l := d.map (tagOf x))).map _
theorem recs_take {w : World} {A : Option Addr} {l : List R} (h : RecsAt w A l) (m : Nat) : RecsAt w A (l.take m) := ⟨fun hn => by
  obtain ⟨b, o, h1, h2, h3⟩ := h.at_ (fun e => by rw [e] at hn; simp at hn)
  exact ⟨b, o, h1, h2, fun k r hk i v hv => h3 k r (by
    have hlt := (List.getElem?_eq_some_iff.1 hk).1
    rw [List.length_take] at hlt
    rw [List.getElem?_take_of_lt (by omega)] at hk
    exact hk) i v hv⟩, fun r hr => h.ok r (List.mem_of_mem_take hr)⟩
set_option maxRecDepth 100000 in
set_option maxHeartbeats 8000000 in
theorem t_inside (A B : Option Addr) (n m ca cb : Nat) (la lb : List R) (hsub : la.Sublist lb) (w : World) (ha : RecsAt w A la) (hn : la.length = n) (hn2 : n ≤ 60000) (hb : RecsAt w B lb) (hm : lb.length = m) (hm2 : m ≤ 60000) :
    Calls Tryz.prog 20 #[.slice A n ca, .slice B m cb] w fun e w' => e = .returned (.bool true) ∧ Below w.heap.size w w' := by
  have HA := Lib.hid ha
  have HB := Lib.hid hb
  have HNN := Lib.hid hn
  have HMM := Lib.hid hm
  have HS := Lib.hid hsub
  clear ha hb hn hm hsub
  go_enter Tryz.func20, Tryz.ntmps20
  go_wp2
  go_loopw [5, 6] (fun y x wr => ∃ (k i : Nat), y = .int .i64 (k : Int) ∧ x = .int .i64 (i : Int) ∧ i ≤ m ∧ k ≤ n ∧ Hid (Below w.heap.size w wr) ∧ Hid ((la.drop k).Sublist (lb.drop i))) (fun _ x _ => m - (intOf x).toNat)
  case atStart => exact ⟨0, 0, rfl, rfl, Nat.zero_le _, Nat.zero_le _, Below.refl _ _, HS.out⟩
  case round =>
    obtain ⟨k, i, rfl, rfl, hi, hk, HW, HT⟩ := hrel
    by_cases he : i < m ∧ k < n
    · obtain ⟨hi2, hk2⟩ := he
      have hx := rAt_get2 (l := la) (k := k) (by rw [HNN.out]; exact hk2)
      have hy := rAt_get2 (l := lb) (k := i) (by rw [HMM.out]; exact hi2)
      have hdx : la.drop k = rAt la k :: la.drop (k + 1) := drop_rAt (by rw [HNN.out]; exact hk2)
      have hdy : lb.drop i = rAt lb i :: lb.drop (i + 1) := drop_rAt (by rw [HMM.out]; exact hi2)
      obtain ⟨x, hxe⟩ : ∃ x, x = rAt la k := ⟨_, rfl⟩
      obtain ⟨y, hye⟩ : ∃ y, y = rAt lb i := ⟨_, rfl⟩
      rw [← hxe] at hx hdx
      rw [← hye] at hy hdy
      obtain ⟨b, o, rfl, hbl, hca⟩ := (HA.out.below HW.out).at_ (fun e => by rw [e] at hx; simp at hx)
      obtain ⟨b2, o2, rfl, hbl2, hcb⟩ := (HB.out.below HW.out).at_ (fun e => by rw [e] at hy; simp at hy)
      have c0 : wr.cell? ⟨b, o + k * 12, none⟩ = some (.int .u64 x.stamp) := hca k x hx 0 _ rfl
      have d0 : wr.cell? ⟨b2, o2 + i * 12, none⟩ = some (.int .u64 y.stamp) := hcb i y hy 0 _ rfl
      have c1 := (hca k x hx) 1 _ rfl
      have c2 := (hca k x hx) 2 _ rfl
      have c3 := (hca k x hx) 3 _ rfl
      have c4 := (hca k x hx) 4 _ rfl
      have c5 := (hca k x hx) 5 _ rfl
      have c6 := (hca k x hx) 6 _ rfl
      have c7 := (hca k x hx) 7 _ rfl
      have c8 := (hca k x hx) 8 _ rfl
      have c9 := (hca k x hx) 9 _ rfl
      have c10 := (hca k x hx) 10 _ rfl
      have c11 := (hca k x hx) 11 _ rfl
      have d1 := (hcb i y hy) 1 _ rfl
      have d2 := (hcb i y hy) 2 _ rfl
      have d3 := (hcb i y hy) 3 _ rfl
      have d4 := (hcb i y hy) 4 _ rfl
      have d5 := (hcb i y hy) 5 _ rfl
      have d6 := (hcb i y hy) 6 _ rfl
      have d7 := (hcb i y hy) 7 _ rfl
      have d8 := (hcb i y hy) 8 _ rfl
      have d9 := (hcb i y hy) 9 _ rfl
      have d10 := (hcb i y hy) 10 _ rfl
      have d11 := (hcb i y hy) 11 _ rfl
      have hsb := HT.out
      rw [hdx, hdy] at hsb
      have HSB := Lib.hid hsb
      have HDX := Lib.hid hdx
      have heq := fun W => eql_rec y x W
      unfold R.val at heq
      clear hx hy hdx hdy hxe hye hca hcb hbl hbl2 hsb
      cases hq : eqR y x
      · simp only [hq] at heq
        have hdk : Hid ((la.drop k).Sublist (lb.drop (i + 1))) := by
          show List.Sublist _ _
          rw [HDX.out]
          rcases List.sublist_cons_iff.1 HSB.out with h | ⟨r, h1, h2⟩
          · exact h
          · exfalso
            rw [List.cons.injEq] at h1
            rw [Bool.eq_false_iff] at hq
            exact hq (eqR_iff.2 h1.1.symm)
        clear hq
        go_wp2
        go_quiet (fail)
        generalize hw2 : wr.drewN _ = w2
        have HB2 : Hid (Below w.heap.size w w2) := by rw [← hw2]; exact pbelow_drewN HW.out _
        clear hw2
        go_wp2
        go_roundw
        case rel => exact ⟨k, i + 1, rfl, rfl, hi2, hk, HB2, hdk⟩
        case measure => simp only [intOf]; omega
      · simp only [hq] at heq
        obtain rfl := eqR_iff.1 hq
        have hnx : Hid ((la.drop (k + 1)).Sublist (lb.drop (i + 1))) := List.cons_sublist_cons.1 HSB.out
        clear hq
        go_wp2
        go_quiet (fail)
        generalize hw2 : wr.drewN _ = w2
        have HB2 : Hid (Below w.heap.size w w2) := by rw [← hw2]; exact pbelow_drewN HW.out _
        clear hw2
        go_wp2
        go_roundw
        case rel => exact ⟨k + 1, i + 1, rfl, rfl, hi2, hk2, HB2, hnx⟩
        case measure => simp only [intOf]; omega
    · have hkn : k = n := by
        apply Classical.byContradiction
        intro hne
        have him : i = m := by
          apply Classical.byContradiction
          intro h
          exact he ⟨by omega, by omega⟩
        have h1 := HT.out.length_le
        rw [List.length_drop, List.length_drop, HNN.out, HMM.out] at h1
        omega
      subst hkn
      by_cases him : i < m
      all_goals
        go_wp2
        go_ret
        exact ⟨rfl, HW.out⟩
end Go.Proofs.YtehckjkihaalfaaGreat
