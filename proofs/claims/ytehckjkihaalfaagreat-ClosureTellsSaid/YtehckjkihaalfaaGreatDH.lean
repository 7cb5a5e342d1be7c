/- The document's closure, walked: In. -/
import Derived.Test.YtehckjkihaalfaaGreatDG
import Derived.Test.YtehckjkihaalfaaGreatBT
namespace Go.Proofs.YtehckjkihaalfaaGreat
open Go.RowKit Go.Maps

set_option maxRecDepth 100000 in
set_option maxHeartbeats 8000000 in
theorem t_rwrites (r : R) (hr : RecOk r) (v : Int) (w : World) : Calls Tryz.prog 127 #[r.val, .int .u32 v] w fun e w' => e = .returned (.bool (writesB r [v])) ∧ Below w.heap.size w w' := by
  have hpt := fun w => t_rparts r hr.1 hr.2.1 hr.2.2.1 hr.2.2.2 w
  unfold R.val at hpt ⊢
  obtain ⟨res, hres⟩ : ∃ b, writesB r [v] = b := ⟨_, rfl⟩
  rw [hres]
  unfold writesB at hres
  obtain ⟨lp, hlp⟩ : ∃ l, partsL r = l := ⟨_, rfl⟩
  have hp9 := partsL_len r
  rw [hlp] at hres hpt hp9
  obtain ⟨m, hm⟩ : ∃ m, lp.length = m := ⟨_, rfl⟩
  rw [hm] at hpt hp9
  have HRES := Lib.hid hres
  have HM := Lib.hid hm
  have HPT := Lib.hid hpt
  clear hres hlp hm hpt
  go_enter Tryz.func127, Tryz.ntmps127
  go_wp2_with (go_at_call 95; (with_reducible refine (HPT.out _).mono ?_); rintro e w1 ⟨v, rfl, ho, hb⟩; obtain ⟨Ap, cp, rfl⟩ := row_slice ho; have HO := Lib.hid ho; have HB := Lib.hid hb; clear ho hb)
  have HB1 := Lib.hid (ptrans (below_a1' w _) HB.out)
  clear HB HPT
  go_loopw [6] (fun x wr => ∃ i : Nat, x = .int .i64 (i : Int) ∧ i ≤ m ∧ Hid (Below w1.heap.size w1 wr) ∧ Hid ((lp.take i).any (writesPt [v]) = false)) (fun x _ => m - (intOf x).toNat)
  case atStart => exact ⟨0, rfl, Nat.zero_le _, Below.refl _ _, rfl⟩
  case round =>
    obtain ⟨i, rfl, hi, HW, HF⟩ := hrel
    by_cases he : i = m
    · have hf : Hid (false = res) := by
        have := HF.out
        rw [List.take_of_length_le (by rw [HM.out]; omega), HRES.out] at this
        exact this.symm
      go_wp2
      go_ret
      exact ⟨pret_bool hf.out, ptrans HB1.out HW.out⟩
    · have hi2 : i < m := by omega
      obtain ⟨x, hx⟩ : ∃ x, lp[i]? = some x := ⟨lp[i]'(by rw [HM.out]; omega), List.getElem?_eq_getElem _⟩
      obtain ⟨g, hg, hc⟩ := part_cells HO.out HM.out HW.out hi2
      subst hg
      obtain ⟨c0, c1, c2, c3⟩ := hc x hx
      have HX := Lib.hid hx
      clear hc hx
      cases h1 : (x.kind == 2)
      · go_wp2
        go_roundw
        case rel => exact ⟨i + 1, rfl, hi2, HW, any_take_succ _ _ _ _ HX.out HF.out (by unfold writesPt; rw [h1]; rfl)⟩
        case measure => simp only [intOf]; omega
      · cases h2 : x.write
        · rw [h2] at c3
          go_wp2
          go_roundw
          case rel => exact ⟨i + 1, rfl, hi2, HW, any_take_succ _ _ _ _ HX.out HF.out (by unfold writesPt; rw [h2]; simp)⟩
          case measure => simp only [intOf]; omega
        · rw [h2] at c3
          cases h3 : (x.ino == v)
          · go_wp2
            go_roundw
            case rel => exact ⟨i + 1, rfl, hi2, HW, any_take_succ _ _ _ _ HX.out HF.out (by unfold writesPt hasI; rw [h1, h2]; simp only [List.any_cons, List.any_nil, h3]; rfl)⟩
            case measure => simp only [intOf]; omega
          · have hf : Hid (true = res) := by
              show true = res
              rw [← HRES.out]
              exact (any_at _ _ _ _ HX.out (by unfold writesPt hasI; rw [h1, h2]; simp only [List.any_cons, List.any_nil, h3]; rfl)).symm
            go_wp2
            go_ret
            exact ⟨pret_bool hf.out, ptrans HB1.out HW.out⟩
/-- The answers, the last k of them found. -/
def fK (l : List R) (inos : List Int) (k j : Nat) : Bool := decide (k ≤ j) && inB l inos l.length j
/-- One more: by the first i inodes. -/
def f1 (l : List R) (inos : List Int) (k i j : Nat) : Bool := if j = k then (inos.take i).any fun x => writesB (rAt l k) [x] else fK l inos (k + 1) j
/-- And by those behind it, up to m. -/
def f2 (l : List R) (inos : List Int) (k m j : Nat) : Bool := if j = k then (writesB (rAt l k) inos || (List.range m).any fun a => decide (k < a) && inB l inos l.length a && meetB (rAt l k) (rAt l a)) else fK l inos (k + 1) j
theorem f1_start (l : List R) (inos : List Int) (k j : Nat) : fK l inos (k + 1) j = f1 l inos k 0 j := by
  unfold f1
  split
  · rename_i h
    subst h
    unfold fK
    have : ¬ j + 1 ≤ j := by omega
    simp [this]
  · rfl
theorem f1_over (l : List R) (inos : List Int) (k j : Nat) : f1 l inos k inos.length j = f2 l inos k (k + 1) j := by
  unfold f1 f2
  split
  · have h0 : ((List.range (k + 1)).any fun a => decide (k < a) && inB l inos l.length a && meetB (rAt l k) (rAt l a)) = false := by
      rw [List.any_eq_false]
      intro a ha
      have : ¬ k < a := by have := List.mem_range.1 ha; omega
      simp [this]
    rw [h0, Bool.or_false, List.take_length, Bool.eq_iff_iff, List.any_eq_true, writesB_or]
  · rfl
theorem f2_over {l : List R} {inos : List Int} {k : Nat} (hk : k < l.length) (j : Nat) : f2 l inos k l.length j = fK l inos k j := by
  unfold f2
  split
  · rename_i h
    subst h
    unfold fK
    rw [decide_eq_true (Nat.le_refl _), Bool.true_and, Bool.eq_iff_iff, inB_iff hk, Bool.or_eq_true, List.any_eq_true]
    constructor
    · rintro (h | ⟨a, ha, h⟩)
      · exact .own hk h
      · simp only [Bool.and_eq_true, decide_eq_true_eq] at h
        exact .on ((inB_iff (List.mem_range.1 ha)).1 h.1.2) (onL_mem.2 ⟨h.1.1, h.2⟩)
    · intro h
      cases h with
      | own _ hw => exact .inl hw
      | @on m _ hm hj =>
        obtain ⟨h1, h2⟩ := onL_mem.1 hj
        refine .inr ⟨m, List.mem_range.2 hm.lt, ?_⟩
        rw [(inB_iff hm.lt).2 hm, h2]
        simp [h1]
  · rename_i h
    unfold fK
    congr 1
    rw [decide_eq_decide]
    omega
theorem f1_step {l : List R} {inos : List Int} {k i : Nat} {x : Int} (hx : inos[i]? = some x) (b : Bool) (hb : b = (f1 l inos k i k || writesB (rAt l k) [x])) (j : Nat) : (if j = k then b else f1 l inos k i j) = f1 l inos k (i + 1) j := by
  subst hb
  unfold f1
  by_cases h : j = k
  · subst h
    rw [if_pos rfl, if_pos rfl, if_pos rfl, List.take_add_one, hx, List.any_append]
    simp
  · rw [if_neg h, if_neg h, if_neg h]
theorem f2_step {l : List R} {inos : List Int} {k m : Nat} (hkm : k < m) (b : Bool) (hb : b = (f2 l inos k m k || (f2 l inos k m m && meetB (rAt l k) (rAt l m)))) (j : Nat) : (if j = k then b else f2 l inos k m j) = f2 l inos k (m + 1) j := by
  subst hb
  unfold f2
  by_cases h : j = k
  · subst h
    have hne : ¬ m = j := by omega
    rw [if_pos rfl, if_pos rfl, if_pos rfl, if_neg hne, List.range_succ, List.any_append, Bool.or_assoc]
    congr 2
    unfold fK
    have h1 : j + 1 ≤ m := hkm
    simp [hkm, h1]
  · rw [if_neg h, if_neg h, if_neg h]
set_option maxRecDepth 100000 in
set_option maxHeartbeats 16000000 in
theorem t_rin (A : Option Addr) (c n : Nat) (l : List R) (Ai : Option Addr) (ni ci : Nat) (inos : List Int) (w : World) (hl : RecsAt w A l) (hn : l.length = n) (hn2 : n ≤ 1000) (hnc : n ≤ c) (hi : InosAt w Ai inos) (hni : inos.length = ni) (hni2 : ni ≤ 60000) :
    Calls Tryz.prog 90 #[.slice A n c, .slice Ai ni ci] w fun e w' => ∃ g, e = .returned (.slice (some ⟨g, 0, none⟩) n n) ∧ BoolsAt w' w.heap.size g n (inB l inos l.length) ∧ Below w.heap.size w w' := by
  obtain ⟨i0, hi0, hz0, hz1, hz2⟩ := infoB
  have HL := Lib.hid hl
  have HN := Lib.hid hn
  have HI := Lib.hid hi
  have HNI := Lib.hid hni
  clear hl hn hi hni
  go_enter Tryz.func90, Tryz.ntmps90
  go_wp2_with (at_make; refine wpList_make_full _ rfl _ _ 78 rfl w.heap.size 4 i0 (.bool false) 1 Tryz.underlying78 hi0 hz0 hz1 .i64 .i64 _ _ n rfl rfl rfl rfl (by rw [hz2]; omega) (by unfold maxLen; omega) (Nat.le_refl _) ?_; intro w2 hr2 hg2; rw [boolV_start] at hr2; have H2 := Lib.hid (And.intro hr2 hg2); clear hr2 hg2)
  obtain ⟨g, hg⟩ : ∃ g, w.heap.size = g := ⟨_, rfl⟩
  have hst : Hid (BoolsAt w2 g g n (fK l inos n) ∧ Below w.heap.size w w2) := by
    have h3 := H2.out.1
    rw [hg] at h3
    refine ⟨BoolsAt.congr h3 (fun k hk => ?_), (Below.refl _ _).grown H2.out.2 (Nat.le_refl _) (fun q h => by cases h)⟩
    unfold fK
    have : ¬ n ≤ k := by omega
    simp [this]
  have HG := Lib.hid hg
  rw [hg]
  clear hg H2
  go_loopw [6] (fun x wr => ∃ k1 : Nat, x = .int .i64 ((k1 : Int) - 1) ∧ k1 ≤ n ∧ Hid (BoolsAt wr g g n (fK l inos k1) ∧ Below w.heap.size w wr)) (fun x _ => (intOf x + 1).toNat)
  case atStart => exact ⟨n, rfl, Nat.le_refl _, hst⟩
  case round =>
    obtain ⟨k1, rfl, hk1, HK⟩ := hrel
    cases k1 with
    | zero =>
      go_wp2
      go_ret
      refine ⟨g, rfl, ?_, HK.out.2⟩
      rw [HG.out]
      exact BoolsAt.congr HK.out.1 (fun k hk => by unfold fK; simp)
    | succ k =>
      have hk2 : k < n := by omega
      have ek : ((k + 1 : Nat) : Int) - 1 = (k : Int) := by omega
      rw [ek]
      obtain ⟨x, hx⟩ : ∃ x, l[k]? = some x := ⟨l[k]'(by rw [HN.out]; omega), List.getElem?_eq_getElem _⟩
      obtain ⟨b, o, rfl, hbl0, hc0⟩ := HL.out.at_ (fun e => by rw [e] at hx; simp at hx)
      have HBB := Lib.hid hbl0
      have HCC := Lib.hid hc0
      have HX1 := Lib.hid hx
      have HXV := Lib.hid (rAt_get hx)
      have HXO := Lib.hid (HL.out.ok x (List.mem_of_getElem? hx))
      clear hbl0 hc0 hx
      have hs1 : Hid (BoolsAt wr g g n (f1 l inos k 0) ∧ Below w.heap.size w wr) := ⟨BoolsAt.congr HK.out.1 (fun j _ => f1_start l inos k j), HK.out.2⟩
      clear HK
      go_wp2
      go_loopw [7] (fun x wr => ∃ i : Nat, x = .int .i64 (i : Int) ∧ i ≤ ni ∧ Hid (BoolsAt wr g g n (f1 l inos k i) ∧ Below w.heap.size w wr)) (fun x _ => ni - (intOf x).toNat)
      case atStart => exact ⟨0, rfl, Nat.zero_le _, hs1⟩
      case round =>
        obtain ⟨i, rfl, hi, HI1⟩ := hrel
        by_cases he : i = ni
        · have hs2 : Hid (BoolsAt wr g g n (f2 l inos k (k + 1)) ∧ Below w.heap.size w wr) := by
            refine ⟨BoolsAt.congr HI1.out.1 (fun j _ => ?_), HI1.out.2⟩
            rw [he, ← HNI.out]
            exact f1_over l inos k j
          have he' : ni = i := he.symm
          clear he hs1 HI1
          subst he'
          go_wp2
          go_loopw [8] (fun x wr => ∃ m : Nat, x = .int .i64 (m : Int) ∧ k < m ∧ m ≤ n ∧ Hid (BoolsAt wr g g n (f2 l inos k m) ∧ Below w.heap.size w wr)) (fun x _ => n - (intOf x).toNat)
          case atStart => exact ⟨k + 1, rfl, by omega, by omega, hs2⟩
          case round =>
            obtain ⟨m, rfl, hkm, hm, HM⟩ := hrel
            by_cases hmn : m = n
            · have hs3 : Hid (BoolsAt wr g g n (fK l inos k) ∧ Below w.heap.size w wr) := by
                refine ⟨BoolsAt.congr HM.out.1 (fun j _ => ?_), HM.out.2⟩
                rw [hmn, ← HN.out]
                exact f2_over (by rw [HN.out]; exact hk2) j
              have hmn' : n = m := hmn.symm
              clear hmn hs2 HM
              subst hmn'
              go_wp2
              go_roundw
              case rel => exact ⟨k, rfl, by omega, hs3⟩
              case measure => simp only [intOf]; omega
            · have hm2 : m < n := by omega
              obtain ⟨y, hy⟩ : ∃ y, l[m]? = some y := ⟨l[m]'(by rw [HN.out]; omega), List.getElem?_eq_getElem _⟩
              have HY1 := Lib.hid hy
              have HYO := Lib.hid (HL.out.ok y (List.mem_of_getElem? hy))
              have HYV := Lib.hid (rAt_get hy)
              have HBW : Hid (b < wr.heap.size) := Nat.lt_of_lt_of_le HBB.out HM.out.2.size
              have hcw := fun (k : Nat) (r : R) (h1 : l[k]? = some r) (i : Nat) (v : Value) (h2 : (cellsR r)[i]? = some v) => (World.cell?_of_block (a := ⟨b, _, none⟩) (HM.out.2.block b HBB.out)).trans (HCC.out k r h1 i v h2)
              have HCW := Lib.hid hcw
              clear hy hcw
              have hstep := fun q (hq : q = (f2 l inos k m k || (f2 l inos k m m && meetB x y))) => f2_step (l := l) (inos := inos) hkm q (by rw [HXV.out, HYV.out]; exact hq)
              obtain ⟨q0, hq0⟩ : ∃ q, f2 l inos k m k = q := ⟨_, rfl⟩
              obtain ⟨q1, hq1⟩ : ∃ q, f2 l inos k m m = q := ⟨_, rfl⟩
              have HQ0 := Lib.hid hq0
              have HQ1 := Lib.hid hq1
              rw [hq0, hq1] at hstep
              have HST := Lib.hid hstep
              clear hstep hq0 hq1
              cases q0
              · cases q1
                · go_wp2
                  refine wp_region_last 24 RelB (phi [isV (.slice (some ⟨g, 0, none⟩) n n), isV (.int .i64 (k : Int)), isV (.slice (some ⟨g, 0, none⟩) n n), isV (.int .i64 (k : Int)), isV (.pointer (some ⟨g, k, none⟩)), isV (.bool false), isV (.bool false), isV (.slice (some ⟨g, 0, none⟩) n n), isV (.int .i64 (m : Int)), isV (.pointer (some ⟨g, m, none⟩)), isV (.bool false), isV (.bool false), (fun _ _ => True), (fun _ _ => True), (fun _ _ => True), (fun _ _ => True), (fun _ _ => True), (fun _ _ => True), (fun _ _ => True), (fun _ _ => True), (fun _ _ => True), isV (.bool false), isV (.bool (false)), isV (.pointer (some ⟨g, k, none⟩))]) (fun W => BoolsAt W g g n (f2 l inos k (m + 1)) ∧ Below w.heap.size w W) (by kernel_rfl) (by kernel_rfl) (by kernel_rfl) (RelB.of (below_drew _)) (fun _ _ _ a b => a.trans b) ?_ ?_ ?_ ?_
                  · refine stays_phiR ?_
                    simp only [List.forall_mem_cons]
                    exact ⟨fun _ _ _ h _ => h, fun _ _ _ h _ => h, fun _ _ _ h _ => h, fun _ _ _ h _ => h, fun _ _ _ h _ => h, fun _ _ _ h _ => h, fun _ _ _ h _ => h, fun _ _ _ h _ => h, fun _ _ _ h _ => h, fun _ _ _ h _ => h, fun _ _ _ h _ => h, fun _ _ _ h _ => h, fun _ _ _ _ _ => trivial, fun _ _ _ _ _ => trivial, fun _ _ _ _ _ => trivial, fun _ _ _ _ _ => trivial, fun _ _ _ _ _ => trivial, fun _ _ _ _ _ => trivial, fun _ _ _ _ _ => trivial, fun _ _ _ _ _ => trivial, fun _ _ _ _ _ => trivial, fun _ _ _ h _ => h, fun _ _ _ h _ => h, fun _ _ _ h _ => h, fun _ h => absurd h (by simp)⟩
                  · refine ⟨?_, ?_, ?_, ?_, ?_, ?_, ?_, ?_, ?_, ?_, ?_, ?_, ?_, ?_, ?_, ?_, ?_, ?_, ?_, ?_, ?_, ?_, ?_, ?_, trivial⟩
                    · refine opR_mk rfl fun aa W2 hB hp hq K hK => ?_
                      have e5 : aa.tmps[5]?.getD undef = .slice (some ⟨g, 0, none⟩) n n := hp 5 (by kernel_rfl)
                      clear hp hq
                      go_simp
                      exact hK _ _ (RelB.refl _) rfl
                    · refine opR_mk rfl fun aa W2 hB hp hq K hK => ?_
                      have e6 : aa.tmps[6]?.getD undef = .int .i64 (k : Int) := hp 6 (by kernel_rfl)
                      clear hp hq
                      go_simp
                      exact hK _ _ (RelB.refl _) rfl
                    · refine opR_mk rfl fun aa W2 hB hp hq K hK => ?_
                      have e5 : aa.tmps[5]?.getD undef = .slice (some ⟨g, 0, none⟩) n n := hp 5 (by kernel_rfl)
                      clear hp hq
                      go_simp
                      exact hK _ _ (RelB.refl _) rfl
                    · refine opR_mk rfl fun aa W2 hB hp hq K hK => ?_
                      have e6 : aa.tmps[6]?.getD undef = .int .i64 (k : Int) := hp 6 (by kernel_rfl)
                      clear hp hq
                      go_simp
                      exact hK _ _ (RelB.refl _) rfl
                    · refine opR_mk rfl fun aa W2 hB hp hq K hK => ?_
                      have e53 : aa.tmps[53]?.getD undef = .slice (some ⟨g, 0, none⟩) n n := hq 2 _ (by kernel_rfl) rfl
                      have e54 : aa.tmps[54]?.getD undef = .int .i64 (k : Int) := hq 3 _ (by kernel_rfl) rfl
                      clear hp hq
                      go_simp
                      exact hK _ _ (RelB.refl _) rfl
                    · refine opR_mk rfl fun aa W2 hB hp hq K hK => ?_
                      have e55 : aa.tmps[55]?.getD undef = .pointer (some ⟨g, k, none⟩) := hq 4 _ (by kernel_rfl) rfl
                      have cb := (HM.out.1.below hB).cell hk2
                      rw [HQ0.out] at cb
                      clear hp hq
                      go_simp
                      exact hK _ _ (RelB.refl _) rfl
                    · refine opR_mk rfl fun aa W2 hB hp hq K hK => ?_
                      have e56 : aa.tmps[56]?.getD undef = .bool false := hq 5 _ (by kernel_rfl) rfl
                      clear hp hq
                      go_simp
                      exact hK _ _ (RelB.refl _) rfl
                    · refine opR_guard (j := 6) (d := 57) (c := false) rfl rfl (by kernel_rfl) rfl rfl (fun v W h => h) (fun _ => RelB.refl _) (fun hne => absurd rfl hne) fun hc aa W2 hB hp hq K hK => ?_
                      have e5 : aa.tmps[5]?.getD undef = .slice (some ⟨g, 0, none⟩) n n := hp 5 (by kernel_rfl)
                      clear hp hq
                      go_simp
                      exact hK _ _ (RelB.refl _) rfl
                    · refine opR_guard (j := 6) (d := 57) (c := false) rfl rfl (by kernel_rfl) rfl rfl (fun v W h => h) (fun _ => RelB.refl _) (fun hne => absurd rfl hne) fun hc aa W2 hB hp hq K hK => ?_
                      have e8 : aa.tmps[8]?.getD undef = .int .i64 (m : Int) := hp 8 (by kernel_rfl)
                      clear hp hq
                      go_simp
                      exact hK _ _ (RelB.refl _) rfl
                    · refine opR_guard (j := 6) (d := 57) (c := false) rfl rfl (by kernel_rfl) rfl rfl (fun v W h => h) (fun _ => RelB.refl _) (fun hne => absurd rfl hne) fun hc aa W2 hB hp hq K hK => ?_
                      have e58 : aa.tmps[58]?.getD undef = .slice (some ⟨g, 0, none⟩) n n := hq 7 _ (by kernel_rfl) rfl
                      have e59 : aa.tmps[59]?.getD undef = .int .i64 (m : Int) := hq 8 _ (by kernel_rfl) rfl
                      clear hp hq
                      go_simp
                      exact hK _ _ (RelB.refl _) rfl
                    · refine opR_guard (j := 6) (d := 57) (c := false) rfl rfl (by kernel_rfl) rfl rfl (fun v W h => h) (fun _ => RelB.refl _) (fun hne => absurd rfl hne) fun hc aa W2 hB hp hq K hK => ?_
                      have e60 : aa.tmps[60]?.getD undef = .pointer (some ⟨g, m, none⟩) := hq 9 _ (by kernel_rfl) rfl
                      have cb := (HM.out.1.below hB).cell hm2
                      rw [HQ1.out] at cb
                      clear hp hq
                      go_simp
                      exact hK _ _ (RelB.refl _) rfl
                    · refine opR_guard (j := 6) (d := 57) (c := false) rfl rfl (by kernel_rfl) rfl rfl (fun v W h => h) (fun _ => RelB.refl _) (fun hne => absurd rfl hne) fun hc aa W2 hB hp hq K hK => ?_
                      have e61 : aa.tmps[61]?.getD undef = .bool false := hq 10 _ (by kernel_rfl) rfl
                      clear hp hq
                      go_simp
                      exact hK _ _ (RelB.refl _) rfl
                    · exact opR_guard (j := 11) (d := 62) (c := false) rfl rfl (by kernel_rfl) rfl rfl (fun v W h => h) (fun _ => RelB.refl _) (fun _ _ => trivial) (fun hc => absurd hc (by decide))
                    · exact opR_guard (j := 11) (d := 62) (c := false) rfl rfl (by kernel_rfl) rfl rfl (fun v W h => h) (fun _ => RelB.refl _) (fun _ _ => trivial) (fun hc => absurd hc (by decide))
                    · exact opR_guard (j := 11) (d := 62) (c := false) rfl rfl (by kernel_rfl) rfl rfl (fun v W h => h) (fun _ => RelB.refl _) (fun _ _ => trivial) (fun hc => absurd hc (by decide))
                    · exact opR_guard (j := 11) (d := 62) (c := false) rfl rfl (by kernel_rfl) rfl rfl (fun v W h => h) (fun _ => RelB.refl _) (fun _ _ => trivial) (fun hc => absurd hc (by decide))
                    · exact opR_guard (j := 11) (d := 62) (c := false) rfl rfl (by kernel_rfl) rfl rfl (fun v W h => h) (fun _ => RelB.refl _) (fun _ _ => trivial) (fun hc => absurd hc (by decide))
                    · exact opR_guard (j := 11) (d := 62) (c := false) rfl rfl (by kernel_rfl) rfl rfl (fun v W h => h) (fun _ => RelB.refl _) (fun _ _ => trivial) (fun hc => absurd hc (by decide))
                    · exact opR_guard (j := 11) (d := 62) (c := false) rfl rfl (by kernel_rfl) rfl rfl (fun v W h => h) (fun _ => RelB.refl _) (fun _ _ => trivial) (fun hc => absurd hc (by decide))
                    · exact opR_guard (j := 11) (d := 62) (c := false) rfl rfl (by kernel_rfl) rfl rfl (fun v W h => h) (fun _ => RelB.refl _) (fun _ _ => trivial) (fun hc => absurd hc (by decide))
                    · exact opR_guard (j := 11) (d := 62) (c := false) rfl rfl (by kernel_rfl) rfl rfl (fun v W h => h) (fun _ => RelB.refl _) (fun _ _ => trivial) (fun hc => absurd hc (by decide))
                    · refine opR_guard (j := 6) (d := 57) (c := false) rfl rfl (by kernel_rfl) rfl rfl (fun v W h => h) (fun _ => RelB.refl _) (fun hne => absurd rfl hne) fun hc aa W2 hB hp hq K hK => ?_
                      have e62 : aa.tmps[62]?.getD undef = .bool false := hq 11 _ (by kernel_rfl) rfl
                      clear hp hq
                      go_simp
                      exact hK _ _ (RelB.refl _) rfl
                    · refine opR_mk rfl fun aa W2 hB hp hq K hK => ?_
                      have e57 : aa.tmps[57]?.getD undef = .bool false := hq 6 _ (by kernel_rfl) rfl
                      have e72 : aa.tmps[72]?.getD undef = .bool false := hq 21 _ (by kernel_rfl) rfl
                      clear hp hq
                      go_simp
                      exact hK _ _ (RelB.refl _) rfl
                    · refine opR_mk rfl fun aa W2 hB hp hq K hK => ?_
                      have e51 : aa.tmps[51]?.getD undef = .slice (some ⟨g, 0, none⟩) n n := hq 0 _ (by kernel_rfl) rfl
                      have e52 : aa.tmps[52]?.getD undef = .int .i64 (k : Int) := hq 1 _ (by kernel_rfl) rfl
                      clear hp hq
                      go_simp
                      exact hK _ _ (RelB.refl _) rfl
                  · intro oN hoN aa W2 hB hp hq K hK
                    obtain rfl := Option.some.inj hoN
                    have e74 : aa.tmps[74]?.getD undef = .pointer (some ⟨g, k, none⟩) := hq 23 _ (by decide) rfl
                    have e73 : aa.tmps[73]?.getD undef = .bool (false) := hq 22 _ (by decide) rfl
                    have cb := (HM.out.1.below hB).cell hk2
                    have fb := (HM.out.1.below hB).frozen (k := k)
                    obtain ⟨hs1, hs2⟩ := (HM.out.1.below hB).set (k := k) (false)
                    have HS1 := Lib.hid hs1
                    have HS2 := Lib.hid hs2
                    clear hp hq hs1 hs2
                    go_simp
                    exact hK _ ⟨BoolsAt.congr HS1.out (fun j _ => HST.out (false) (by simp) j), (ptrans HM.out.2 hB).grown HS2.out (ptrans HM.out.2 hB).size (fun q hq => by injection hq with hq; have := HG.out; omega)⟩
                  · intro vs W3 hF hv
                    have v22 : vs 22 = .bool (false) := (hv 22 (by decide)).elim fun _ h => h
                    have HF3 := Lib.hid hF
                    clear hF hv
                    simp only [List.take_succ_cons, List.take_zero, putAll, Act.put, List.setIfInBounds_toArray, List.set_cons_succ, List.set_cons_zero, Nat.zero_add, Nat.reduceAdd, v22]
                    go_wp2
                    go_roundw
                    case rel => exact ⟨m + 1, rfl, by omega, by omega, HF3⟩
                    case measure => simp only [intOf]; omega
                · go_wp2
                  refine wp_region_last 24 RelB (phi [isV (.slice (some ⟨g, 0, none⟩) n n), isV (.int .i64 (k : Int)), isV (.slice (some ⟨g, 0, none⟩) n n), isV (.int .i64 (k : Int)), isV (.pointer (some ⟨g, k, none⟩)), isV (.bool false), isV (.bool false), isV (.slice (some ⟨g, 0, none⟩) n n), isV (.int .i64 (m : Int)), isV (.pointer (some ⟨g, m, none⟩)), isV (.bool true), isV (.bool true), isV (.slice (some ⟨b, o, none⟩) n c), isV (.int .i64 (k : Int)), isV (.pointer (some ⟨b, o + k * 12, none⟩)), isV (.agg #[.int .u64 x.stamp, .int .u8 x.act, .int .u32 x.dir, .string x.name, .int .u32 x.ino, .int .u8 x.kind, .int .u32 x.dir2, .string x.name2, .int .u32 x.old, .int .u32 x.size, .int .i64 x.page, .string x.data]), isV (.slice (some ⟨b, o, none⟩) n c), isV (.int .i64 (m : Int)), isV (.pointer (some ⟨b, o + m * 12, none⟩)), isV (.agg #[.int .u64 y.stamp, .int .u8 y.act, .int .u32 y.dir, .string y.name, .int .u32 y.ino, .int .u8 y.kind, .int .u32 y.dir2, .string y.name2, .int .u32 y.old, .int .u32 y.size, .int .i64 y.page, .string y.data]), isV (.bool (meetB x y)), isV (.bool (meetB x y)), isV (.bool (meetB x y)), isV (.pointer (some ⟨g, k, none⟩))]) (fun W => BoolsAt W g g n (f2 l inos k (m + 1)) ∧ Below w.heap.size w W) (by kernel_rfl) (by kernel_rfl) (by kernel_rfl) (RelB.of (below_drew _)) (fun _ _ _ a b => a.trans b) ?_ ?_ ?_ ?_
                  · refine stays_phiR ?_
                    simp only [List.forall_mem_cons]
                    exact ⟨fun _ _ _ h _ => h, fun _ _ _ h _ => h, fun _ _ _ h _ => h, fun _ _ _ h _ => h, fun _ _ _ h _ => h, fun _ _ _ h _ => h, fun _ _ _ h _ => h, fun _ _ _ h _ => h, fun _ _ _ h _ => h, fun _ _ _ h _ => h, fun _ _ _ h _ => h, fun _ _ _ h _ => h, fun _ _ _ h _ => h, fun _ _ _ h _ => h, fun _ _ _ h _ => h, fun _ _ _ h _ => h, fun _ _ _ h _ => h, fun _ _ _ h _ => h, fun _ _ _ h _ => h, fun _ _ _ h _ => h, fun _ _ _ h _ => h, fun _ _ _ h _ => h, fun _ _ _ h _ => h, fun _ _ _ h _ => h, fun _ h => absurd h (by simp)⟩
                  · refine ⟨?_, ?_, ?_, ?_, ?_, ?_, ?_, ?_, ?_, ?_, ?_, ?_, ?_, ?_, ?_, ?_, ?_, ?_, ?_, ?_, ?_, ?_, ?_, ?_, trivial⟩
                    · refine opR_mk rfl fun aa W2 hB hp hq K hK => ?_
                      have e5 : aa.tmps[5]?.getD undef = .slice (some ⟨g, 0, none⟩) n n := hp 5 (by kernel_rfl)
                      clear hp hq
                      go_simp
                      exact hK _ _ (RelB.refl _) rfl
                    · refine opR_mk rfl fun aa W2 hB hp hq K hK => ?_
                      have e6 : aa.tmps[6]?.getD undef = .int .i64 (k : Int) := hp 6 (by kernel_rfl)
                      clear hp hq
                      go_simp
                      exact hK _ _ (RelB.refl _) rfl
                    · refine opR_mk rfl fun aa W2 hB hp hq K hK => ?_
                      have e5 : aa.tmps[5]?.getD undef = .slice (some ⟨g, 0, none⟩) n n := hp 5 (by kernel_rfl)
                      clear hp hq
                      go_simp
                      exact hK _ _ (RelB.refl _) rfl
                    · refine opR_mk rfl fun aa W2 hB hp hq K hK => ?_
                      have e6 : aa.tmps[6]?.getD undef = .int .i64 (k : Int) := hp 6 (by kernel_rfl)
                      clear hp hq
                      go_simp
                      exact hK _ _ (RelB.refl _) rfl
                    · refine opR_mk rfl fun aa W2 hB hp hq K hK => ?_
                      have e53 : aa.tmps[53]?.getD undef = .slice (some ⟨g, 0, none⟩) n n := hq 2 _ (by kernel_rfl) rfl
                      have e54 : aa.tmps[54]?.getD undef = .int .i64 (k : Int) := hq 3 _ (by kernel_rfl) rfl
                      clear hp hq
                      go_simp
                      exact hK _ _ (RelB.refl _) rfl
                    · refine opR_mk rfl fun aa W2 hB hp hq K hK => ?_
                      have e55 : aa.tmps[55]?.getD undef = .pointer (some ⟨g, k, none⟩) := hq 4 _ (by kernel_rfl) rfl
                      have cb := (HM.out.1.below hB).cell hk2
                      rw [HQ0.out] at cb
                      clear hp hq
                      go_simp
                      exact hK _ _ (RelB.refl _) rfl
                    · refine opR_mk rfl fun aa W2 hB hp hq K hK => ?_
                      have e56 : aa.tmps[56]?.getD undef = .bool false := hq 5 _ (by kernel_rfl) rfl
                      clear hp hq
                      go_simp
                      exact hK _ _ (RelB.refl _) rfl
                    · refine opR_guard (j := 6) (d := 57) (c := false) rfl rfl (by kernel_rfl) rfl rfl (fun v W h => h) (fun _ => RelB.refl _) (fun hne => absurd rfl hne) fun hc aa W2 hB hp hq K hK => ?_
                      have e5 : aa.tmps[5]?.getD undef = .slice (some ⟨g, 0, none⟩) n n := hp 5 (by kernel_rfl)
                      clear hp hq
                      go_simp
                      exact hK _ _ (RelB.refl _) rfl
                    · refine opR_guard (j := 6) (d := 57) (c := false) rfl rfl (by kernel_rfl) rfl rfl (fun v W h => h) (fun _ => RelB.refl _) (fun hne => absurd rfl hne) fun hc aa W2 hB hp hq K hK => ?_
                      have e8 : aa.tmps[8]?.getD undef = .int .i64 (m : Int) := hp 8 (by kernel_rfl)
                      clear hp hq
                      go_simp
                      exact hK _ _ (RelB.refl _) rfl
                    · refine opR_guard (j := 6) (d := 57) (c := false) rfl rfl (by kernel_rfl) rfl rfl (fun v W h => h) (fun _ => RelB.refl _) (fun hne => absurd rfl hne) fun hc aa W2 hB hp hq K hK => ?_
                      have e58 : aa.tmps[58]?.getD undef = .slice (some ⟨g, 0, none⟩) n n := hq 7 _ (by kernel_rfl) rfl
                      have e59 : aa.tmps[59]?.getD undef = .int .i64 (m : Int) := hq 8 _ (by kernel_rfl) rfl
                      clear hp hq
                      go_simp
                      exact hK _ _ (RelB.refl _) rfl
                    · refine opR_guard (j := 6) (d := 57) (c := false) rfl rfl (by kernel_rfl) rfl rfl (fun v W h => h) (fun _ => RelB.refl _) (fun hne => absurd rfl hne) fun hc aa W2 hB hp hq K hK => ?_
                      have e60 : aa.tmps[60]?.getD undef = .pointer (some ⟨g, m, none⟩) := hq 9 _ (by kernel_rfl) rfl
                      have cb := (HM.out.1.below hB).cell hm2
                      rw [HQ1.out] at cb
                      clear hp hq
                      go_simp
                      exact hK _ _ (RelB.refl _) rfl
                    · refine opR_guard (j := 6) (d := 57) (c := false) rfl rfl (by kernel_rfl) rfl rfl (fun v W h => h) (fun _ => RelB.refl _) (fun hne => absurd rfl hne) fun hc aa W2 hB hp hq K hK => ?_
                      have e61 : aa.tmps[61]?.getD undef = .bool true := hq 10 _ (by kernel_rfl) rfl
                      clear hp hq
                      go_simp
                      exact hK _ _ (RelB.refl _) rfl
                    · refine opR_guard (j := 11) (d := 62) (c := true) rfl rfl (by kernel_rfl) rfl rfl (fun v W h => h) (fun _ => RelB.refl _) (fun hne => absurd rfl hne) fun hc aa W2 hB hp hq K hK => ?_
                      have e0 : aa.tmps[0]?.getD undef = .slice (some ⟨b, o, none⟩) n c := hp 0 (by kernel_rfl)
                      clear hp hq
                      go_simp
                      exact hK _ _ (RelB.refl _) rfl
                    · refine opR_guard (j := 11) (d := 62) (c := true) rfl rfl (by kernel_rfl) rfl rfl (fun v W h => h) (fun _ => RelB.refl _) (fun hne => absurd rfl hne) fun hc aa W2 hB hp hq K hK => ?_
                      have e6 : aa.tmps[6]?.getD undef = .int .i64 (k : Int) := hp 6 (by kernel_rfl)
                      clear hp hq
                      go_simp
                      exact hK _ _ (RelB.refl _) rfl
                    · refine opR_guard (j := 11) (d := 62) (c := true) rfl rfl (by kernel_rfl) rfl rfl (fun v W h => h) (fun _ => RelB.refl _) (fun hne => absurd rfl hne) fun hc aa W2 hB hp hq K hK => ?_
                      have e63 : aa.tmps[63]?.getD undef = .slice (some ⟨b, o, none⟩) n c := hq 12 _ (by kernel_rfl) rfl
                      have e64 : aa.tmps[64]?.getD undef = .int .i64 (k : Int) := hq 13 _ (by kernel_rfl) rfl
                      clear hp hq
                      go_simp
                      exact hK _ _ (RelB.refl _) rfl
                    · refine opR_guard (j := 11) (d := 62) (c := true) rfl rfl (by kernel_rfl) rfl rfl (fun v W h => h) (fun _ => RelB.refl _) (fun hne => absurd rfl hne) fun hc aa W2 hB hp hq K hK => ?_
                      have e65 : aa.tmps[65]?.getD undef = .pointer (some ⟨b, o + k * 12, none⟩) := hq 14 _ (by kernel_rfl) rfl
                      have c0 : W2.cell? ⟨b, o + k * 12, none⟩ = some (.int .u64 x.stamp) := (World.cell?_of_block (a := ⟨b, _, none⟩) (Below.block hB b HBW.out)).trans (HCW.out k x HX1.out 0 _ rfl)
                      have c1 := (World.cell?_of_block (a := ⟨b, _, none⟩) (Below.block hB b HBW.out)).trans (HCW.out k x HX1.out 1 _ rfl)
                      have c2 := (World.cell?_of_block (a := ⟨b, _, none⟩) (Below.block hB b HBW.out)).trans (HCW.out k x HX1.out 2 _ rfl)
                      have c3 := (World.cell?_of_block (a := ⟨b, _, none⟩) (Below.block hB b HBW.out)).trans (HCW.out k x HX1.out 3 _ rfl)
                      have c4 := (World.cell?_of_block (a := ⟨b, _, none⟩) (Below.block hB b HBW.out)).trans (HCW.out k x HX1.out 4 _ rfl)
                      have c5 := (World.cell?_of_block (a := ⟨b, _, none⟩) (Below.block hB b HBW.out)).trans (HCW.out k x HX1.out 5 _ rfl)
                      have c6 := (World.cell?_of_block (a := ⟨b, _, none⟩) (Below.block hB b HBW.out)).trans (HCW.out k x HX1.out 6 _ rfl)
                      have c7 := (World.cell?_of_block (a := ⟨b, _, none⟩) (Below.block hB b HBW.out)).trans (HCW.out k x HX1.out 7 _ rfl)
                      have c8 := (World.cell?_of_block (a := ⟨b, _, none⟩) (Below.block hB b HBW.out)).trans (HCW.out k x HX1.out 8 _ rfl)
                      have c9 := (World.cell?_of_block (a := ⟨b, _, none⟩) (Below.block hB b HBW.out)).trans (HCW.out k x HX1.out 9 _ rfl)
                      have c10 := (World.cell?_of_block (a := ⟨b, _, none⟩) (Below.block hB b HBW.out)).trans (HCW.out k x HX1.out 10 _ rfl)
                      have c11 := (World.cell?_of_block (a := ⟨b, _, none⟩) (Below.block hB b HBW.out)).trans (HCW.out k x HX1.out 11 _ rfl)
                      clear hp hq
                      go_simp
                      exact hK _ _ (RelB.refl _) rfl
                    · refine opR_guard (j := 11) (d := 62) (c := true) rfl rfl (by kernel_rfl) rfl rfl (fun v W h => h) (fun _ => RelB.refl _) (fun hne => absurd rfl hne) fun hc aa W2 hB hp hq K hK => ?_
                      have e0 : aa.tmps[0]?.getD undef = .slice (some ⟨b, o, none⟩) n c := hp 0 (by kernel_rfl)
                      clear hp hq
                      go_simp
                      exact hK _ _ (RelB.refl _) rfl
                    · refine opR_guard (j := 11) (d := 62) (c := true) rfl rfl (by kernel_rfl) rfl rfl (fun v W h => h) (fun _ => RelB.refl _) (fun hne => absurd rfl hne) fun hc aa W2 hB hp hq K hK => ?_
                      have e8 : aa.tmps[8]?.getD undef = .int .i64 (m : Int) := hp 8 (by kernel_rfl)
                      clear hp hq
                      go_simp
                      exact hK _ _ (RelB.refl _) rfl
                    · refine opR_guard (j := 11) (d := 62) (c := true) rfl rfl (by kernel_rfl) rfl rfl (fun v W h => h) (fun _ => RelB.refl _) (fun hne => absurd rfl hne) fun hc aa W2 hB hp hq K hK => ?_
                      have e67 : aa.tmps[67]?.getD undef = .slice (some ⟨b, o, none⟩) n c := hq 16 _ (by kernel_rfl) rfl
                      have e68 : aa.tmps[68]?.getD undef = .int .i64 (m : Int) := hq 17 _ (by kernel_rfl) rfl
                      clear hp hq
                      go_simp
                      exact hK _ _ (RelB.refl _) rfl
                    · refine opR_guard (j := 11) (d := 62) (c := true) rfl rfl (by kernel_rfl) rfl rfl (fun v W h => h) (fun _ => RelB.refl _) (fun hne => absurd rfl hne) fun hc aa W2 hB hp hq K hK => ?_
                      have e69 : aa.tmps[69]?.getD undef = .pointer (some ⟨b, o + m * 12, none⟩) := hq 18 _ (by kernel_rfl) rfl
                      have d0 : W2.cell? ⟨b, o + m * 12, none⟩ = some (.int .u64 y.stamp) := (World.cell?_of_block (a := ⟨b, _, none⟩) (Below.block hB b HBW.out)).trans (HCW.out m y HY1.out 0 _ rfl)
                      have d1 := (World.cell?_of_block (a := ⟨b, _, none⟩) (Below.block hB b HBW.out)).trans (HCW.out m y HY1.out 1 _ rfl)
                      have d2 := (World.cell?_of_block (a := ⟨b, _, none⟩) (Below.block hB b HBW.out)).trans (HCW.out m y HY1.out 2 _ rfl)
                      have d3 := (World.cell?_of_block (a := ⟨b, _, none⟩) (Below.block hB b HBW.out)).trans (HCW.out m y HY1.out 3 _ rfl)
                      have d4 := (World.cell?_of_block (a := ⟨b, _, none⟩) (Below.block hB b HBW.out)).trans (HCW.out m y HY1.out 4 _ rfl)
                      have d5 := (World.cell?_of_block (a := ⟨b, _, none⟩) (Below.block hB b HBW.out)).trans (HCW.out m y HY1.out 5 _ rfl)
                      have d6 := (World.cell?_of_block (a := ⟨b, _, none⟩) (Below.block hB b HBW.out)).trans (HCW.out m y HY1.out 6 _ rfl)
                      have d7 := (World.cell?_of_block (a := ⟨b, _, none⟩) (Below.block hB b HBW.out)).trans (HCW.out m y HY1.out 7 _ rfl)
                      have d8 := (World.cell?_of_block (a := ⟨b, _, none⟩) (Below.block hB b HBW.out)).trans (HCW.out m y HY1.out 8 _ rfl)
                      have d9 := (World.cell?_of_block (a := ⟨b, _, none⟩) (Below.block hB b HBW.out)).trans (HCW.out m y HY1.out 9 _ rfl)
                      have d10 := (World.cell?_of_block (a := ⟨b, _, none⟩) (Below.block hB b HBW.out)).trans (HCW.out m y HY1.out 10 _ rfl)
                      have d11 := (World.cell?_of_block (a := ⟨b, _, none⟩) (Below.block hB b HBW.out)).trans (HCW.out m y HY1.out 11 _ rfl)
                      clear hp hq
                      go_simp
                      exact hK _ _ (RelB.refl _) rfl
                    · refine opR_guard (j := 11) (d := 62) (c := true) rfl rfl (by kernel_rfl) rfl rfl (fun v W h => h) (fun _ => RelB.refl _) (fun hne => absurd rfl hne) fun hc aa W2 hB hp hq K hK => ?_
                      have e66 : aa.tmps[66]?.getD undef = .agg #[.int .u64 x.stamp, .int .u8 x.act, .int .u32 x.dir, .string x.name, .int .u32 x.ino, .int .u8 x.kind, .int .u32 x.dir2, .string x.name2, .int .u32 x.old, .int .u32 x.size, .int .i64 x.page, .string x.data] := hq 15 _ (by kernel_rfl) rfl
                      have e70 : aa.tmps[70]?.getD undef = .agg #[.int .u64 y.stamp, .int .u8 y.act, .int .u32 y.dir, .string y.name, .int .u32 y.ino, .int .u8 y.kind, .int .u32 y.dir2, .string y.name2, .int .u32 y.old, .int .u32 y.size, .int .i64 y.page, .string y.data] := hq 19 _ (by kernel_rfl) rfl
                      clear hp hq
                      go_simp
                      refine (t_rmeet x y HXO.out HYO.out W2).mono ?_
                      rintro e w2 ⟨rfl, hb2⟩
                      exact hK _ _ (RelB.of hb2) rfl
                    · refine opR_guard (j := 6) (d := 57) (c := false) rfl rfl (by kernel_rfl) rfl rfl (fun v W h => h) (fun _ => RelB.refl _) (fun hne => absurd rfl hne) fun hc aa W2 hB hp hq K hK => ?_
                      have e62 : aa.tmps[62]?.getD undef = .bool true := hq 11 _ (by kernel_rfl) rfl
                      have e71 : aa.tmps[71]?.getD undef = .bool (meetB x y) := hq 20 _ (by kernel_rfl) rfl
                      clear hp hq
                      go_simp
                      exact hK _ _ (RelB.refl _) rfl
                    · refine opR_mk rfl fun aa W2 hB hp hq K hK => ?_
                      have e57 : aa.tmps[57]?.getD undef = .bool false := hq 6 _ (by kernel_rfl) rfl
                      have e72 : aa.tmps[72]?.getD undef = .bool (meetB x y) := hq 21 _ (by kernel_rfl) rfl
                      clear hp hq
                      go_simp
                      exact hK _ _ (RelB.refl _) rfl
                    · refine opR_mk rfl fun aa W2 hB hp hq K hK => ?_
                      have e51 : aa.tmps[51]?.getD undef = .slice (some ⟨g, 0, none⟩) n n := hq 0 _ (by kernel_rfl) rfl
                      have e52 : aa.tmps[52]?.getD undef = .int .i64 (k : Int) := hq 1 _ (by kernel_rfl) rfl
                      clear hp hq
                      go_simp
                      exact hK _ _ (RelB.refl _) rfl
                  · intro oN hoN aa W2 hB hp hq K hK
                    obtain rfl := Option.some.inj hoN
                    have e74 : aa.tmps[74]?.getD undef = .pointer (some ⟨g, k, none⟩) := hq 23 _ (by decide) rfl
                    have e73 : aa.tmps[73]?.getD undef = .bool (meetB x y) := hq 22 _ (by decide) rfl
                    have cb := (HM.out.1.below hB).cell hk2
                    have fb := (HM.out.1.below hB).frozen (k := k)
                    obtain ⟨hs1, hs2⟩ := (HM.out.1.below hB).set (k := k) (meetB x y)
                    have HS1 := Lib.hid hs1
                    have HS2 := Lib.hid hs2
                    clear hp hq hs1 hs2
                    go_simp
                    exact hK _ ⟨BoolsAt.congr HS1.out (fun j _ => HST.out (meetB x y) (by simp) j), (ptrans HM.out.2 hB).grown HS2.out (ptrans HM.out.2 hB).size (fun q hq => by injection hq with hq; have := HG.out; omega)⟩
                  · intro vs W3 hF hv
                    have v22 : vs 22 = .bool (meetB x y) := (hv 22 (by decide)).elim fun _ h => h
                    have HF3 := Lib.hid hF
                    clear hF hv
                    simp only [List.take_succ_cons, List.take_zero, putAll, Act.put, List.setIfInBounds_toArray, List.set_cons_succ, List.set_cons_zero, Nat.zero_add, Nat.reduceAdd, v22]
                    go_wp2
                    go_roundw
                    case rel => exact ⟨m + 1, rfl, by omega, by omega, HF3⟩
                    case measure => simp only [intOf]; omega
              · go_wp2
                refine wp_region_last 24 RelB (phi [isV (.slice (some ⟨g, 0, none⟩) n n), isV (.int .i64 (k : Int)), isV (.slice (some ⟨g, 0, none⟩) n n), isV (.int .i64 (k : Int)), isV (.pointer (some ⟨g, k, none⟩)), isV (.bool true), isV (.bool true), (fun _ _ => True), (fun _ _ => True), (fun _ _ => True), (fun _ _ => True), isV undef, (fun _ _ => True), (fun _ _ => True), (fun _ _ => True), (fun _ _ => True), (fun _ _ => True), (fun _ _ => True), (fun _ _ => True), (fun _ _ => True), (fun _ _ => True), (fun _ _ => True), isV (.bool true), isV (.pointer (some ⟨g, k, none⟩))]) (fun W => BoolsAt W g g n (f2 l inos k (m + 1)) ∧ Below w.heap.size w W) (by kernel_rfl) (by kernel_rfl) (by kernel_rfl) (RelB.of (below_drew _)) (fun _ _ _ a b => a.trans b) ?_ ?_ ?_ ?_
                · refine stays_phiR ?_
                  simp only [List.forall_mem_cons]
                  exact ⟨fun _ _ _ h _ => h, fun _ _ _ h _ => h, fun _ _ _ h _ => h, fun _ _ _ h _ => h, fun _ _ _ h _ => h, fun _ _ _ h _ => h, fun _ _ _ h _ => h, fun _ _ _ _ _ => trivial, fun _ _ _ _ _ => trivial, fun _ _ _ _ _ => trivial, fun _ _ _ _ _ => trivial, fun _ _ _ h _ => h, fun _ _ _ _ _ => trivial, fun _ _ _ _ _ => trivial, fun _ _ _ _ _ => trivial, fun _ _ _ _ _ => trivial, fun _ _ _ _ _ => trivial, fun _ _ _ _ _ => trivial, fun _ _ _ _ _ => trivial, fun _ _ _ _ _ => trivial, fun _ _ _ _ _ => trivial, fun _ _ _ _ _ => trivial, fun _ _ _ h _ => h, fun _ _ _ h _ => h, fun _ h => absurd h (by simp)⟩
                · refine ⟨?_, ?_, ?_, ?_, ?_, ?_, ?_, ?_, ?_, ?_, ?_, ?_, ?_, ?_, ?_, ?_, ?_, ?_, ?_, ?_, ?_, ?_, ?_, ?_, trivial⟩
                  · refine opR_mk rfl fun aa W2 hB hp hq K hK => ?_
                    have e5 : aa.tmps[5]?.getD undef = .slice (some ⟨g, 0, none⟩) n n := hp 5 (by kernel_rfl)
                    clear hp hq
                    go_simp
                    exact hK _ _ (RelB.refl _) rfl
                  · refine opR_mk rfl fun aa W2 hB hp hq K hK => ?_
                    have e6 : aa.tmps[6]?.getD undef = .int .i64 (k : Int) := hp 6 (by kernel_rfl)
                    clear hp hq
                    go_simp
                    exact hK _ _ (RelB.refl _) rfl
                  · refine opR_mk rfl fun aa W2 hB hp hq K hK => ?_
                    have e5 : aa.tmps[5]?.getD undef = .slice (some ⟨g, 0, none⟩) n n := hp 5 (by kernel_rfl)
                    clear hp hq
                    go_simp
                    exact hK _ _ (RelB.refl _) rfl
                  · refine opR_mk rfl fun aa W2 hB hp hq K hK => ?_
                    have e6 : aa.tmps[6]?.getD undef = .int .i64 (k : Int) := hp 6 (by kernel_rfl)
                    clear hp hq
                    go_simp
                    exact hK _ _ (RelB.refl _) rfl
                  · refine opR_mk rfl fun aa W2 hB hp hq K hK => ?_
                    have e53 : aa.tmps[53]?.getD undef = .slice (some ⟨g, 0, none⟩) n n := hq 2 _ (by kernel_rfl) rfl
                    have e54 : aa.tmps[54]?.getD undef = .int .i64 (k : Int) := hq 3 _ (by kernel_rfl) rfl
                    clear hp hq
                    go_simp
                    exact hK _ _ (RelB.refl _) rfl
                  · refine opR_mk rfl fun aa W2 hB hp hq K hK => ?_
                    have e55 : aa.tmps[55]?.getD undef = .pointer (some ⟨g, k, none⟩) := hq 4 _ (by kernel_rfl) rfl
                    have cb := (HM.out.1.below hB).cell hk2
                    rw [HQ0.out] at cb
                    clear hp hq
                    go_simp
                    exact hK _ _ (RelB.refl _) rfl
                  · refine opR_mk rfl fun aa W2 hB hp hq K hK => ?_
                    have e56 : aa.tmps[56]?.getD undef = .bool true := hq 5 _ (by kernel_rfl) rfl
                    clear hp hq
                    go_simp
                    exact hK _ _ (RelB.refl _) rfl
                  · exact opR_guard (j := 6) (d := 57) (c := true) rfl rfl (by kernel_rfl) rfl rfl (fun v W h => h) (fun _ => RelB.refl _) (fun _ _ => trivial) (fun hc => absurd hc (by decide))
                  · exact opR_guard (j := 6) (d := 57) (c := true) rfl rfl (by kernel_rfl) rfl rfl (fun v W h => h) (fun _ => RelB.refl _) (fun _ _ => trivial) (fun hc => absurd hc (by decide))
                  · exact opR_guard (j := 6) (d := 57) (c := true) rfl rfl (by kernel_rfl) rfl rfl (fun v W h => h) (fun _ => RelB.refl _) (fun _ _ => trivial) (fun hc => absurd hc (by decide))
                  · exact opR_guard (j := 6) (d := 57) (c := true) rfl rfl (by kernel_rfl) rfl rfl (fun v W h => h) (fun _ => RelB.refl _) (fun _ _ => trivial) (fun hc => absurd hc (by decide))
                  · exact opR_guard (j := 6) (d := 57) (c := true) rfl rfl (by kernel_rfl) rfl rfl (fun v W h => h) (fun _ => RelB.refl _) (fun _ _ => rfl) (fun hc => absurd hc (by decide))
                  · exact opR_lost (j := 11) (d := 62) rfl rfl (by kernel_rfl) rfl rfl (fun v W h => h) (fun _ => RelB.refl _) (fun _ => trivial)
                  · exact opR_lost (j := 11) (d := 62) rfl rfl (by kernel_rfl) rfl rfl (fun v W h => h) (fun _ => RelB.refl _) (fun _ => trivial)
                  · exact opR_lost (j := 11) (d := 62) rfl rfl (by kernel_rfl) rfl rfl (fun v W h => h) (fun _ => RelB.refl _) (fun _ => trivial)
                  · exact opR_lost (j := 11) (d := 62) rfl rfl (by kernel_rfl) rfl rfl (fun v W h => h) (fun _ => RelB.refl _) (fun _ => trivial)
                  · exact opR_lost (j := 11) (d := 62) rfl rfl (by kernel_rfl) rfl rfl (fun v W h => h) (fun _ => RelB.refl _) (fun _ => trivial)
                  · exact opR_lost (j := 11) (d := 62) rfl rfl (by kernel_rfl) rfl rfl (fun v W h => h) (fun _ => RelB.refl _) (fun _ => trivial)
                  · exact opR_lost (j := 11) (d := 62) rfl rfl (by kernel_rfl) rfl rfl (fun v W h => h) (fun _ => RelB.refl _) (fun _ => trivial)
                  · exact opR_lost (j := 11) (d := 62) rfl rfl (by kernel_rfl) rfl rfl (fun v W h => h) (fun _ => RelB.refl _) (fun _ => trivial)
                  · exact opR_lost (j := 11) (d := 62) rfl rfl (by kernel_rfl) rfl rfl (fun v W h => h) (fun _ => RelB.refl _) (fun _ => trivial)
                  · exact opR_guard (j := 6) (d := 57) (c := true) rfl rfl (by kernel_rfl) rfl rfl (fun v W h => h) (fun _ => RelB.refl _) (fun _ _ => trivial) (fun hc => absurd hc (by decide))
                  · refine opR_mk rfl fun aa W2 hB hp hq K hK => ?_
                    have e57 : aa.tmps[57]?.getD undef = .bool true := hq 6 _ (by kernel_rfl) rfl
                    clear hp hq
                    go_simp
                    exact hK _ _ (RelB.refl _) rfl
                  · refine opR_mk rfl fun aa W2 hB hp hq K hK => ?_
                    have e51 : aa.tmps[51]?.getD undef = .slice (some ⟨g, 0, none⟩) n n := hq 0 _ (by kernel_rfl) rfl
                    have e52 : aa.tmps[52]?.getD undef = .int .i64 (k : Int) := hq 1 _ (by kernel_rfl) rfl
                    clear hp hq
                    go_simp
                    exact hK _ _ (RelB.refl _) rfl
                · intro oN hoN aa W2 hB hp hq K hK
                  obtain rfl := Option.some.inj hoN
                  have e74 : aa.tmps[74]?.getD undef = .pointer (some ⟨g, k, none⟩) := hq 23 _ (by decide) rfl
                  have e73 : aa.tmps[73]?.getD undef = .bool (true) := hq 22 _ (by decide) rfl
                  have cb := (HM.out.1.below hB).cell hk2
                  have fb := (HM.out.1.below hB).frozen (k := k)
                  obtain ⟨hs1, hs2⟩ := (HM.out.1.below hB).set (k := k) (true)
                  have HS1 := Lib.hid hs1
                  have HS2 := Lib.hid hs2
                  clear hp hq hs1 hs2
                  go_simp
                  exact hK _ ⟨BoolsAt.congr HS1.out (fun j _ => HST.out (true) (by simp) j), (ptrans HM.out.2 hB).grown HS2.out (ptrans HM.out.2 hB).size (fun q hq => by injection hq with hq; have := HG.out; omega)⟩
                · intro vs W3 hF hv
                  have v22 : vs 22 = .bool (true) := (hv 22 (by decide)).elim fun _ h => h
                  have HF3 := Lib.hid hF
                  clear hF hv
                  simp only [List.take_succ_cons, List.take_zero, putAll, Act.put, List.setIfInBounds_toArray, List.set_cons_succ, List.set_cons_zero, Nat.zero_add, Nat.reduceAdd, v22]
                  go_wp2
                  go_roundw
                  case rel => exact ⟨m + 1, rfl, by omega, by omega, HF3⟩
                  case measure => simp only [intOf]; omega
        · have hi2 : i < ni := by omega
          obtain ⟨v, hv⟩ : ∃ v, inos[i]? = some v := ⟨inos[i]'(by rw [HNI.out]; omega), List.getElem?_eq_getElem _⟩
          obtain ⟨bi, oi, rfl, hbi, hci⟩ := HI.out (fun e => by rw [e] at hv; simp at hv)
          have HV := Lib.hid hv
          have HBI := Lib.hid hbi
          have hiw := (World.cell?_of_block (a := ⟨bi, _, none⟩) (HI1.out.2.block bi hbi)).trans (hci i v hv)
          have HIW := Lib.hid hiw
          have HBW : Hid (b < wr.heap.size) := Nat.lt_of_lt_of_le HBB.out HI1.out.2.size
          have HBIW : Hid (bi < wr.heap.size) := Nat.lt_of_lt_of_le hbi HI1.out.2.size
          have hcw := fun (k : Nat) (r : R) (h1 : l[k]? = some r) (i : Nat) (v : Value) (h2 : (cellsR r)[i]? = some v) => (World.cell?_of_block (a := ⟨b, _, none⟩) (HI1.out.2.block b HBB.out)).trans (HCC.out k r h1 i v h2)
          have HCW := Lib.hid hcw
          clear hv hci hbi hiw hcw
          have hstep := fun q (hq : q = (f1 l inos k i k || writesB x [v])) => f1_step (l := l) (inos := inos) (k := k) HV.out q (by rw [HXV.out]; exact hq)
          obtain ⟨q0, hq0⟩ : ∃ q, f1 l inos k i k = q := ⟨_, rfl⟩
          have HQ0 := Lib.hid hq0
          rw [hq0] at hstep
          have HST := Lib.hid hstep
          clear hstep hq0
          cases q0
          · go_wp2
            refine wp_region_last 18 RelB (phi [isV (.slice (some ⟨g, 0, none⟩) n n), isV (.int .i64 (k : Int)), isV (.slice (some ⟨g, 0, none⟩) n n), isV (.int .i64 (k : Int)), isV (.pointer (some ⟨g, k, none⟩)), isV (.bool false), isV (.bool false), isV (.slice (some ⟨b, o, none⟩) n c), isV (.int .i64 (k : Int)), isV (.pointer (some ⟨b, o + k * 12, none⟩)), isV (.agg #[.int .u64 x.stamp, .int .u8 x.act, .int .u32 x.dir, .string x.name, .int .u32 x.ino, .int .u8 x.kind, .int .u32 x.dir2, .string x.name2, .int .u32 x.old, .int .u32 x.size, .int .i64 x.page, .string x.data]), isV (.slice (some ⟨bi, oi, none⟩) ni ci), isV (.int .i64 (i : Int)), isV (.pointer (some ⟨bi, oi + i, none⟩)), isV (.int .u32 v), isV (.bool (writesB x [v])), isV (.bool (writesB x [v])), isV (.pointer (some ⟨g, k, none⟩))]) (fun W => BoolsAt W g g n (f1 l inos k (i + 1)) ∧ Below w.heap.size w W) (by kernel_rfl) (by kernel_rfl) (by kernel_rfl) (RelB.of (below_drew _)) (fun _ _ _ a b => a.trans b) ?_ ?_ ?_ ?_
            · refine stays_phiR ?_
              simp only [List.forall_mem_cons]
              exact ⟨fun _ _ _ h _ => h, fun _ _ _ h _ => h, fun _ _ _ h _ => h, fun _ _ _ h _ => h, fun _ _ _ h _ => h, fun _ _ _ h _ => h, fun _ _ _ h _ => h, fun _ _ _ h _ => h, fun _ _ _ h _ => h, fun _ _ _ h _ => h, fun _ _ _ h _ => h, fun _ _ _ h _ => h, fun _ _ _ h _ => h, fun _ _ _ h _ => h, fun _ _ _ h _ => h, fun _ _ _ h _ => h, fun _ _ _ h _ => h, fun _ _ _ h _ => h, fun _ h => absurd h (by simp)⟩
            · refine ⟨?_, ?_, ?_, ?_, ?_, ?_, ?_, ?_, ?_, ?_, ?_, ?_, ?_, ?_, ?_, ?_, ?_, ?_, trivial⟩
              · refine opR_mk rfl fun aa W2 hB hp hq K hK => ?_
                have e5 : aa.tmps[5]?.getD undef = .slice (some ⟨g, 0, none⟩) n n := hp 5 (by kernel_rfl)
                clear hp hq
                go_simp
                exact hK _ _ (RelB.refl _) rfl
              · refine opR_mk rfl fun aa W2 hB hp hq K hK => ?_
                have e6 : aa.tmps[6]?.getD undef = .int .i64 (k : Int) := hp 6 (by kernel_rfl)
                clear hp hq
                go_simp
                exact hK _ _ (RelB.refl _) rfl
              · refine opR_mk rfl fun aa W2 hB hp hq K hK => ?_
                have e5 : aa.tmps[5]?.getD undef = .slice (some ⟨g, 0, none⟩) n n := hp 5 (by kernel_rfl)
                clear hp hq
                go_simp
                exact hK _ _ (RelB.refl _) rfl
              · refine opR_mk rfl fun aa W2 hB hp hq K hK => ?_
                have e6 : aa.tmps[6]?.getD undef = .int .i64 (k : Int) := hp 6 (by kernel_rfl)
                clear hp hq
                go_simp
                exact hK _ _ (RelB.refl _) rfl
              · refine opR_mk rfl fun aa W2 hB hp hq K hK => ?_
                have e27 : aa.tmps[27]?.getD undef = .slice (some ⟨g, 0, none⟩) n n := hq 2 _ (by kernel_rfl) rfl
                have e28 : aa.tmps[28]?.getD undef = .int .i64 (k : Int) := hq 3 _ (by kernel_rfl) rfl
                clear hp hq
                go_simp
                exact hK _ _ (RelB.refl _) rfl
              · refine opR_mk rfl fun aa W2 hB hp hq K hK => ?_
                have e29 : aa.tmps[29]?.getD undef = .pointer (some ⟨g, k, none⟩) := hq 4 _ (by kernel_rfl) rfl
                have cb := (HI1.out.1.below hB).cell hk2
                rw [HQ0.out] at cb
                clear hp hq
                go_simp
                exact hK _ _ (RelB.refl _) rfl
              · refine opR_mk rfl fun aa W2 hB hp hq K hK => ?_
                have e30 : aa.tmps[30]?.getD undef = .bool false := hq 5 _ (by kernel_rfl) rfl
                clear hp hq
                go_simp
                exact hK _ _ (RelB.refl _) rfl
              · refine opR_guard (j := 6) (d := 31) (c := false) rfl rfl (by kernel_rfl) rfl rfl (fun v W h => h) (fun _ => RelB.refl _) (fun hne => absurd rfl hne) fun hc aa W2 hB hp hq K hK => ?_
                have e0 : aa.tmps[0]?.getD undef = .slice (some ⟨b, o, none⟩) n c := hp 0 (by kernel_rfl)
                clear hp hq
                go_simp
                exact hK _ _ (RelB.refl _) rfl
              · refine opR_guard (j := 6) (d := 31) (c := false) rfl rfl (by kernel_rfl) rfl rfl (fun v W h => h) (fun _ => RelB.refl _) (fun hne => absurd rfl hne) fun hc aa W2 hB hp hq K hK => ?_
                have e6 : aa.tmps[6]?.getD undef = .int .i64 (k : Int) := hp 6 (by kernel_rfl)
                clear hp hq
                go_simp
                exact hK _ _ (RelB.refl _) rfl
              · refine opR_guard (j := 6) (d := 31) (c := false) rfl rfl (by kernel_rfl) rfl rfl (fun v W h => h) (fun _ => RelB.refl _) (fun hne => absurd rfl hne) fun hc aa W2 hB hp hq K hK => ?_
                have e32 : aa.tmps[32]?.getD undef = .slice (some ⟨b, o, none⟩) n c := hq 7 _ (by kernel_rfl) rfl
                have e33 : aa.tmps[33]?.getD undef = .int .i64 (k : Int) := hq 8 _ (by kernel_rfl) rfl
                clear hp hq
                go_simp
                exact hK _ _ (RelB.refl _) rfl
              · refine opR_guard (j := 6) (d := 31) (c := false) rfl rfl (by kernel_rfl) rfl rfl (fun v W h => h) (fun _ => RelB.refl _) (fun hne => absurd rfl hne) fun hc aa W2 hB hp hq K hK => ?_
                have e34 : aa.tmps[34]?.getD undef = .pointer (some ⟨b, o + k * 12, none⟩) := hq 9 _ (by kernel_rfl) rfl
                have c0 : W2.cell? ⟨b, o + k * 12, none⟩ = some (.int .u64 x.stamp) := (World.cell?_of_block (a := ⟨b, _, none⟩) (Below.block hB b HBW.out)).trans (HCW.out k x HX1.out 0 _ rfl)
                have c1 := (World.cell?_of_block (a := ⟨b, _, none⟩) (Below.block hB b HBW.out)).trans (HCW.out k x HX1.out 1 _ rfl)
                have c2 := (World.cell?_of_block (a := ⟨b, _, none⟩) (Below.block hB b HBW.out)).trans (HCW.out k x HX1.out 2 _ rfl)
                have c3 := (World.cell?_of_block (a := ⟨b, _, none⟩) (Below.block hB b HBW.out)).trans (HCW.out k x HX1.out 3 _ rfl)
                have c4 := (World.cell?_of_block (a := ⟨b, _, none⟩) (Below.block hB b HBW.out)).trans (HCW.out k x HX1.out 4 _ rfl)
                have c5 := (World.cell?_of_block (a := ⟨b, _, none⟩) (Below.block hB b HBW.out)).trans (HCW.out k x HX1.out 5 _ rfl)
                have c6 := (World.cell?_of_block (a := ⟨b, _, none⟩) (Below.block hB b HBW.out)).trans (HCW.out k x HX1.out 6 _ rfl)
                have c7 := (World.cell?_of_block (a := ⟨b, _, none⟩) (Below.block hB b HBW.out)).trans (HCW.out k x HX1.out 7 _ rfl)
                have c8 := (World.cell?_of_block (a := ⟨b, _, none⟩) (Below.block hB b HBW.out)).trans (HCW.out k x HX1.out 8 _ rfl)
                have c9 := (World.cell?_of_block (a := ⟨b, _, none⟩) (Below.block hB b HBW.out)).trans (HCW.out k x HX1.out 9 _ rfl)
                have c10 := (World.cell?_of_block (a := ⟨b, _, none⟩) (Below.block hB b HBW.out)).trans (HCW.out k x HX1.out 10 _ rfl)
                have c11 := (World.cell?_of_block (a := ⟨b, _, none⟩) (Below.block hB b HBW.out)).trans (HCW.out k x HX1.out 11 _ rfl)
                clear hp hq
                go_simp
                exact hK _ _ (RelB.refl _) rfl
              · refine opR_guard (j := 6) (d := 31) (c := false) rfl rfl (by kernel_rfl) rfl rfl (fun v W h => h) (fun _ => RelB.refl _) (fun hne => absurd rfl hne) fun hc aa W2 hB hp hq K hK => ?_
                have e1 : aa.tmps[1]?.getD undef = .slice (some ⟨bi, oi, none⟩) ni ci := hp 1 (by kernel_rfl)
                clear hp hq
                go_simp
                exact hK _ _ (RelB.refl _) rfl
              · refine opR_guard (j := 6) (d := 31) (c := false) rfl rfl (by kernel_rfl) rfl rfl (fun v W h => h) (fun _ => RelB.refl _) (fun hne => absurd rfl hne) fun hc aa W2 hB hp hq K hK => ?_
                have e7 : aa.tmps[7]?.getD undef = .int .i64 (i : Int) := hp 7 (by kernel_rfl)
                clear hp hq
                go_simp
                exact hK _ _ (RelB.refl _) rfl
              · refine opR_guard (j := 6) (d := 31) (c := false) rfl rfl (by kernel_rfl) rfl rfl (fun v W h => h) (fun _ => RelB.refl _) (fun hne => absurd rfl hne) fun hc aa W2 hB hp hq K hK => ?_
                have e36 : aa.tmps[36]?.getD undef = .slice (some ⟨bi, oi, none⟩) ni ci := hq 11 _ (by kernel_rfl) rfl
                have e37 : aa.tmps[37]?.getD undef = .int .i64 (i : Int) := hq 12 _ (by kernel_rfl) rfl
                clear hp hq
                go_simp
                exact hK _ _ (RelB.refl _) rfl
              · refine opR_guard (j := 6) (d := 31) (c := false) rfl rfl (by kernel_rfl) rfl rfl (fun v W h => h) (fun _ => RelB.refl _) (fun hne => absurd rfl hne) fun hc aa W2 hB hp hq K hK => ?_
                have e38 : aa.tmps[38]?.getD undef = .pointer (some ⟨bi, oi + i, none⟩) := hq 13 _ (by kernel_rfl) rfl
                have ci0 := (World.cell?_of_block (a := ⟨bi, _, none⟩) (Below.block hB bi HBIW.out)).trans HIW.out
                clear hp hq
                go_simp
                exact hK _ _ (RelB.refl _) rfl
              · refine opR_guard (j := 6) (d := 31) (c := false) rfl rfl (by kernel_rfl) rfl rfl (fun v W h => h) (fun _ => RelB.refl _) (fun hne => absurd rfl hne) fun hc aa W2 hB hp hq K hK => ?_
                have e35 : aa.tmps[35]?.getD undef = .agg #[.int .u64 x.stamp, .int .u8 x.act, .int .u32 x.dir, .string x.name, .int .u32 x.ino, .int .u8 x.kind, .int .u32 x.dir2, .string x.name2, .int .u32 x.old, .int .u32 x.size, .int .i64 x.page, .string x.data] := hq 10 _ (by kernel_rfl) rfl
                have e39 : aa.tmps[39]?.getD undef = .int .u32 v := hq 14 _ (by kernel_rfl) rfl
                clear hp hq
                go_simp
                refine (t_rwrites x HXO.out v W2).mono ?_
                rintro e w2 ⟨rfl, hb2⟩
                exact hK _ _ (RelB.of hb2) rfl
              · refine opR_mk rfl fun aa W2 hB hp hq K hK => ?_
                have e31 : aa.tmps[31]?.getD undef = .bool false := hq 6 _ (by kernel_rfl) rfl
                have e40 : aa.tmps[40]?.getD undef = .bool (writesB x [v]) := hq 15 _ (by kernel_rfl) rfl
                clear hp hq
                go_simp
                exact hK _ _ (RelB.refl _) rfl
              · refine opR_mk rfl fun aa W2 hB hp hq K hK => ?_
                have e25 : aa.tmps[25]?.getD undef = .slice (some ⟨g, 0, none⟩) n n := hq 0 _ (by kernel_rfl) rfl
                have e26 : aa.tmps[26]?.getD undef = .int .i64 (k : Int) := hq 1 _ (by kernel_rfl) rfl
                clear hp hq
                go_simp
                exact hK _ _ (RelB.refl _) rfl
            · intro oN hoN aa W2 hB hp hq K hK
              obtain rfl := Option.some.inj hoN
              have e42 : aa.tmps[42]?.getD undef = .pointer (some ⟨g, k, none⟩) := hq 17 _ (by decide) rfl
              have e41 : aa.tmps[41]?.getD undef = .bool (writesB x [v]) := hq 16 _ (by decide) rfl
              have cb := (HI1.out.1.below hB).cell hk2
              have fb := (HI1.out.1.below hB).frozen (k := k)
              obtain ⟨hs1, hs2⟩ := (HI1.out.1.below hB).set (k := k) (writesB x [v])
              have HS1 := Lib.hid hs1
              have HS2 := Lib.hid hs2
              clear hp hq hs1 hs2
              go_simp
              exact hK _ ⟨BoolsAt.congr HS1.out (fun j _ => HST.out (writesB x [v]) (by simp) j), (ptrans HI1.out.2 hB).grown HS2.out (ptrans HI1.out.2 hB).size (fun q hq => by injection hq with hq; have := HG.out; omega)⟩
            · intro vs W3 hF hv
              have v16 : vs 16 = .bool (writesB x [v]) := (hv 16 (by decide)).elim fun _ h => h
              have HF3 := Lib.hid hF
              clear hF hv
              simp only [List.take_succ_cons, List.take_zero, putAll, Act.put, List.setIfInBounds_toArray, List.set_cons_succ, List.set_cons_zero, Nat.zero_add, Nat.reduceAdd, v16]
              go_wp2
              go_roundw
              case rel => exact ⟨i + 1, rfl, hi2, HF3⟩
              case measure => simp only [intOf]; omega
          · go_wp2
            refine wp_region_last 18 RelB (phi [isV (.slice (some ⟨g, 0, none⟩) n n), isV (.int .i64 (k : Int)), isV (.slice (some ⟨g, 0, none⟩) n n), isV (.int .i64 (k : Int)), isV (.pointer (some ⟨g, k, none⟩)), isV (.bool true), isV (.bool true), (fun _ _ => True), (fun _ _ => True), (fun _ _ => True), (fun _ _ => True), (fun _ _ => True), (fun _ _ => True), (fun _ _ => True), (fun _ _ => True), (fun _ _ => True), isV (.bool true), isV (.pointer (some ⟨g, k, none⟩))]) (fun W => BoolsAt W g g n (f1 l inos k (i + 1)) ∧ Below w.heap.size w W) (by kernel_rfl) (by kernel_rfl) (by kernel_rfl) (RelB.of (below_drew _)) (fun _ _ _ a b => a.trans b) ?_ ?_ ?_ ?_
            · refine stays_phiR ?_
              simp only [List.forall_mem_cons]
              exact ⟨fun _ _ _ h _ => h, fun _ _ _ h _ => h, fun _ _ _ h _ => h, fun _ _ _ h _ => h, fun _ _ _ h _ => h, fun _ _ _ h _ => h, fun _ _ _ h _ => h, fun _ _ _ _ _ => trivial, fun _ _ _ _ _ => trivial, fun _ _ _ _ _ => trivial, fun _ _ _ _ _ => trivial, fun _ _ _ _ _ => trivial, fun _ _ _ _ _ => trivial, fun _ _ _ _ _ => trivial, fun _ _ _ _ _ => trivial, fun _ _ _ _ _ => trivial, fun _ _ _ h _ => h, fun _ _ _ h _ => h, fun _ h => absurd h (by simp)⟩
            · refine ⟨?_, ?_, ?_, ?_, ?_, ?_, ?_, ?_, ?_, ?_, ?_, ?_, ?_, ?_, ?_, ?_, ?_, ?_, trivial⟩
              · refine opR_mk rfl fun aa W2 hB hp hq K hK => ?_
                have e5 : aa.tmps[5]?.getD undef = .slice (some ⟨g, 0, none⟩) n n := hp 5 (by kernel_rfl)
                clear hp hq
                go_simp
                exact hK _ _ (RelB.refl _) rfl
              · refine opR_mk rfl fun aa W2 hB hp hq K hK => ?_
                have e6 : aa.tmps[6]?.getD undef = .int .i64 (k : Int) := hp 6 (by kernel_rfl)
                clear hp hq
                go_simp
                exact hK _ _ (RelB.refl _) rfl
              · refine opR_mk rfl fun aa W2 hB hp hq K hK => ?_
                have e5 : aa.tmps[5]?.getD undef = .slice (some ⟨g, 0, none⟩) n n := hp 5 (by kernel_rfl)
                clear hp hq
                go_simp
                exact hK _ _ (RelB.refl _) rfl
              · refine opR_mk rfl fun aa W2 hB hp hq K hK => ?_
                have e6 : aa.tmps[6]?.getD undef = .int .i64 (k : Int) := hp 6 (by kernel_rfl)
                clear hp hq
                go_simp
                exact hK _ _ (RelB.refl _) rfl
              · refine opR_mk rfl fun aa W2 hB hp hq K hK => ?_
                have e27 : aa.tmps[27]?.getD undef = .slice (some ⟨g, 0, none⟩) n n := hq 2 _ (by kernel_rfl) rfl
                have e28 : aa.tmps[28]?.getD undef = .int .i64 (k : Int) := hq 3 _ (by kernel_rfl) rfl
                clear hp hq
                go_simp
                exact hK _ _ (RelB.refl _) rfl
              · refine opR_mk rfl fun aa W2 hB hp hq K hK => ?_
                have e29 : aa.tmps[29]?.getD undef = .pointer (some ⟨g, k, none⟩) := hq 4 _ (by kernel_rfl) rfl
                have cb := (HI1.out.1.below hB).cell hk2
                rw [HQ0.out] at cb
                clear hp hq
                go_simp
                exact hK _ _ (RelB.refl _) rfl
              · refine opR_mk rfl fun aa W2 hB hp hq K hK => ?_
                have e30 : aa.tmps[30]?.getD undef = .bool true := hq 5 _ (by kernel_rfl) rfl
                clear hp hq
                go_simp
                exact hK _ _ (RelB.refl _) rfl
              · exact opR_guard (j := 6) (d := 31) (c := true) rfl rfl (by kernel_rfl) rfl rfl (fun v W h => h) (fun _ => RelB.refl _) (fun _ _ => trivial) (fun hc => absurd hc (by decide))
              · exact opR_guard (j := 6) (d := 31) (c := true) rfl rfl (by kernel_rfl) rfl rfl (fun v W h => h) (fun _ => RelB.refl _) (fun _ _ => trivial) (fun hc => absurd hc (by decide))
              · exact opR_guard (j := 6) (d := 31) (c := true) rfl rfl (by kernel_rfl) rfl rfl (fun v W h => h) (fun _ => RelB.refl _) (fun _ _ => trivial) (fun hc => absurd hc (by decide))
              · exact opR_guard (j := 6) (d := 31) (c := true) rfl rfl (by kernel_rfl) rfl rfl (fun v W h => h) (fun _ => RelB.refl _) (fun _ _ => trivial) (fun hc => absurd hc (by decide))
              · exact opR_guard (j := 6) (d := 31) (c := true) rfl rfl (by kernel_rfl) rfl rfl (fun v W h => h) (fun _ => RelB.refl _) (fun _ _ => trivial) (fun hc => absurd hc (by decide))
              · exact opR_guard (j := 6) (d := 31) (c := true) rfl rfl (by kernel_rfl) rfl rfl (fun v W h => h) (fun _ => RelB.refl _) (fun _ _ => trivial) (fun hc => absurd hc (by decide))
              · exact opR_guard (j := 6) (d := 31) (c := true) rfl rfl (by kernel_rfl) rfl rfl (fun v W h => h) (fun _ => RelB.refl _) (fun _ _ => trivial) (fun hc => absurd hc (by decide))
              · exact opR_guard (j := 6) (d := 31) (c := true) rfl rfl (by kernel_rfl) rfl rfl (fun v W h => h) (fun _ => RelB.refl _) (fun _ _ => trivial) (fun hc => absurd hc (by decide))
              · exact opR_guard (j := 6) (d := 31) (c := true) rfl rfl (by kernel_rfl) rfl rfl (fun v W h => h) (fun _ => RelB.refl _) (fun _ _ => trivial) (fun hc => absurd hc (by decide))
              · refine opR_mk rfl fun aa W2 hB hp hq K hK => ?_
                have e31 : aa.tmps[31]?.getD undef = .bool true := hq 6 _ (by kernel_rfl) rfl
                clear hp hq
                go_simp
                exact hK _ _ (RelB.refl _) rfl
              · refine opR_mk rfl fun aa W2 hB hp hq K hK => ?_
                have e25 : aa.tmps[25]?.getD undef = .slice (some ⟨g, 0, none⟩) n n := hq 0 _ (by kernel_rfl) rfl
                have e26 : aa.tmps[26]?.getD undef = .int .i64 (k : Int) := hq 1 _ (by kernel_rfl) rfl
                clear hp hq
                go_simp
                exact hK _ _ (RelB.refl _) rfl
            · intro oN hoN aa W2 hB hp hq K hK
              obtain rfl := Option.some.inj hoN
              have e42 : aa.tmps[42]?.getD undef = .pointer (some ⟨g, k, none⟩) := hq 17 _ (by decide) rfl
              have e41 : aa.tmps[41]?.getD undef = .bool (true) := hq 16 _ (by decide) rfl
              have cb := (HI1.out.1.below hB).cell hk2
              have fb := (HI1.out.1.below hB).frozen (k := k)
              obtain ⟨hs1, hs2⟩ := (HI1.out.1.below hB).set (k := k) (true)
              have HS1 := Lib.hid hs1
              have HS2 := Lib.hid hs2
              clear hp hq hs1 hs2
              go_simp
              exact hK _ ⟨BoolsAt.congr HS1.out (fun j _ => HST.out (true) (by simp) j), (ptrans HI1.out.2 hB).grown HS2.out (ptrans HI1.out.2 hB).size (fun q hq => by injection hq with hq; have := HG.out; omega)⟩
            · intro vs W3 hF hv
              have v16 : vs 16 = .bool (true) := (hv 16 (by decide)).elim fun _ h => h
              have HF3 := Lib.hid hF
              clear hF hv
              simp only [List.take_succ_cons, List.take_zero, putAll, Act.put, List.setIfInBounds_toArray, List.set_cons_succ, List.set_cons_zero, Nat.zero_add, Nat.reduceAdd, v16]
              go_wp2
              go_roundw
              case rel => exact ⟨i + 1, rfl, hi2, HF3⟩
              case measure => simp only [intOf]; omega
end Go.Proofs.YtehckjkihaalfaaGreat
