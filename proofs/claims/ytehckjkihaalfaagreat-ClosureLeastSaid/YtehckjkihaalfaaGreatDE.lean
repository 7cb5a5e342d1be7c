/- ClosureLeast, walked. -/
import Derived.Test.YtehckjkihaalfaaGreatDD
namespace Go.Proofs.YtehckjkihaalfaaGreat
open Go.RowKit Go.Maps

/-- The places as numbers. -/
def numsL (l : List Nat) : List Int := l.map fun (n : Nat) => (n : Int)
theorem nums_count {ps : List Nat} {k : Nat} : (numsL ps).count (k : Int) = 0 ↔ k ∉ ps := by
  rw [List.count_eq_zero]
  unfold numsL
  simp only [List.mem_map, not_exists, not_and]
  constructor
  · intro h hk
    exact h k hk rfl
  · intro h x hx e
    have : x = k := by omega
    subst this
    exact h hx
theorem nums_i64 {l : List R} {inos : List Int} (hl : l.length ≤ 60000) : ∀ x ∈ numsL (placesL l inos), I64 x := fun x hx => by
  unfold numsL at hx
  obtain ⟨k, hk, rfl⟩ := List.mem_map.1 hx
  have := (mem_places.1 hk).lt
  exact ⟨by omega, by omega⟩
theorem places_closed (l : List R) (inos : List Int) : closedB l (numsL (placesL l inos)) = true := by
  unfold closedB
  rw [Bool.not_eq_true', List.any_eq_false]
  intro x hx
  unfold numsL at hx
  obtain ⟨k, hk, rfl⟩ := List.mem_map.1 hx
  have hC := mem_places.1 hk
  rw [Bool.not_eq_true, lacksAny, List.any_eq_false]
  intro v hv
  unfold natV at hv
  obtain ⟨j, hj, rfl⟩ := List.mem_map.1 hv
  rw [onZ_nat l k hC.lt] at hj
  unfold lackP
  simp only [beq_iff_eq]
  rw [nums_count]
  exact fun h => h (mem_places.2 (.on hC hj))
/-- What the inner loop has found, up to a place. -/
def NeedP (l : List R) (inos : List Int) (k m : Nat) (nd : Bool) : Prop :=
  (nd = true → InC l inos k) ∧ (nd = false → writesB (rAt l k) inos = false ∧ ∀ j, k < j → j < m → InC l inos j → meetB (rAt l k) (rAt l j) = false)
theorem NeedP.start {l : List R} {inos : List Int} {k : Nat} (hk : k < l.length) : NeedP l inos k (k + 1) (writesB (rAt l k) inos) :=
  ⟨fun h => .own hk h, fun h => ⟨h, fun j h1 h2 => by omega⟩⟩
theorem NeedP.step {l : List R} {inos : List Int} {k m : Nat} {nd : Bool} (h : NeedP l inos k m false) (hkm : k < m) (hm : m < l.length) (hd : nd = (inB l inos l.length m && meetB (rAt l k) (rAt l m))) : NeedP l inos k (m + 1) nd := by
  subst hd
  refine ⟨fun h1 => ?_, fun h1 => ⟨(h.2 rfl).1, fun j h2 h3 h4 => ?_⟩⟩
  · rw [Bool.and_eq_true] at h1
    exact .on ((inB_iff hm).1 h1.1) (onL_mem.2 ⟨hkm, h1.2⟩)
  · by_cases e : j = m
    · subst e
      rw [(inB_iff hm).2 h4, Bool.true_and] at h1
      exact h1
    · exact (h.2 rfl).2 j h2 (by omega) h4
theorem NeedP.over {l : List R} {inos : List Int} {k m : Nat} {nd : Bool} (h : NeedP l inos k m nd) (hk : k < l.length) (he : nd = true ∨ m = l.length) : nd = inB l inos l.length k := by
  cases hnd : nd
  · obtain ⟨h1, h2⟩ := h.2 hnd
    have hm : m = l.length := he.elim (fun e => by rw [hnd] at e; cases e) id
    symm
    rw [Bool.eq_false_iff]
    intro hB
    have hC := (inB_iff hk).1 hB
    cases hC with
    | own _ hw => rw [h1] at hw; cases hw
    | @on m' _ hm' hk' =>
      obtain ⟨h3, h4⟩ := onL_mem.1 hk'
      have := h2 m' h3 (by rw [hm]; exact hm'.lt) hm'
      rw [h4] at this
      cases this
  · exact ((inB_iff hk).2 (h.1 hnd)).symm
theorem rise_at {ps : List Nat} (h : ps.Pairwise (· < ·)) {i a b : Nat} (ha : ps[i]? = some a) (hb : ps[i + 1]? = some b) : a < b := by
  obtain ⟨h1, rfl⟩ := List.getElem?_eq_some_iff.1 ha
  obtain ⟨h2, rfl⟩ := List.getElem?_eq_some_iff.1 hb
  exact List.pairwise_iff_getElem.1 h i (i + 1) h1 h2 (by omega)
theorem cnt_places {l : List R} {inos : List Int} {k : Nat} (hk : k < l.length) : inB l inos l.length k = decide (0 < (numsL (placesL l inos)).count (k : Int)) := by
  rw [Bool.eq_iff_iff, inB_iff hk, decide_eq_true_eq, ← mem_places]
  constructor
  · intro h
    exact Nat.pos_of_ne_zero (fun e => nums_count.1 e h)
  · intro h
    exact Decidable.byContradiction fun e => by have := nums_count.2 e; omega
/-- The places counted, so far. -/
def Cnt3 (w : World) (ps : List Nat) (M : Nat) (A : Option Addr) (np c base : Nat) (wr : World) (i : Nat) : Prop :=
  MapAt wr Tryz.prog 3 M i (cntI (numsL (ps.take i))) ∧ wr.ownsRow base 3 1 (.slice A np c) np (natV ps) ∧ Below w.heap.size w wr
theorem Cnt3.below {w W W' : World} {ps : List Nat} {M : Nat} {A : Option Addr} {np c base i : Nat} (h : Cnt3 w ps M A np c base W i) (hb : Below W.heap.size W W') : Cnt3 w ps M A np c base W' i := ⟨h.1.below hb, row_below h.2.1 hb, ptrans h.2.2 hb⟩
theorem Cnt3.turn {w W : World} {ps : List Nat} {M : Nat} {A : Option Addr} {np c base i x : Nat} (h : Cnt3 w ps M A np c base W i) (hx : ps[i]? = some x) (hi : i < 60000 ∧ x < 60000) (hM : w.heap.size ≤ M) (hA : ∀ g, A = some ⟨g, 0, none⟩ → g ≠ M) :
    ∃ W1, (Instr.lookup 74 (.map (some M)) (.int .i64 (x : Int)) false).run Tryz.prog W = .ok (.int .i64 (((numsL (ps.take i)).count (x : Int) : Nat) : Int)) W ∧ (Instr.mapUpdate 74 (.map (some M)) (.int .i64 (x : Int)) (.int .i64 ((((numsL (ps.take i)).count (x : Int) : Nat) : Int) + 1))).run Tryz.prog W = .ok () W1 ∧
      (numsL (ps.take i)).count (x : Int) ≤ 60000 ∧ Cnt3 w ps M A np c base W1 (i + 1) := by
  obtain ⟨hM1, hrow, hb⟩ := h
  have hxI : I64 (x : Int) := ⟨by omega, by omega⟩
  obtain ⟨W1, hup, hM2, ht⟩ := cntI_turn hM1 hxI (by omega)
  have hgr := ht.grown
  refine ⟨W1, cntI_look hM1 hxI, hup, Nat.le_trans List.count_le_length (by unfold numsL; rw [List.length_map, List.length_take]; omega), ?_, hrow.kept hgr ?_, hb.grown hgr hb.size (fun q hq => by injection hq with hq; omega)⟩
  · unfold numsL at hM2 ⊢
    rw [List.take_add_one, hx]
    simpa using hM2
  · cases hv : (Value.slice A np c).ownBlock with
    | none => exact .inl rfl
    | some q =>
      refine .inr fun e => ?_
      have e2 := Option.some.inj e
      obtain ⟨g, hg⟩ : ∃ g, A = some ⟨g, 0, none⟩ := by
        rcases hrow.2 with ⟨h1, _⟩ | ⟨g, _, _, h1, _⟩
        · rw [h1] at hv; cases hv
        · injection h1 with h1
          exact ⟨g, h1⟩
      subst hg
      have : q = g := (Option.some.inj hv).symm
      exact hA g rfl (by omega)
set_option maxRecDepth 100000 in
set_option maxHeartbeats 8000000 in
theorem t_closureLeast (A : Option Addr) (c n : Nat) (l : List R) (Ai : Option Addr) (ni ci : Nat) (inos : List Int) (w : World) (hl : RecsAt w A l) (hn : l.length = n) (hnc : n ≤ c) (hnm : n ≤ maxLen) (hi : InosAt w Ai inos) (hni : inos.length = ni) (hni2 : ni ≤ maxLen) :
    Calls Tryz.prog 8 #[.slice A n c, .slice Ai ni ci] w fun e w' => e = .returned (.bool true) ∧ Below w.heap.size w w' := by
  have HL := Lib.hid hl
  have HN := Lib.hid hn
  have HI := Lib.hid hi
  have HNI := Lib.hid hni
  have HLG := Lib.hid (t_long25 A c n l w hl hn hnc hnm)
  have hmm := @run_makeMap Tryz.prog
  clear hl hn hi hni
  by_cases h20 : 20 < ni
  · clear hmm
    go_enter Tryz.func8, Tryz.ntmps8
    go_wp2_with (first
      | (go_at_call 36; (with_reducible refine HLG.out.mono ?_); rintro e w1 ⟨b, rfl, h1, h2⟩; have H1 := Lib.hid h2; clear h1 h2; cases b)
      | (go_at_call 37; (with_reducible refine (t_alive25 _).mono ?_); rintro e w9 ⟨rfl, hb⟩; have HB9 := Lib.hid hb; clear hb))
    all_goals
      go_ret
      exact ⟨rfl, ptrans H1.out HB9.out⟩
  · obtain ⟨ps, hps⟩ : ∃ ps, placesL l inos = ps := ⟨_, rfl⟩
    obtain ⟨np, hnp⟩ : ∃ np, ps.length = np := ⟨_, rfl⟩
    have hnpn : np ≤ n := by have := places_len l inos; rw [hps, hnp, HN.out] at this; exact this
    have HPS := Lib.hid hps
    have HNP := Lib.hid hnp
    clear hps hnp
    go_enter Tryz.func8, Tryz.ntmps8
    go_wp2_with (first
      | (go_at_call 36; (with_reducible refine HLG.out.mono ?_); rintro e w1 ⟨b, rfl, h1, h2⟩; have H1 := Lib.hid h2; have H60 := Lib.hid h1; clear h1 h2; cases b)
      | (go_at_call 37; (with_reducible refine (t_alive25 _).mono ?_); rintro e w9 ⟨rfl, hb⟩; have HB9 := Lib.hid hb; clear hb)
      | (go_at_call 39; have h60 : n ≤ 60 := (by have h := H60.out; first | exact h rfl | exact h trivial); (with_reducible refine (t_places A c n l Ai ni ci inos w1 (HL.out.below H1.out) HN.out (by omega) hnc (HI.out.below H1.out) HNI.out (by omega)).mono ?_); rintro e w2 ⟨v2, rfl, h1, h2⟩; rw [HPS.out, HNP.out] at h1; obtain ⟨A2, c2, rfl⟩ := row_slice h1; have HI2 := Lib.hid (ints_of_row h1 (show _ = numsL ps from rfl)); have HR2 := Lib.hid h1; have H2 := Lib.hid (ptrans H1.out h2); have HS12 := Lib.hid h2.size; clear h1 h2)
      | (go_at_call 46; (with_reducible refine (t_closed A c n l A2 np c2 (numsL ps) w2 (HL.out.below H2.out) HN.out (by omega) hnc HI2.out (by unfold numsL; rw [List.length_map]; exact HNP.out) (by omega) (by rw [← HPS.out]; exact nums_i64 (by rw [HN.out]; omega))).mono ?_); rintro e w3 ⟨rfl, h2⟩; rw [show closedB l (numsL ps) = true by rw [← HPS.out]; exact places_closed l inos]; have H3 := Lib.hid (And.intro (row_below HR2.out h2) (ptrans H2.out h2)); have HB13 := Lib.hid (Nat.le_trans HS12.out h2.size); clear h2))
    · obtain ⟨b2, hb2⟩ : ∃ b, w1.heap.size = b := ⟨_, rfl⟩
      obtain ⟨M, hM⟩ : ∃ M, w3.heap.size = M := ⟨_, rfl⟩
      have HMB : Hid (w1.heap.size ≤ w3.heap.size) := HB13
      have HGM : Hid (∀ g, A2 = some ⟨g, 0, none⟩ → g < M) := fun g hg => by
        subst hg
        rw [← hM]
        exact (H3.out.1.lt g rfl).2
      have hst : Hid (Cnt3 w ps M A2 np c2 b2 (w3.alloc (.map #[] 0)) 0) := by
        have h3 := H3.out
        rw [hb2] at h3
        refine ⟨?_, h3.1.alloc _, h3.2.alloc h3.2.size _⟩
        rw [← hM]
        refine MapAt.congr ?_ (m := fun _ => none) fun kl _ => by cases kl with | int q a => cases q <;> rfl | _ => rfl
        exact MapAt.made w3 Tryz.prog 3
      rw [hM]
      have HWM : Hid (w.heap.size ≤ M ∧ b2 ≤ M) := by
        refine ⟨by rw [← hM]; exact H3.out.2.size, ?_⟩
        rw [← hM, ← hb2]
        have h4 := H3.out.2.size
        have h5 := H2.out.size
        exact HMB.out
      clear hM hb2 H1 H60 H3 HR2 HI2 H2
      go_loopw [7] (fun x wr => ∃ i : Nat, x = .int .i64 (i : Int) ∧ i ≤ np ∧ Hid (Cnt3 w ps M A2 np c2 b2 wr i)) (fun x _ => np - (intOf x).toNat)
      case atStart => exact ⟨0, rfl, Nat.zero_le _, hst⟩
      case round =>
        obtain ⟨i, rfl, hi, HC⟩ := hrel
        by_cases he : i = np
        · have hst2 : Hid (MapAt wr Tryz.prog 3 M np (cntI (numsL ps)) ∧ Below w.heap.size w wr) := by
            obtain ⟨h1, h2, h3⟩ := HC.out
            rw [he, List.take_of_length_le (by rw [HNP.out]; exact Nat.le_refl _)] at h1
            exact ⟨h1, h3⟩
          have he' : np = i := he.symm
          clear he hst HC
          subst he'
          go_wp2
          go_loopw [8] (fun x wr => ∃ k : Nat, x = .int .i64 (k : Int) ∧ k ≤ n ∧ Hid (MapAt wr Tryz.prog 3 M np (cntI (numsL ps)) ∧ Below w.heap.size w wr)) (fun x _ => n - (intOf x).toNat)
          case atStart => exact ⟨0, rfl, Nat.zero_le _, hst2⟩
          case round =>
            obtain ⟨k, rfl, hk, HK⟩ := hrel
            clear hst2
            by_cases hkn : k = n
            · have hk' : n = k := hkn.symm
              clear hkn
              subst hk'
              go_wp2_with (go_at_call 37; (with_reducible refine (t_alive25 _).mono ?_); rintro e w9 ⟨rfl, hb⟩; have HB9 := Lib.hid hb; clear hb)
              go_ret
              exact ⟨rfl, ptrans HK.out.2 HB9.out⟩
            · have hk2 : k < n := by omega
              obtain ⟨x, hx⟩ : ∃ x, l[k]? = some x := ⟨l[k]'(by rw [HN.out]; omega), List.getElem?_eq_getElem _⟩
              obtain ⟨b, o, rfl, hbl, hc⟩ := (HL.out.below HK.out.2).at_ (fun e => by rw [e] at hx; simp at hx)
              have c0 : wr.cell? ⟨b, o + k * 12, none⟩ = some (.int .u64 x.stamp) := hc k x hx 0 _ rfl
              have c1 := hc k x hx 1 _ rfl
              have c2 := hc k x hx 2 _ rfl
              have c3 := hc k x hx 3 _ rfl
              have c4 := hc k x hx 4 _ rfl
              have c5 := hc k x hx 5 _ rfl
              have c6 := hc k x hx 6 _ rfl
              have c7 := hc k x hx 7 _ rfl
              have c8 := hc k x hx 8 _ rfl
              have c9 := hc k x hx 9 _ rfl
              have c10 := hc k x hx 10 _ rfl
              have c11 := hc k x hx 11 _ rfl
              have HX := Lib.hid hx
              have HXV := Lib.hid (rAt_get hx)
              have hxo := HL.out.ok x (List.mem_of_getElem? hx)
              have hwr := fun W (hb : Below w.heap.size w W) => t_lwrites x hxo Ai ni ci inos W (HI.out.below hb) HNI.out (by omega)
              unfold R.val at hwr
              have HWR := Lib.hid hwr
              have HXO := Lib.hid hxo
              obtain ⟨ow, how⟩ : ∃ q, writesB x inos = q := ⟨_, rfl⟩
              have HOW := Lib.hid how
              clear hc hx hbl hwr hxo how
              have hckI := cnt_places (l := l) (inos := inos) (k := k) (by rw [HN.out]; exact hk2)
              obtain ⟨ck, hck⟩ : ∃ cc, (numsL ps).count (k : Int) = cc := ⟨_, rfl⟩
              rw [HPS.out, hck] at hckI
              have HCK := Lib.hid hck
              have HCI := Lib.hid hckI
              clear hck hckI
              have hnd0 : NeedP l inos k (k + 1) ow := by
                have h := NeedP.start (l := l) (inos := inos) (k := k) (by rw [HN.out]; exact hk2)
                rw [HXV.out, HOW.out] at h
                exact h
              have HND := Lib.hid hnd0
              clear hnd0
              cases ow
              all_goals
                try have hck1 : 0 < ck := (by have h1 := (inB_iff (by rw [HN.out]; exact hk2)).2 (HND.out.1 rfl); rw [HCI.out] at h1; simpa using h1)
                try have hck2 : ((ck : Int) == 0) = false := (by simp; omega)
                go_wp2_with (go_at_call 48; (with_reducible refine (HWR.out wr HK.out.2).mono ?_); rintro e w4 ⟨rfl, hb⟩; rw [HOW.out]; have HK4 := Lib.hid (And.intro (HK.out.1.below hb) (ptrans HK.out.2 hb)); clear hb; have hlk4 := cntI_look HK4.out.1 (k := (k : Int)) ⟨by omega, by omega⟩; rw [HCK.out] at hlk4)
                clear c0 c1 c2 c3 c4 c5 c6 c7 c8 c9 c10 c11 hlk4
                try clear hck1
                try clear hck2
                clear HK
                go_loopw [10, 11] (fun x y wr => ∃ (m : Nat) (nd : Bool), x = .bool nd ∧ y = .int .i64 (m : Int) ∧ k < m ∧ m ≤ n ∧ Hid (NeedP l inos k m nd ∧ MapAt wr Tryz.prog 3 M np (cntI (numsL ps)) ∧ Below w.heap.size w wr)) (fun _ y _ => n - (intOf y).toNat)
                case atStart => exact ⟨k + 1, _, rfl, rfl, by omega, by omega, HND.out, HK4.out⟩
                case round =>
                  obtain ⟨m, nd, rfl, rfl, hkm, hm, HM⟩ := hrel
                  by_cases hex : nd = true ∨ m = n
                  · have hlk5 := cntI_look HM.out.2.1 (k := (k : Int)) ⟨by omega, by omega⟩
                    rw [HCK.out] at hlk5
                    have hnd := HM.out.1.over (by rw [HN.out]; exact hk2) (by rw [HN.out]; exact hex)
                    rw [HCI.out] at hnd
                    have HMB2 := Lib.hid HM.out.2
                    have hq : (decide (0 < ck) == nd) = true := by rw [← hnd]; simp
                    clear hnd HM
                    cases nd
                    · have hz : ck = 0 := by simpa using hq
                      have hmn' : n = m := (hex.elim (fun e => by cases e) id).symm
                      clear hex hq
                      subst hz
                      subst hmn'
                      go_wp2
                      go_roundw
                      case rel => exact ⟨k + 1, rfl, hk2, HMB2⟩
                      case measure => simp only [intOf]; omega
                    · have hz : 0 < ck := by simpa using hq
                      clear hex hq
                      by_cases hmn : m = n
                      · have hmn' : n = m := hmn.symm
                        clear hmn
                        subst hmn'
                        go_wp2
                        go_roundw
                        case rel => exact ⟨k + 1, rfl, hk2, HMB2⟩
                        case measure => simp only [intOf]; omega
                      · have hmn2 : m < n := by omega
                        clear hmn
                        go_wp2
                        go_roundw
                        case rel => exact ⟨k + 1, rfl, hk2, HMB2⟩
                        case measure => simp only [intOf]; omega
                  · have hm2 : m + 1 ≤ n := by omega
                    have hnf : nd = false := by simpa using fun h => hex (.inl h)
                    subst hnf
                    obtain ⟨y, hy⟩ : ∃ y, l[m]? = some y := ⟨l[m]'(by rw [HN.out]; omega), List.getElem?_eq_getElem _⟩
                    obtain ⟨b', o', hbo, hbl, hc⟩ := (HL.out.below HM.out.2.2).at_ (fun e => by rw [e] at hy; simp at hy)
                    injection hbo with hbo
                    injection hbo with hb1 hb2
                    subst hb1
                    subst hb2
                    have HBB := Lib.hid hbl
                    have HCC := Lib.hid hc
                    have HX1 := Lib.hid HX.out
                    have HY1 := Lib.hid hy
                    have HYO := Lib.hid (HL.out.ok y (List.mem_of_getElem? hy))
                    have hcm := cnt_places (l := l) (inos := inos) (k := m) (by rw [HN.out]; omega)
                    obtain ⟨cm, hcm2⟩ : ∃ cc, (numsL ps).count (m : Int) = cc := ⟨_, rfl⟩
                    rw [HPS.out, hcm2] at hcm
                    have HCM := Lib.hid hcm2
                    have hstep := fun nd hd => HM.out.1.step (nd := nd) hkm (by rw [HN.out]; omega) hd
                    rw [hcm, rAt_get HX.out, rAt_get hy] at hstep
                    clear hbl hc hy hcm2 hcm
                    by_cases hcp : 0 < cm
                    · have HNS := Lib.hid (hstep (meetB x y) (by simp [hcp]))
                      clear hstep
                      go_wp2
                      refine wp_region_rel RelB (phi [isV (.map (some M)), isV (.int .i64 (m : Int)), isV (.int .i64 (cm : Int)), isV (.bool true), isV (.bool true), isV (.slice (some ⟨b, o, none⟩) n c), isV (.int .i64 (k : Int)), isV (.pointer (some ⟨b, o + k * 12, none⟩)), isV (.agg #[.int .u64 x.stamp, .int .u8 x.act, .int .u32 x.dir, .string x.name, .int .u32 x.ino, .int .u8 x.kind, .int .u32 x.dir2, .string x.name2, .int .u32 x.old, .int .u32 x.size, .int .i64 x.page, .string x.data]), isV (.slice (some ⟨b, o, none⟩) n c), isV (.int .i64 (m : Int)), isV (.pointer (some ⟨b, o + m * 12, none⟩)), isV (.agg #[.int .u64 y.stamp, .int .u8 y.act, .int .u32 y.dir, .string y.name, .int .u32 y.ino, .int .u8 y.kind, .int .u32 y.dir2, .string y.name2, .int .u32 y.old, .int .u32 y.size, .int .i64 y.page, .string y.data]), isV (.bool (meetB x y)), isV (.bool (meetB x y)), isV (.bool (meetB x y))]) (by kernel_rfl) (by kernel_rfl) (by kernel_rfl) (RelB.of (below_drew _)) (fun _ _ _ a b => a.trans b) ?_ ?_ ?_
                      · refine stays_phiR ?_
                        simp only [List.forall_mem_cons]
                        exact ⟨fun _ _ _ h _ => h, fun _ _ _ h _ => h, fun _ _ _ h _ => h, fun _ _ _ h _ => h, fun _ _ _ h _ => h, fun _ _ _ h _ => h, fun _ _ _ h _ => h, fun _ _ _ h _ => h, fun _ _ _ h _ => h, fun _ _ _ h _ => h, fun _ _ _ h _ => h, fun _ _ _ h _ => h, fun _ _ _ h _ => h, fun _ _ _ h _ => h, fun _ _ _ h _ => h, fun _ _ _ h _ => h, fun _ h => absurd h (by simp)⟩
                      · refine ⟨?_, ?_, ?_, ?_, ?_, ?_, ?_, ?_, ?_, ?_, ?_, ?_, ?_, ?_, ?_, ?_, trivial⟩
                        · refine opR_mk rfl fun a W2 hB hp hq K hK => ?_
                          have e6 : a.tmps[6]?.getD undef = .map (some M) := hp 6 (by kernel_rfl)
                          clear hp hq
                          go_simp
                          exact hK _ _ (RelB.refl _) rfl
                        · refine opR_mk rfl fun a W2 hB hp hq K hK => ?_
                          have e11 : a.tmps[11]?.getD undef = .int .i64 (m : Int) := hp 11 (by kernel_rfl)
                          clear hp hq
                          go_simp
                          exact hK _ _ (RelB.refl _) rfl
                        · refine opR_mk rfl fun a W2 hB hp hq K hK => ?_
                          have e103 : a.tmps[103]?.getD undef = .map (some M) := hq 0 _ (by kernel_rfl) rfl
                          have e104 : a.tmps[104]?.getD undef = .int .i64 (m : Int) := hq 1 _ (by kernel_rfl) rfl
                          have hlk := cntI_look (HM.out.2.1.below hB) (k := (m : Int)) ⟨by omega, by omega⟩
                          rw [HCM.out] at hlk
                          clear hp hq
                          go_simp
                          exact hK _ _ (RelB.refl _) rfl
                        · refine opR_mk rfl fun a W2 hB hp hq K hK => ?_
                          have e105 : a.tmps[105]?.getD undef = .int .i64 (cm : Int) := hq 2 _ (by kernel_rfl) rfl
                          clear hp hq
                          go_simp
                          exact hK _ _ (RelB.refl _) rfl
                        · refine opR_mk rfl fun a W2 hB hp hq K hK => ?_
                          have e106 : a.tmps[106]?.getD undef = .bool true := hq 3 _ (by kernel_rfl) rfl
                          clear hp hq
                          go_simp
                          exact hK _ _ (RelB.refl _) rfl
                        · refine opR_guard (j := 4) (d := 107) (c := true) rfl rfl (by kernel_rfl) rfl rfl (fun v W h => h) (fun _ => RelB.refl _) (fun hne => absurd rfl hne) fun hc a W2 hB hp hq K hK => ?_
                          have e0 : a.tmps[0]?.getD undef = .slice (some ⟨b, o, none⟩) n c := hp 0 (by kernel_rfl)
                          clear hp hq
                          go_simp
                          exact hK _ _ (RelB.refl _) rfl
                        · refine opR_guard (j := 4) (d := 107) (c := true) rfl rfl (by kernel_rfl) rfl rfl (fun v W h => h) (fun _ => RelB.refl _) (fun hne => absurd rfl hne) fun hc a W2 hB hp hq K hK => ?_
                          have e8 : a.tmps[8]?.getD undef = .int .i64 (k : Int) := hp 8 (by kernel_rfl)
                          clear hp hq
                          go_simp
                          exact hK _ _ (RelB.refl _) rfl
                        · refine opR_guard (j := 4) (d := 107) (c := true) rfl rfl (by kernel_rfl) rfl rfl (fun v W h => h) (fun _ => RelB.refl _) (fun hne => absurd rfl hne) fun hc a W2 hB hp hq K hK => ?_
                          have e108 : a.tmps[108]?.getD undef = .slice (some ⟨b, o, none⟩) n c := hq 5 _ (by kernel_rfl) rfl
                          have e109 : a.tmps[109]?.getD undef = .int .i64 (k : Int) := hq 6 _ (by kernel_rfl) rfl
                          clear hp hq
                          go_simp
                          exact hK _ _ (RelB.refl _) rfl
                        · refine opR_guard (j := 4) (d := 107) (c := true) rfl rfl (by kernel_rfl) rfl rfl (fun v W h => h) (fun _ => RelB.refl _) (fun hne => absurd rfl hne) fun hc a W2 hB hp hq K hK => ?_
                          have e110 : a.tmps[110]?.getD undef = .pointer (some ⟨b, o + k * 12, none⟩) := hq 7 _ (by kernel_rfl) rfl
                          have c0 : W2.cell? ⟨b, o + k * 12, none⟩ = some (.int .u64 x.stamp) := (World.cell?_of_block (a := ⟨b, _, none⟩) (Below.block hB b HBB.out)).trans (HCC.out k x HX1.out 0 _ rfl)
                          have c1 := (World.cell?_of_block (a := ⟨b, _, none⟩) (Below.block hB b HBB.out)).trans (HCC.out k x HX1.out 1 _ rfl)
                          have c2 := (World.cell?_of_block (a := ⟨b, _, none⟩) (Below.block hB b HBB.out)).trans (HCC.out k x HX1.out 2 _ rfl)
                          have c3 := (World.cell?_of_block (a := ⟨b, _, none⟩) (Below.block hB b HBB.out)).trans (HCC.out k x HX1.out 3 _ rfl)
                          have c4 := (World.cell?_of_block (a := ⟨b, _, none⟩) (Below.block hB b HBB.out)).trans (HCC.out k x HX1.out 4 _ rfl)
                          have c5 := (World.cell?_of_block (a := ⟨b, _, none⟩) (Below.block hB b HBB.out)).trans (HCC.out k x HX1.out 5 _ rfl)
                          have c6 := (World.cell?_of_block (a := ⟨b, _, none⟩) (Below.block hB b HBB.out)).trans (HCC.out k x HX1.out 6 _ rfl)
                          have c7 := (World.cell?_of_block (a := ⟨b, _, none⟩) (Below.block hB b HBB.out)).trans (HCC.out k x HX1.out 7 _ rfl)
                          have c8 := (World.cell?_of_block (a := ⟨b, _, none⟩) (Below.block hB b HBB.out)).trans (HCC.out k x HX1.out 8 _ rfl)
                          have c9 := (World.cell?_of_block (a := ⟨b, _, none⟩) (Below.block hB b HBB.out)).trans (HCC.out k x HX1.out 9 _ rfl)
                          have c10 := (World.cell?_of_block (a := ⟨b, _, none⟩) (Below.block hB b HBB.out)).trans (HCC.out k x HX1.out 10 _ rfl)
                          have c11 := (World.cell?_of_block (a := ⟨b, _, none⟩) (Below.block hB b HBB.out)).trans (HCC.out k x HX1.out 11 _ rfl)
                          clear hp hq
                          go_simp
                          exact hK _ _ (RelB.refl _) rfl
                        · refine opR_guard (j := 4) (d := 107) (c := true) rfl rfl (by kernel_rfl) rfl rfl (fun v W h => h) (fun _ => RelB.refl _) (fun hne => absurd rfl hne) fun hc a W2 hB hp hq K hK => ?_
                          have e0 : a.tmps[0]?.getD undef = .slice (some ⟨b, o, none⟩) n c := hp 0 (by kernel_rfl)
                          clear hp hq
                          go_simp
                          exact hK _ _ (RelB.refl _) rfl
                        · refine opR_guard (j := 4) (d := 107) (c := true) rfl rfl (by kernel_rfl) rfl rfl (fun v W h => h) (fun _ => RelB.refl _) (fun hne => absurd rfl hne) fun hc a W2 hB hp hq K hK => ?_
                          have e11 : a.tmps[11]?.getD undef = .int .i64 (m : Int) := hp 11 (by kernel_rfl)
                          clear hp hq
                          go_simp
                          exact hK _ _ (RelB.refl _) rfl
                        · refine opR_guard (j := 4) (d := 107) (c := true) rfl rfl (by kernel_rfl) rfl rfl (fun v W h => h) (fun _ => RelB.refl _) (fun hne => absurd rfl hne) fun hc a W2 hB hp hq K hK => ?_
                          have e112 : a.tmps[112]?.getD undef = .slice (some ⟨b, o, none⟩) n c := hq 9 _ (by kernel_rfl) rfl
                          have e113 : a.tmps[113]?.getD undef = .int .i64 (m : Int) := hq 10 _ (by kernel_rfl) rfl
                          clear hp hq
                          go_simp
                          exact hK _ _ (RelB.refl _) rfl
                        · refine opR_guard (j := 4) (d := 107) (c := true) rfl rfl (by kernel_rfl) rfl rfl (fun v W h => h) (fun _ => RelB.refl _) (fun hne => absurd rfl hne) fun hc a W2 hB hp hq K hK => ?_
                          have e114 : a.tmps[114]?.getD undef = .pointer (some ⟨b, o + m * 12, none⟩) := hq 11 _ (by kernel_rfl) rfl
                          have d0 : W2.cell? ⟨b, o + m * 12, none⟩ = some (.int .u64 y.stamp) := (World.cell?_of_block (a := ⟨b, _, none⟩) (Below.block hB b HBB.out)).trans (HCC.out m y HY1.out 0 _ rfl)
                          have d1 := (World.cell?_of_block (a := ⟨b, _, none⟩) (Below.block hB b HBB.out)).trans (HCC.out m y HY1.out 1 _ rfl)
                          have d2 := (World.cell?_of_block (a := ⟨b, _, none⟩) (Below.block hB b HBB.out)).trans (HCC.out m y HY1.out 2 _ rfl)
                          have d3 := (World.cell?_of_block (a := ⟨b, _, none⟩) (Below.block hB b HBB.out)).trans (HCC.out m y HY1.out 3 _ rfl)
                          have d4 := (World.cell?_of_block (a := ⟨b, _, none⟩) (Below.block hB b HBB.out)).trans (HCC.out m y HY1.out 4 _ rfl)
                          have d5 := (World.cell?_of_block (a := ⟨b, _, none⟩) (Below.block hB b HBB.out)).trans (HCC.out m y HY1.out 5 _ rfl)
                          have d6 := (World.cell?_of_block (a := ⟨b, _, none⟩) (Below.block hB b HBB.out)).trans (HCC.out m y HY1.out 6 _ rfl)
                          have d7 := (World.cell?_of_block (a := ⟨b, _, none⟩) (Below.block hB b HBB.out)).trans (HCC.out m y HY1.out 7 _ rfl)
                          have d8 := (World.cell?_of_block (a := ⟨b, _, none⟩) (Below.block hB b HBB.out)).trans (HCC.out m y HY1.out 8 _ rfl)
                          have d9 := (World.cell?_of_block (a := ⟨b, _, none⟩) (Below.block hB b HBB.out)).trans (HCC.out m y HY1.out 9 _ rfl)
                          have d10 := (World.cell?_of_block (a := ⟨b, _, none⟩) (Below.block hB b HBB.out)).trans (HCC.out m y HY1.out 10 _ rfl)
                          have d11 := (World.cell?_of_block (a := ⟨b, _, none⟩) (Below.block hB b HBB.out)).trans (HCC.out m y HY1.out 11 _ rfl)
                          clear hp hq
                          go_simp
                          exact hK _ _ (RelB.refl _) rfl
                        · refine opR_guard (j := 4) (d := 107) (c := true) rfl rfl (by kernel_rfl) rfl rfl (fun v W h => h) (fun _ => RelB.refl _) (fun hne => absurd rfl hne) fun hc a W2 hB hp hq K hK => ?_
                          have e111 : a.tmps[111]?.getD undef = .agg #[.int .u64 x.stamp, .int .u8 x.act, .int .u32 x.dir, .string x.name, .int .u32 x.ino, .int .u8 x.kind, .int .u32 x.dir2, .string x.name2, .int .u32 x.old, .int .u32 x.size, .int .i64 x.page, .string x.data] := hq 8 _ (by kernel_rfl) rfl
                          have e115 : a.tmps[115]?.getD undef = .agg #[.int .u64 y.stamp, .int .u8 y.act, .int .u32 y.dir, .string y.name, .int .u32 y.ino, .int .u8 y.kind, .int .u32 y.dir2, .string y.name2, .int .u32 y.old, .int .u32 y.size, .int .i64 y.page, .string y.data] := hq 12 _ (by kernel_rfl) rfl
                          clear hp hq
                          go_simp
                          refine (meetR W2 HXO.out HYO.out).mono ?_
                          rintro e w2 ⟨rfl, hb2⟩
                          exact hK _ _ (RelB.of hb2) rfl
                        · refine opR_mk rfl fun a W2 hB hp hq K hK => ?_
                          have e107 : a.tmps[107]?.getD undef = .bool true := hq 4 _ (by kernel_rfl) rfl
                          have e116 : a.tmps[116]?.getD undef = .bool (meetB x y) := hq 13 _ (by kernel_rfl) rfl
                          clear hp hq
                          go_simp
                          exact hK _ _ (RelB.refl _) rfl
                        · refine opR_mk rfl fun a W2 hB hp hq K hK => ?_
                          have e117 : a.tmps[117]?.getD undef = .bool (meetB x y) := hq 14 _ (by kernel_rfl) rfl
                          clear hp hq
                          go_simp
                          exact hK _ _ (RelB.refl _) rfl
                      · intro vs W3 hB3 hv3 _
                        have v15 : vs 15 = .bool (meetB x y) := hv3 15 _ rfl rfl
                        have HM3 : Hid (NeedP l inos k (m + 1) (meetB x y) ∧ MapAt W3 Tryz.prog 3 M np (cntI (numsL ps)) ∧ Below w.heap.size w W3) := ⟨HNS.out, HM.out.2.1.below hB3, ptrans HM.out.2.2 hB3⟩
                        clear hB3 hv3
                        simp only [List.take_succ_cons, List.take_zero, putAll, Act.put, List.setIfInBounds_toArray, List.set_cons_succ, List.set_cons_zero, Nat.zero_add, Nat.reduceAdd, v15]
                        go_wp2
                        go_roundw
                        case rel => exact ⟨m + 1, _, rfl, rfl, by omega, hm2, HM3⟩
                        case measure => simp only [intOf]; omega
                    · have hc0 : cm = 0 := by omega
                      subst hc0
                      have HNS := Lib.hid (hstep false (by simp))
                      clear hstep
                      go_wp2
                      refine wp_region_rel RelB (phi [isV (.map (some M)), isV (.int .i64 (m : Int)), isV (.int .i64 ((0 : Nat) : Int)), isV (.bool false), isV (.bool false), (fun _ _ => True), (fun _ _ => True), (fun _ _ => True), (fun _ _ => True), (fun _ _ => True), (fun _ _ => True), (fun _ _ => True), (fun _ _ => True), (fun _ _ => True), isV (.bool false), isV (.bool false)]) (by kernel_rfl) (by kernel_rfl) (by kernel_rfl) (RelB.of (below_drew _)) (fun _ _ _ a b => a.trans b) ?_ ?_ ?_
                      · refine stays_phiR ?_
                        simp only [List.forall_mem_cons]
                        exact ⟨fun _ _ _ h _ => h, fun _ _ _ h _ => h, fun _ _ _ h _ => h, fun _ _ _ h _ => h, fun _ _ _ h _ => h, fun _ _ _ _ _ => trivial, fun _ _ _ _ _ => trivial, fun _ _ _ _ _ => trivial, fun _ _ _ _ _ => trivial, fun _ _ _ _ _ => trivial, fun _ _ _ _ _ => trivial, fun _ _ _ _ _ => trivial, fun _ _ _ _ _ => trivial, fun _ _ _ _ _ => trivial, fun _ _ _ h _ => h, fun _ _ _ h _ => h, fun _ h => absurd h (by simp)⟩
                      · refine ⟨?_, ?_, ?_, ?_, ?_, ?_, ?_, ?_, ?_, ?_, ?_, ?_, ?_, ?_, ?_, ?_, trivial⟩
                        · refine opR_mk rfl fun a W2 hB hp hq K hK => ?_
                          have e6 : a.tmps[6]?.getD undef = .map (some M) := hp 6 (by kernel_rfl)
                          clear hp hq
                          go_simp
                          exact hK _ _ (RelB.refl _) rfl
                        · refine opR_mk rfl fun a W2 hB hp hq K hK => ?_
                          have e11 : a.tmps[11]?.getD undef = .int .i64 (m : Int) := hp 11 (by kernel_rfl)
                          clear hp hq
                          go_simp
                          exact hK _ _ (RelB.refl _) rfl
                        · refine opR_mk rfl fun a W2 hB hp hq K hK => ?_
                          have e103 : a.tmps[103]?.getD undef = .map (some M) := hq 0 _ (by kernel_rfl) rfl
                          have e104 : a.tmps[104]?.getD undef = .int .i64 (m : Int) := hq 1 _ (by kernel_rfl) rfl
                          have hlk := cntI_look (HM.out.2.1.below hB) (k := (m : Int)) ⟨by omega, by omega⟩
                          rw [HCM.out] at hlk
                          clear hp hq
                          go_simp
                          exact hK _ _ (RelB.refl _) rfl
                        · refine opR_mk rfl fun a W2 hB hp hq K hK => ?_
                          have e105 : a.tmps[105]?.getD undef = .int .i64 ((0 : Nat) : Int) := hq 2 _ (by kernel_rfl) rfl
                          clear hp hq
                          go_simp
                          exact hK _ _ (RelB.refl _) rfl
                        · refine opR_mk rfl fun a W2 hB hp hq K hK => ?_
                          have e106 : a.tmps[106]?.getD undef = .bool false := hq 3 _ (by kernel_rfl) rfl
                          clear hp hq
                          go_simp
                          exact hK _ _ (RelB.refl _) rfl
                        · exact opR_guard (j := 4) (d := 107) (c := false) rfl rfl (by kernel_rfl) rfl rfl (fun v W h => h) (fun _ => RelB.refl _) (fun _ _ => trivial) (fun hc => absurd hc (by decide))
                        · exact opR_guard (j := 4) (d := 107) (c := false) rfl rfl (by kernel_rfl) rfl rfl (fun v W h => h) (fun _ => RelB.refl _) (fun _ _ => trivial) (fun hc => absurd hc (by decide))
                        · exact opR_guard (j := 4) (d := 107) (c := false) rfl rfl (by kernel_rfl) rfl rfl (fun v W h => h) (fun _ => RelB.refl _) (fun _ _ => trivial) (fun hc => absurd hc (by decide))
                        · exact opR_guard (j := 4) (d := 107) (c := false) rfl rfl (by kernel_rfl) rfl rfl (fun v W h => h) (fun _ => RelB.refl _) (fun _ _ => trivial) (fun hc => absurd hc (by decide))
                        · exact opR_guard (j := 4) (d := 107) (c := false) rfl rfl (by kernel_rfl) rfl rfl (fun v W h => h) (fun _ => RelB.refl _) (fun _ _ => trivial) (fun hc => absurd hc (by decide))
                        · exact opR_guard (j := 4) (d := 107) (c := false) rfl rfl (by kernel_rfl) rfl rfl (fun v W h => h) (fun _ => RelB.refl _) (fun _ _ => trivial) (fun hc => absurd hc (by decide))
                        · exact opR_guard (j := 4) (d := 107) (c := false) rfl rfl (by kernel_rfl) rfl rfl (fun v W h => h) (fun _ => RelB.refl _) (fun _ _ => trivial) (fun hc => absurd hc (by decide))
                        · exact opR_guard (j := 4) (d := 107) (c := false) rfl rfl (by kernel_rfl) rfl rfl (fun v W h => h) (fun _ => RelB.refl _) (fun _ _ => trivial) (fun hc => absurd hc (by decide))
                        · exact opR_guard (j := 4) (d := 107) (c := false) rfl rfl (by kernel_rfl) rfl rfl (fun v W h => h) (fun _ => RelB.refl _) (fun _ _ => trivial) (fun hc => absurd hc (by decide))
                        · refine opR_mk rfl fun a W2 hB hp hq K hK => ?_
                          have e107 : a.tmps[107]?.getD undef = .bool false := hq 4 _ (by kernel_rfl) rfl
                          clear hp hq
                          go_simp
                          exact hK _ _ (RelB.refl _) rfl
                        · refine opR_mk rfl fun a W2 hB hp hq K hK => ?_
                          have e117 : a.tmps[117]?.getD undef = .bool false := hq 14 _ (by kernel_rfl) rfl
                          clear hp hq
                          go_simp
                          exact hK _ _ (RelB.refl _) rfl
                      · intro vs W3 hB3 hv3 _
                        have v15 : vs 15 = .bool (false) := hv3 15 _ rfl rfl
                        have HM3 : Hid (NeedP l inos k (m + 1) (false) ∧ MapAt W3 Tryz.prog 3 M np (cntI (numsL ps)) ∧ Below w.heap.size w W3) := ⟨HNS.out, HM.out.2.1.below hB3, ptrans HM.out.2.2 hB3⟩
                        clear hB3 hv3
                        simp only [List.take_succ_cons, List.take_zero, putAll, Act.put, List.setIfInBounds_toArray, List.set_cons_succ, List.set_cons_zero, Nat.zero_add, Nat.reduceAdd, v15]
                        go_wp2
                        go_roundw
                        case rel => exact ⟨m + 1, _, rfl, rfl, by omega, hm2, HM3⟩
                        case measure => simp only [intOf]; omega
        · have hi2 : i < np := by omega
          obtain ⟨hM1, hrow, hb⟩ := HC.out
          obtain ⟨g, hg, _, x, hx, cx, _⟩ := nat_cell (K := fun _ => False) ⟨own_base0 hrow, fun _ _ h => h⟩ hi2
          subst hg
          have HX := Lib.hid hx
          have hxn : x < n := by
            have h1 := List.mem_of_getElem? hx
            rw [← HPS.out, mem_places] at h1
            have := h1.lt
            rw [HN.out] at this
            exact this
          have hxI : I64 (x : Int) := ⟨by omega, by omega⟩
          have hgw : g < wr.heap.size := (hrow.lt g rfl).2
          clear hM1 hb hx
          cases i with
          | zero =>
            clear hrow
            have hnx : ¬ n ≤ x := by omega
            go_wp2
            refine wp_region_rel RelB (phi [isV (.slice (some ⟨g, 0, none⟩) np c2), isV (.int .i64 ((0 : Nat) : Int)), isV (.pointer (some ⟨g, 0, none⟩)), isV (.int .i64 (x : Int)), isV (.bool false), isV (.bool false), isV (.slice (some ⟨g, 0, none⟩) np c2), isV (.int .i64 ((0 : Nat) : Int)), isV (.pointer (some ⟨g, 0, none⟩)), isV (.int .i64 (x : Int)), isV (.slice A n c), isV (.int .i64 (n : Int)), isV (.bool false), isV (.bool false), isV (.bool false), isV (.int .i64 ((0 : Nat) : Int)), isV (.bool false), isV (.bool false), (fun _ _ => True), (fun _ _ => True), (fun _ _ => True), (fun _ _ => True), (fun _ _ => True), (fun _ _ => True), (fun _ _ => True), (fun _ _ => True), (fun _ _ => True), (fun _ _ => True), isV (.bool false), isV (.bool false)]) (by kernel_rfl) (by kernel_rfl) (by kernel_rfl) (RelB.of (below_drew _)) (fun _ _ _ a b => a.trans b) ?_ ?_ ?_
            · refine stays_phiR ?_
              simp only [List.forall_mem_cons]
              exact ⟨fun _ _ _ h _ => h, fun _ _ _ h _ => h, fun _ _ _ h _ => h, fun _ _ _ h _ => h, fun _ _ _ h _ => h, fun _ _ _ h _ => h, fun _ _ _ h _ => h, fun _ _ _ h _ => h, fun _ _ _ h _ => h, fun _ _ _ h _ => h, fun _ _ _ h _ => h, fun _ _ _ h _ => h, fun _ _ _ h _ => h, fun _ _ _ h _ => h, fun _ _ _ h _ => h, fun _ _ _ h _ => h, fun _ _ _ h _ => h, fun _ _ _ h _ => h, fun _ _ _ _ _ => trivial, fun _ _ _ _ _ => trivial, fun _ _ _ _ _ => trivial, fun _ _ _ _ _ => trivial, fun _ _ _ _ _ => trivial, fun _ _ _ _ _ => trivial, fun _ _ _ _ _ => trivial, fun _ _ _ _ _ => trivial, fun _ _ _ _ _ => trivial, fun _ _ _ _ _ => trivial, fun _ _ _ h _ => h, fun _ _ _ h _ => h, fun _ h => absurd h (by simp)⟩
            · refine ⟨?_, ?_, ?_, ?_, ?_, ?_, ?_, ?_, ?_, ?_, ?_, ?_, ?_, ?_, ?_, ?_, ?_, ?_, ?_, ?_, ?_, ?_, ?_, ?_, ?_, ?_, ?_, ?_, ?_, ?_, trivial⟩
              · refine opR_mk rfl fun a W2 hB hp hq K hK => ?_
                have e5 : a.tmps[5]?.getD undef = .slice (some ⟨g, 0, none⟩) np c2 := hp 5 (by kernel_rfl)
                clear hp hq
                go_simp
                exact hK _ _ (RelB.refl _) rfl
              · refine opR_mk rfl fun a W2 hB hp hq K hK => ?_
                have e7 : a.tmps[7]?.getD undef = .int .i64 ((0 : Nat) : Int) := hp 7 (by kernel_rfl)
                clear hp hq
                go_simp
                exact hK _ _ (RelB.refl _) rfl
              · refine opR_mk rfl fun a W2 hB hp hq K hK => ?_
                have e34 : a.tmps[34]?.getD undef = .slice (some ⟨g, 0, none⟩) np c2 := hq 0 _ (by kernel_rfl) rfl
                have e35 : a.tmps[35]?.getD undef = .int .i64 ((0 : Nat) : Int) := hq 1 _ (by kernel_rfl) rfl
                clear hp hq
                go_simp
                exact hK _ _ (RelB.refl _) rfl
              · refine opR_mk rfl fun a W2 hB hp hq K hK => ?_
                have e36 : a.tmps[36]?.getD undef = .pointer (some ⟨g, 0, none⟩) := hq 2 _ (by kernel_rfl) rfl
                have cx2 := (World.cell?_of_block (a := ⟨g, 0, none⟩) (Below.block hB g hgw)).trans cx
                clear hp hq
                go_simp
                exact hK _ _ (RelB.refl _) rfl
              · refine opR_mk rfl fun a W2 hB hp hq K hK => ?_
                have e37 : a.tmps[37]?.getD undef = .int .i64 (x : Int) := hq 3 _ (by kernel_rfl) rfl
                clear hp hq
                go_simp
                exact hK _ _ (RelB.refl _) rfl
              · refine opR_mk rfl fun a W2 hB hp hq K hK => ?_
                have e38 : a.tmps[38]?.getD undef = .bool false := hq 4 _ (by kernel_rfl) rfl
                clear hp hq
                go_simp
                exact hK _ _ (RelB.refl _) rfl
              · refine opR_guard (j := 5) (d := 39) (c := false) rfl rfl (by kernel_rfl) rfl rfl (fun v W h => h) (fun _ => RelB.refl _) (fun hne => absurd rfl hne) fun hc a W2 hB hp hq K hK => ?_
                have e5 : a.tmps[5]?.getD undef = .slice (some ⟨g, 0, none⟩) np c2 := hp 5 (by kernel_rfl)
                clear hp hq
                go_simp
                exact hK _ _ (RelB.refl _) rfl
              · refine opR_guard (j := 5) (d := 39) (c := false) rfl rfl (by kernel_rfl) rfl rfl (fun v W h => h) (fun _ => RelB.refl _) (fun hne => absurd rfl hne) fun hc a W2 hB hp hq K hK => ?_
                have e7 : a.tmps[7]?.getD undef = .int .i64 ((0 : Nat) : Int) := hp 7 (by kernel_rfl)
                clear hp hq
                go_simp
                exact hK _ _ (RelB.refl _) rfl
              · refine opR_guard (j := 5) (d := 39) (c := false) rfl rfl (by kernel_rfl) rfl rfl (fun v W h => h) (fun _ => RelB.refl _) (fun hne => absurd rfl hne) fun hc a W2 hB hp hq K hK => ?_
                have e40 : a.tmps[40]?.getD undef = .slice (some ⟨g, 0, none⟩) np c2 := hq 6 _ (by kernel_rfl) rfl
                have e41 : a.tmps[41]?.getD undef = .int .i64 ((0 : Nat) : Int) := hq 7 _ (by kernel_rfl) rfl
                clear hp hq
                go_simp
                exact hK _ _ (RelB.refl _) rfl
              · refine opR_guard (j := 5) (d := 39) (c := false) rfl rfl (by kernel_rfl) rfl rfl (fun v W h => h) (fun _ => RelB.refl _) (fun hne => absurd rfl hne) fun hc a W2 hB hp hq K hK => ?_
                have e42 : a.tmps[42]?.getD undef = .pointer (some ⟨g, 0, none⟩) := hq 8 _ (by kernel_rfl) rfl
                have cx2 := (World.cell?_of_block (a := ⟨g, 0, none⟩) (Below.block hB g hgw)).trans cx
                clear hp hq
                go_simp
                exact hK _ _ (RelB.refl _) rfl
              · refine opR_guard (j := 5) (d := 39) (c := false) rfl rfl (by kernel_rfl) rfl rfl (fun v W h => h) (fun _ => RelB.refl _) (fun hne => absurd rfl hne) fun hc a W2 hB hp hq K hK => ?_
                have e0 : a.tmps[0]?.getD undef = .slice A n c := hp 0 (by kernel_rfl)
                clear hp hq
                go_simp
                exact hK _ _ (RelB.refl _) rfl
              · refine opR_guard (j := 5) (d := 39) (c := false) rfl rfl (by kernel_rfl) rfl rfl (fun v W h => h) (fun _ => RelB.refl _) (fun hne => absurd rfl hne) fun hc a W2 hB hp hq K hK => ?_
                have e44 : a.tmps[44]?.getD undef = .slice A n c := hq 10 _ (by kernel_rfl) rfl
                clear hp hq
                go_simp
                exact hK _ _ (RelB.refl _) rfl
              · refine opR_guard (j := 5) (d := 39) (c := false) rfl rfl (by kernel_rfl) rfl rfl (fun v W h => h) (fun _ => RelB.refl _) (fun hne => absurd rfl hne) fun hc a W2 hB hp hq K hK => ?_
                have e43 : a.tmps[43]?.getD undef = .int .i64 (x : Int) := hq 9 _ (by kernel_rfl) rfl
                have e45 : a.tmps[45]?.getD undef = .int .i64 (n : Int) := hq 11 _ (by kernel_rfl) rfl
                clear hp hq
                go_simp
                exact hK _ _ (RelB.refl _) rfl
              · refine opR_mk rfl fun a W2 hB hp hq K hK => ?_
                have e39 : a.tmps[39]?.getD undef = .bool false := hq 5 _ (by kernel_rfl) rfl
                have e46 : a.tmps[46]?.getD undef = .bool false := hq 12 _ (by kernel_rfl) rfl
                clear hp hq
                go_simp
                exact hK _ _ (RelB.refl _) rfl
              · refine opR_mk rfl fun a W2 hB hp hq K hK => ?_
                have e47 : a.tmps[47]?.getD undef = .bool false := hq 13 _ (by kernel_rfl) rfl
                clear hp hq
                go_simp
                exact hK _ _ (RelB.refl _) rfl
              · refine opR_guard (j := 14) (d := 48) (c := false) rfl rfl (by kernel_rfl) rfl rfl (fun v W h => h) (fun _ => RelB.refl _) (fun hne => absurd rfl hne) fun hc a W2 hB hp hq K hK => ?_
                have e7 : a.tmps[7]?.getD undef = .int .i64 ((0 : Nat) : Int) := hp 7 (by kernel_rfl)
                clear hp hq
                go_simp
                exact hK _ _ (RelB.refl _) rfl
              · refine opR_guard (j := 14) (d := 48) (c := false) rfl rfl (by kernel_rfl) rfl rfl (fun v W h => h) (fun _ => RelB.refl _) (fun hne => absurd rfl hne) fun hc a W2 hB hp hq K hK => ?_
                have e49 : a.tmps[49]?.getD undef = .int .i64 ((0 : Nat) : Int) := hq 15 _ (by kernel_rfl) rfl
                clear hp hq
                go_simp
                exact hK _ _ (RelB.refl _) rfl
              · refine opR_guard (j := 14) (d := 48) (c := false) rfl rfl (by kernel_rfl) rfl rfl (fun v W h => h) (fun _ => RelB.refl _) (fun hne => absurd rfl hne) fun hc a W2 hB hp hq K hK => ?_
                have e50 : a.tmps[50]?.getD undef = .bool false := hq 16 _ (by kernel_rfl) rfl
                clear hp hq
                go_simp
                exact hK _ _ (RelB.refl _) rfl
              · exact opR_guard (j := 17) (d := 51) (c := false) rfl rfl (by kernel_rfl) rfl rfl (fun v W h => h) (fun _ => RelB.refl _) (fun _ _ => trivial) (fun hc => absurd hc (by decide))
              · exact opR_guard (j := 17) (d := 51) (c := false) rfl rfl (by kernel_rfl) rfl rfl (fun v W h => h) (fun _ => RelB.refl _) (fun _ _ => trivial) (fun hc => absurd hc (by decide))
              · exact opR_guard (j := 17) (d := 51) (c := false) rfl rfl (by kernel_rfl) rfl rfl (fun v W h => h) (fun _ => RelB.refl _) (fun _ _ => trivial) (fun hc => absurd hc (by decide))
              · exact opR_guard (j := 17) (d := 51) (c := false) rfl rfl (by kernel_rfl) rfl rfl (fun v W h => h) (fun _ => RelB.refl _) (fun _ _ => trivial) (fun hc => absurd hc (by decide))
              · exact opR_guard (j := 17) (d := 51) (c := false) rfl rfl (by kernel_rfl) rfl rfl (fun v W h => h) (fun _ => RelB.refl _) (fun _ _ => trivial) (fun hc => absurd hc (by decide))
              · exact opR_guard (j := 17) (d := 51) (c := false) rfl rfl (by kernel_rfl) rfl rfl (fun v W h => h) (fun _ => RelB.refl _) (fun _ _ => trivial) (fun hc => absurd hc (by decide))
              · exact opR_guard (j := 17) (d := 51) (c := false) rfl rfl (by kernel_rfl) rfl rfl (fun v W h => h) (fun _ => RelB.refl _) (fun _ _ => trivial) (fun hc => absurd hc (by decide))
              · exact opR_guard (j := 17) (d := 51) (c := false) rfl rfl (by kernel_rfl) rfl rfl (fun v W h => h) (fun _ => RelB.refl _) (fun _ _ => trivial) (fun hc => absurd hc (by decide))
              · exact opR_guard (j := 17) (d := 51) (c := false) rfl rfl (by kernel_rfl) rfl rfl (fun v W h => h) (fun _ => RelB.refl _) (fun _ _ => trivial) (fun hc => absurd hc (by decide))
              · exact opR_guard (j := 17) (d := 51) (c := false) rfl rfl (by kernel_rfl) rfl rfl (fun v W h => h) (fun _ => RelB.refl _) (fun _ _ => trivial) (fun hc => absurd hc (by decide))
              · refine opR_guard (j := 14) (d := 48) (c := false) rfl rfl (by kernel_rfl) rfl rfl (fun v W h => h) (fun _ => RelB.refl _) (fun hne => absurd rfl hne) fun hc a W2 hB hp hq K hK => ?_
                have e51 : a.tmps[51]?.getD undef = .bool false := hq 17 _ (by kernel_rfl) rfl
                clear hp hq
                go_simp
                exact hK _ _ (RelB.refl _) rfl
              · refine opR_mk rfl fun a W2 hB hp hq K hK => ?_
                have e48 : a.tmps[48]?.getD undef = .bool false := hq 14 _ (by kernel_rfl) rfl
                have e62 : a.tmps[62]?.getD undef = .bool false := hq 28 _ (by kernel_rfl) rfl
                clear hp hq
                go_simp
                exact hK _ _ (RelB.refl _) rfl
            · intro vs W3 hB3 hv3 _
              have v29 : vs 29 = .bool false := hv3 29 _ rfl rfl
              have HC2 : Hid (Cnt3 w ps M (some ⟨g, 0, none⟩) np c2 b2 W3 0) := HC.out.below hB3
              have cx2 := (World.cell?_of_block (a := ⟨g, 0, none⟩) (Below.block hB3 g hgw)).trans cx
              clear hB3 hv3 cx
              obtain ⟨W1, hlk, hup, hcl, hN1⟩ := HC2.out.turn HX.out (by omega) HWM.out.1 (fun q hq => by have := HGM.out q hq; omega)
              obtain ⟨cc, hcc⟩ : ∃ cc, (numsL (ps.take 0)).count (x : Int) = cc := ⟨_, rfl⟩
              rw [hcc] at hlk hup hcl
              have HN1 := Lib.hid hN1
              clear hcc hN1
              simp only [List.take_succ_cons, List.take_zero, putAll, Act.put, List.setIfInBounds_toArray, List.set_cons_succ, List.set_cons_zero, Nat.zero_add, Nat.reduceAdd, v29]
              go_wp2
              go_roundw
              case rel => exact ⟨1, rfl, hi2, HN1⟩
              case measure => simp only [intOf]; omega
          | succ i =>
            obtain ⟨g', hg', _, y, hy, cy, _⟩ := nat_cell (K := fun _ => False) ⟨own_base0 hrow, fun _ _ h => h⟩ (show i < np by omega)
            injection hg' with hg'
            injection hg' with hg'
            subst hg'
            have hyx : y < x := by
              have h := places_rise l inos
              rw [HPS.out] at h
              exact rise_at h hy HX.out
            have hi3 : ((i + 1 : Nat) : Int) - 1 = (i : Int) := by omega
            clear hrow hy
            have hnx : ¬ n ≤ x := by omega
            have hip : i < np := by omega
            have hxy : ¬ x ≤ y := by omega
            have hwi : IntKind.i64.wrap (i : Int) = (i : Int) := IntWalk.i64_in _ (by omega)
            go_wp2
            refine wp_region_rel RelB (phi [isV (.slice (some ⟨g, 0, none⟩) np c2), isV (.int .i64 ((i + 1 : Nat) : Int)), isV (.pointer (some ⟨g, (i + 1), none⟩)), isV (.int .i64 (x : Int)), isV (.bool false), isV (.bool false), isV (.slice (some ⟨g, 0, none⟩) np c2), isV (.int .i64 ((i + 1 : Nat) : Int)), isV (.pointer (some ⟨g, (i + 1), none⟩)), isV (.int .i64 (x : Int)), isV (.slice A n c), isV (.int .i64 (n : Int)), isV (.bool false), isV (.bool false), isV (.bool false), isV (.int .i64 ((i + 1 : Nat) : Int)), isV (.bool true), isV (.bool true), isV (.slice (some ⟨g, 0, none⟩) np c2), isV (.int .i64 ((i + 1 : Nat) : Int)), isV (.pointer (some ⟨g, (i + 1), none⟩)), isV (.int .i64 (x : Int)), isV (.slice (some ⟨g, 0, none⟩) np c2), isV (.int .i64 ((i + 1 : Nat) : Int)), isV (.int .i64 (i : Int)), isV (.pointer (some ⟨g, i, none⟩)), isV (.int .i64 (y : Int)), isV (.bool false), isV (.bool false), isV (.bool false)]) (by kernel_rfl) (by kernel_rfl) (by kernel_rfl) (RelB.of (below_drew _)) (fun _ _ _ a b => a.trans b) ?_ ?_ ?_
            · refine stays_phiR ?_
              simp only [List.forall_mem_cons]
              exact ⟨fun _ _ _ h _ => h, fun _ _ _ h _ => h, fun _ _ _ h _ => h, fun _ _ _ h _ => h, fun _ _ _ h _ => h, fun _ _ _ h _ => h, fun _ _ _ h _ => h, fun _ _ _ h _ => h, fun _ _ _ h _ => h, fun _ _ _ h _ => h, fun _ _ _ h _ => h, fun _ _ _ h _ => h, fun _ _ _ h _ => h, fun _ _ _ h _ => h, fun _ _ _ h _ => h, fun _ _ _ h _ => h, fun _ _ _ h _ => h, fun _ _ _ h _ => h, fun _ _ _ h _ => h, fun _ _ _ h _ => h, fun _ _ _ h _ => h, fun _ _ _ h _ => h, fun _ _ _ h _ => h, fun _ _ _ h _ => h, fun _ _ _ h _ => h, fun _ _ _ h _ => h, fun _ _ _ h _ => h, fun _ _ _ h _ => h, fun _ _ _ h _ => h, fun _ _ _ h _ => h, fun _ h => absurd h (by simp)⟩
            · refine ⟨?_, ?_, ?_, ?_, ?_, ?_, ?_, ?_, ?_, ?_, ?_, ?_, ?_, ?_, ?_, ?_, ?_, ?_, ?_, ?_, ?_, ?_, ?_, ?_, ?_, ?_, ?_, ?_, ?_, ?_, trivial⟩
              · refine opR_mk rfl fun a W2 hB hp hq K hK => ?_
                have e5 : a.tmps[5]?.getD undef = .slice (some ⟨g, 0, none⟩) np c2 := hp 5 (by kernel_rfl)
                clear hp hq
                go_simp
                exact hK _ _ (RelB.refl _) rfl
              · refine opR_mk rfl fun a W2 hB hp hq K hK => ?_
                have e7 : a.tmps[7]?.getD undef = .int .i64 ((i + 1 : Nat) : Int) := hp 7 (by kernel_rfl)
                clear hp hq
                go_simp
                exact hK _ _ (RelB.refl _) rfl
              · refine opR_mk rfl fun a W2 hB hp hq K hK => ?_
                have e34 : a.tmps[34]?.getD undef = .slice (some ⟨g, 0, none⟩) np c2 := hq 0 _ (by kernel_rfl) rfl
                have e35 : a.tmps[35]?.getD undef = .int .i64 ((i + 1 : Nat) : Int) := hq 1 _ (by kernel_rfl) rfl
                clear hp hq
                go_simp
                exact hK _ _ (RelB.refl _) rfl
              · refine opR_mk rfl fun a W2 hB hp hq K hK => ?_
                have e36 : a.tmps[36]?.getD undef = .pointer (some ⟨g, (i + 1), none⟩) := hq 2 _ (by kernel_rfl) rfl
                have cx2 := (World.cell?_of_block (a := ⟨g, (i + 1), none⟩) (Below.block hB g hgw)).trans cx
                clear hp hq
                go_simp
                exact hK _ _ (RelB.refl _) rfl
              · refine opR_mk rfl fun a W2 hB hp hq K hK => ?_
                have e37 : a.tmps[37]?.getD undef = .int .i64 (x : Int) := hq 3 _ (by kernel_rfl) rfl
                clear hp hq
                go_simp
                exact hK _ _ (RelB.refl _) rfl
              · refine opR_mk rfl fun a W2 hB hp hq K hK => ?_
                have e38 : a.tmps[38]?.getD undef = .bool false := hq 4 _ (by kernel_rfl) rfl
                clear hp hq
                go_simp
                exact hK _ _ (RelB.refl _) rfl
              · refine opR_guard (j := 5) (d := 39) (c := false) rfl rfl (by kernel_rfl) rfl rfl (fun v W h => h) (fun _ => RelB.refl _) (fun hne => absurd rfl hne) fun hc a W2 hB hp hq K hK => ?_
                have e5 : a.tmps[5]?.getD undef = .slice (some ⟨g, 0, none⟩) np c2 := hp 5 (by kernel_rfl)
                clear hp hq
                go_simp
                exact hK _ _ (RelB.refl _) rfl
              · refine opR_guard (j := 5) (d := 39) (c := false) rfl rfl (by kernel_rfl) rfl rfl (fun v W h => h) (fun _ => RelB.refl _) (fun hne => absurd rfl hne) fun hc a W2 hB hp hq K hK => ?_
                have e7 : a.tmps[7]?.getD undef = .int .i64 ((i + 1 : Nat) : Int) := hp 7 (by kernel_rfl)
                clear hp hq
                go_simp
                exact hK _ _ (RelB.refl _) rfl
              · refine opR_guard (j := 5) (d := 39) (c := false) rfl rfl (by kernel_rfl) rfl rfl (fun v W h => h) (fun _ => RelB.refl _) (fun hne => absurd rfl hne) fun hc a W2 hB hp hq K hK => ?_
                have e40 : a.tmps[40]?.getD undef = .slice (some ⟨g, 0, none⟩) np c2 := hq 6 _ (by kernel_rfl) rfl
                have e41 : a.tmps[41]?.getD undef = .int .i64 ((i + 1 : Nat) : Int) := hq 7 _ (by kernel_rfl) rfl
                clear hp hq
                go_simp
                exact hK _ _ (RelB.refl _) rfl
              · refine opR_guard (j := 5) (d := 39) (c := false) rfl rfl (by kernel_rfl) rfl rfl (fun v W h => h) (fun _ => RelB.refl _) (fun hne => absurd rfl hne) fun hc a W2 hB hp hq K hK => ?_
                have e42 : a.tmps[42]?.getD undef = .pointer (some ⟨g, (i + 1), none⟩) := hq 8 _ (by kernel_rfl) rfl
                have cx2 := (World.cell?_of_block (a := ⟨g, (i + 1), none⟩) (Below.block hB g hgw)).trans cx
                clear hp hq
                go_simp
                exact hK _ _ (RelB.refl _) rfl
              · refine opR_guard (j := 5) (d := 39) (c := false) rfl rfl (by kernel_rfl) rfl rfl (fun v W h => h) (fun _ => RelB.refl _) (fun hne => absurd rfl hne) fun hc a W2 hB hp hq K hK => ?_
                have e0 : a.tmps[0]?.getD undef = .slice A n c := hp 0 (by kernel_rfl)
                clear hp hq
                go_simp
                exact hK _ _ (RelB.refl _) rfl
              · refine opR_guard (j := 5) (d := 39) (c := false) rfl rfl (by kernel_rfl) rfl rfl (fun v W h => h) (fun _ => RelB.refl _) (fun hne => absurd rfl hne) fun hc a W2 hB hp hq K hK => ?_
                have e44 : a.tmps[44]?.getD undef = .slice A n c := hq 10 _ (by kernel_rfl) rfl
                clear hp hq
                go_simp
                exact hK _ _ (RelB.refl _) rfl
              · refine opR_guard (j := 5) (d := 39) (c := false) rfl rfl (by kernel_rfl) rfl rfl (fun v W h => h) (fun _ => RelB.refl _) (fun hne => absurd rfl hne) fun hc a W2 hB hp hq K hK => ?_
                have e43 : a.tmps[43]?.getD undef = .int .i64 (x : Int) := hq 9 _ (by kernel_rfl) rfl
                have e45 : a.tmps[45]?.getD undef = .int .i64 (n : Int) := hq 11 _ (by kernel_rfl) rfl
                clear hp hq
                go_simp
                exact hK _ _ (RelB.refl _) rfl
              · refine opR_mk rfl fun a W2 hB hp hq K hK => ?_
                have e39 : a.tmps[39]?.getD undef = .bool false := hq 5 _ (by kernel_rfl) rfl
                have e46 : a.tmps[46]?.getD undef = .bool false := hq 12 _ (by kernel_rfl) rfl
                clear hp hq
                go_simp
                exact hK _ _ (RelB.refl _) rfl
              · refine opR_mk rfl fun a W2 hB hp hq K hK => ?_
                have e47 : a.tmps[47]?.getD undef = .bool false := hq 13 _ (by kernel_rfl) rfl
                clear hp hq
                go_simp
                exact hK _ _ (RelB.refl _) rfl
              · refine opR_guard (j := 14) (d := 48) (c := false) rfl rfl (by kernel_rfl) rfl rfl (fun v W h => h) (fun _ => RelB.refl _) (fun hne => absurd rfl hne) fun hc a W2 hB hp hq K hK => ?_
                have e7 : a.tmps[7]?.getD undef = .int .i64 ((i + 1 : Nat) : Int) := hp 7 (by kernel_rfl)
                clear hp hq
                go_simp
                exact hK _ _ (RelB.refl _) rfl
              · refine opR_guard (j := 14) (d := 48) (c := false) rfl rfl (by kernel_rfl) rfl rfl (fun v W h => h) (fun _ => RelB.refl _) (fun hne => absurd rfl hne) fun hc a W2 hB hp hq K hK => ?_
                have e49 : a.tmps[49]?.getD undef = .int .i64 ((i + 1 : Nat) : Int) := hq 15 _ (by kernel_rfl) rfl
                clear hp hq
                go_simp
                exact hK _ _ (RelB.refl _) rfl
              · refine opR_guard (j := 14) (d := 48) (c := false) rfl rfl (by kernel_rfl) rfl rfl (fun v W h => h) (fun _ => RelB.refl _) (fun hne => absurd rfl hne) fun hc a W2 hB hp hq K hK => ?_
                have e50 : a.tmps[50]?.getD undef = .bool true := hq 16 _ (by kernel_rfl) rfl
                clear hp hq
                go_simp
                exact hK _ _ (RelB.refl _) rfl
              · refine opR_guard (j := 17) (d := 51) (c := true) rfl rfl (by kernel_rfl) rfl rfl (fun v W h => h) (fun _ => RelB.refl _) (fun hne => absurd rfl hne) fun hc a W2 hB hp hq K hK => ?_
                have e5 : a.tmps[5]?.getD undef = .slice (some ⟨g, 0, none⟩) np c2 := hp 5 (by kernel_rfl)
                clear hp hq
                go_simp
                exact hK _ _ (RelB.refl _) rfl
              · refine opR_guard (j := 17) (d := 51) (c := true) rfl rfl (by kernel_rfl) rfl rfl (fun v W h => h) (fun _ => RelB.refl _) (fun hne => absurd rfl hne) fun hc a W2 hB hp hq K hK => ?_
                have e7 : a.tmps[7]?.getD undef = .int .i64 ((i + 1 : Nat) : Int) := hp 7 (by kernel_rfl)
                clear hp hq
                go_simp
                exact hK _ _ (RelB.refl _) rfl
              · refine opR_guard (j := 17) (d := 51) (c := true) rfl rfl (by kernel_rfl) rfl rfl (fun v W h => h) (fun _ => RelB.refl _) (fun hne => absurd rfl hne) fun hc a W2 hB hp hq K hK => ?_
                have e52 : a.tmps[52]?.getD undef = .slice (some ⟨g, 0, none⟩) np c2 := hq 18 _ (by kernel_rfl) rfl
                have e53 : a.tmps[53]?.getD undef = .int .i64 ((i + 1 : Nat) : Int) := hq 19 _ (by kernel_rfl) rfl
                clear hp hq
                go_simp
                exact hK _ _ (RelB.refl _) rfl
              · refine opR_guard (j := 17) (d := 51) (c := true) rfl rfl (by kernel_rfl) rfl rfl (fun v W h => h) (fun _ => RelB.refl _) (fun hne => absurd rfl hne) fun hc a W2 hB hp hq K hK => ?_
                have e54 : a.tmps[54]?.getD undef = .pointer (some ⟨g, (i + 1), none⟩) := hq 20 _ (by kernel_rfl) rfl
                have cx2 := (World.cell?_of_block (a := ⟨g, (i + 1), none⟩) (Below.block hB g hgw)).trans cx
                clear hp hq
                go_simp
                exact hK _ _ (RelB.refl _) rfl
              · refine opR_guard (j := 17) (d := 51) (c := true) rfl rfl (by kernel_rfl) rfl rfl (fun v W h => h) (fun _ => RelB.refl _) (fun hne => absurd rfl hne) fun hc a W2 hB hp hq K hK => ?_
                have e5 : a.tmps[5]?.getD undef = .slice (some ⟨g, 0, none⟩) np c2 := hp 5 (by kernel_rfl)
                clear hp hq
                go_simp
                exact hK _ _ (RelB.refl _) rfl
              · refine opR_guard (j := 17) (d := 51) (c := true) rfl rfl (by kernel_rfl) rfl rfl (fun v W h => h) (fun _ => RelB.refl _) (fun hne => absurd rfl hne) fun hc a W2 hB hp hq K hK => ?_
                have e7 : a.tmps[7]?.getD undef = .int .i64 ((i + 1 : Nat) : Int) := hp 7 (by kernel_rfl)
                clear hp hq
                go_simp
                exact hK _ _ (RelB.refl _) rfl
              · refine opR_guard (j := 17) (d := 51) (c := true) rfl rfl (by kernel_rfl) rfl rfl (fun v W h => h) (fun _ => RelB.refl _) (fun hne => absurd rfl hne) fun hc a W2 hB hp hq K hK => ?_
                have e57 : a.tmps[57]?.getD undef = .int .i64 ((i + 1 : Nat) : Int) := hq 23 _ (by kernel_rfl) rfl
                clear hp hq
                go_simp
                exact hK _ _ (RelB.refl _) rfl
              · refine opR_guard (j := 17) (d := 51) (c := true) rfl rfl (by kernel_rfl) rfl rfl (fun v W h => h) (fun _ => RelB.refl _) (fun hne => absurd rfl hne) fun hc a W2 hB hp hq K hK => ?_
                have e56 : a.tmps[56]?.getD undef = .slice (some ⟨g, 0, none⟩) np c2 := hq 22 _ (by kernel_rfl) rfl
                have e58 : a.tmps[58]?.getD undef = .int .i64 (i : Int) := hq 24 _ (by kernel_rfl) rfl
                clear hp hq
                go_simp
                exact hK _ _ (RelB.refl _) rfl
              · refine opR_guard (j := 17) (d := 51) (c := true) rfl rfl (by kernel_rfl) rfl rfl (fun v W h => h) (fun _ => RelB.refl _) (fun hne => absurd rfl hne) fun hc a W2 hB hp hq K hK => ?_
                have e59 : a.tmps[59]?.getD undef = .pointer (some ⟨g, i, none⟩) := hq 25 _ (by kernel_rfl) rfl
                have cy2 := (World.cell?_of_block (a := ⟨g, i, none⟩) (Below.block hB g hgw)).trans cy
                clear hp hq
                go_simp
                exact hK _ _ (RelB.refl _) rfl
              · refine opR_guard (j := 17) (d := 51) (c := true) rfl rfl (by kernel_rfl) rfl rfl (fun v W h => h) (fun _ => RelB.refl _) (fun hne => absurd rfl hne) fun hc a W2 hB hp hq K hK => ?_
                have e55 : a.tmps[55]?.getD undef = .int .i64 (x : Int) := hq 21 _ (by kernel_rfl) rfl
                have e60 : a.tmps[60]?.getD undef = .int .i64 (y : Int) := hq 26 _ (by kernel_rfl) rfl
                clear hp hq
                go_simp
                exact hK _ _ (RelB.refl _) rfl
              · refine opR_guard (j := 14) (d := 48) (c := false) rfl rfl (by kernel_rfl) rfl rfl (fun v W h => h) (fun _ => RelB.refl _) (fun hne => absurd rfl hne) fun hc a W2 hB hp hq K hK => ?_
                have e51 : a.tmps[51]?.getD undef = .bool true := hq 17 _ (by kernel_rfl) rfl
                have e61 : a.tmps[61]?.getD undef = .bool false := hq 27 _ (by kernel_rfl) rfl
                clear hp hq
                go_simp
                exact hK _ _ (RelB.refl _) rfl
              · refine opR_mk rfl fun a W2 hB hp hq K hK => ?_
                have e48 : a.tmps[48]?.getD undef = .bool false := hq 14 _ (by kernel_rfl) rfl
                have e62 : a.tmps[62]?.getD undef = .bool false := hq 28 _ (by kernel_rfl) rfl
                clear hp hq
                go_simp
                exact hK _ _ (RelB.refl _) rfl
            · intro vs W3 hB3 hv3 _
              have v29 : vs 29 = .bool false := hv3 29 _ rfl rfl
              have HC2 : Hid (Cnt3 w ps M (some ⟨g, 0, none⟩) np c2 b2 W3 (i + 1)) := HC.out.below hB3
              have cx2 := (World.cell?_of_block (a := ⟨g, (i + 1), none⟩) (Below.block hB3 g hgw)).trans cx
              clear hB3 hv3 cx cy
              obtain ⟨W1, hlk, hup, hcl, hN1⟩ := HC2.out.turn HX.out (by omega) HWM.out.1 (fun q hq => by have := HGM.out q hq; omega)
              obtain ⟨cc, hcc⟩ : ∃ cc, (numsL (ps.take (i + 1))).count (x : Int) = cc := ⟨_, rfl⟩
              rw [hcc] at hlk hup hcl
              have HN1 := Lib.hid hN1
              clear hcc hN1
              simp only [List.take_succ_cons, List.take_zero, putAll, Act.put, List.setIfInBounds_toArray, List.set_cons_succ, List.set_cons_zero, Nat.zero_add, Nat.reduceAdd, v29]
              go_wp2
              go_roundw
              case rel => exact ⟨i + 1 + 1, rfl, hi2, HN1⟩
              case measure => simp only [intOf]; omega
    · go_ret
      exact ⟨rfl, ptrans H1.out HB9.out⟩
end Go.Proofs.YtehckjkihaalfaaGreat
