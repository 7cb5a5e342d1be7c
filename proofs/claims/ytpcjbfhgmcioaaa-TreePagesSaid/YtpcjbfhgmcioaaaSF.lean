/- TreePages walked: the start. -/
import Derived.Test.YtpcjbfhgmcioaaaSE
namespace Go.Proofs.Ytpcjbfhgmcioaaa
open Go.RowKit Go.Maps

def D0 : PT := newT 4
def D1 : PT := makeT D0 1 sf 1 2
theorem D1_2 : D1.n 2 = some { newN 1 with links := 1 } := rfl
theorem makeD : makeP D0 1 sf 1 2 = ((2, 0), D1) := by
  have h1 : makeE D0 1 sf 1 = 0 := by unfold makeE; rw [nf]; rfl
  have h2 : makeAtE D0 1 sf 1 2 = 0 := by unfold makeAtE; rw [nf]; rfl
  have h3 : ¬ D0.room < 2 := by decide
  unfold makeP makeQ makeAtP
  rw [if_pos h1, if_neg h3, if_pos h2]
  rfl
theorem leastD : Least D0 2 := ⟨by decide, by decide, rfl, fun j h1 h2 => by
  have : j = 1 := by omega
  subst this; rfl⟩
theorem pg_new (w : World) : Calls Try.prog 6 #[.int .i64 4] w fun e w' => ∃ P, e = .returned (.tuple #[.pointer (some ⟨P, 0, none⟩), .int .i64 0]) ∧ Sit w w' P 1 D0 := by
  refine (t_new 4 w (by omega) (by omega)).mono ?_
  rintro e w' ⟨P, y, F, rfl, hT, hB, hF⟩
  exact ⟨P, rfl, y, F, hT, hB, hF⟩
theorem pg_start {w W : World} {P : Nat} (h : Sit w W P 3 D1) : ∃ w', (Instr.makeSlice 32 (.int .i64 2304) (.int .i64 2304)).run Try.prog W = .ok (.slice (some ⟨W.heap.size, 0, none⟩) 2304 2304) w' ∧ Pg w P W.heap.size 0 0 (fun _ => 0) (fun _ => 0) w' := by
  obtain ⟨w', hrun, hr, hb⟩ := row_make W
  obtain ⟨y, F, hT, hB, hF⟩ := h
  exact ⟨w', hrun, 3, y, F, D1, _, by omega, hT.below hb, ptrans hB hb, hF, fun hh => by have := hT.lt _ hh; omega, hB.size, hr, D1_2, Inv.start _ rfl rfl rfl rfl⟩
theorem Pg.zero {w W : World} {P B k s : Nat} {h g : Nat → UInt8} (H : Pg w P B k s h g W) (q : Nat) (hq : s ≤ q) : h q = 0 := by
  obtain ⟨N, y, F, t, x, hN, hT, hB, hF, hnF, hb, hr, hx, hi⟩ := H
  exact hi.zero q hq
def zeroF (m q : Nat) (g : Nat → UInt8) : Nat → UInt8 := fun j => if m ≤ j ∧ j < q then 0 else g j
theorem zeroF_start (m : Nat) (g : Nat → UInt8) : zeroF m m g = g := by
  funext j; unfold zeroF; rw [if_neg (by omega)]
theorem zeroF_step {m q : Nat} (g : Nat → UInt8) (hq : m ≤ q) : putF (zeroF m q g) q [0] = zeroF m (q + 1) g := by
  funext j
  unfold putF zeroF
  simp only [List.length_cons, List.length_nil]
  by_cases e : j = q
  · subst e
    rw [if_pos (by omega), if_pos (by omega)]
    simp
  · rw [if_neg (by omega)]
    by_cases h : m ≤ j ∧ j < q
    · rw [if_pos h, if_pos (by omega)]
    · rw [if_neg h, if_neg (by omega)]
theorem zeroF_end {m q s : Nat} {g : Nat → UInt8} (hq : m ≤ q) (hs : s ≤ q) (hz : ∀ j, s ≤ j → g j = 0) : zeroF m q g = cutF m g := by
  funext j
  unfold zeroF cutF
  by_cases h : m ≤ j ∧ j < q
  · rw [if_pos h, if_neg (by omega)]
  · rw [if_neg h]
    by_cases h2 : j < m
    · rw [if_pos h2]
    · rw [if_neg h2]
      exact hz j (by omega)
theorem LongQ.get {n : Nat} {w w' : World} {e : Ending} (h : LongQ n w e w') : ∃ b, e = .returned (.bool b) ∧ (b = false → n ≤ 150) ∧ Below w.heap.size w w' := h
attribute [local irreducible] D0 D1 Sit Pg
set_option maxRecDepth 100000 in
set_option maxHeartbeats 2000000 in
theorem t_pages (A : Option Addr) (n c : Nat) (f : Nat → PStep) (w : World) (hs : Steps w A n f) (hn : n ≤ maxLen) :
    Calls Try.prog 3 #[.slice A n c] w fun e w' => e = .returned (.bool true) ∧ Below w.heap.size w w' := by
  have HN := Lib.hid hn
  have HS := Lib.hid hs
  clear hs
  unfold maxLen at hn
  have HL := Lib.hid (t_long A n c f w HS.out HN.out)
  go_enter Try.func3, Try.ntmps3
  go_wp2_with (first
    | (go_at_call 4; with_reducible refine HL.out.mono ?_; rintro e w1 hq; obtain ⟨b, rfl, hb, h1⟩ := hq.get; clear hq; have H1 := Lib.hid h1; have HBL := Lib.hid hb; clear h1 hb)
    | (go_at_call 5; with_reducible refine (t_alive _).mono ?_; rintro e w2 ⟨rfl, h2⟩; have H2 := Lib.hid h2; clear h2)
    | (go_at_call 6; with_reducible refine (pg_new _).mono ?_; rintro e w2 ⟨P, rfl, h2⟩; have H2 := Lib.hid h2; clear h2)
    | (go_at_call 7; with_reducible refine (sit_make 1 sf 1 2 2 0 D1 leastD makeD H2.out (by omega) u1 (by decide)).mono ?_; rintro e w3 ⟨rfl, h3⟩; obtain ⟨w4, hmk, h4⟩ := pg_start h3; have H4 := Lib.hid h4; clear h4 h3 H2))
  · go_ret
    exact ⟨rfl, ptrans H1.out H2.out⟩
  · clear hmk
    have HN2 : Hid (n ≤ 150) := HBL.out (by assumption)
    have HW := Lib.hid (fun W (h : Below w1.heap.size w1 W) => HS.out.below (ptrans H1.out h))
    obtain ⟨B, hB⟩ : ∃ B, w3.heap.size = B := ⟨_, rfl⟩
    rw [hB] at H4 ⊢
    clear HL HBL HN hn HS hB
    go_loopw [8, 9] (fun sz i W => ∃ (k s : Nat) (g : Nat → UInt8), i = .int .i64 k ∧ sz = .int .i64 s ∧ k ≤ n ∧ Pg w1 P B k s g g W) (fun _ i _ => n - (intOf i).toNat)
    case atStart => exact ⟨0, 0, _, rfl, rfl, Nat.zero_le _, H4.out⟩
    case round =>
      obtain ⟨k, s, g, rfl, rfl, hk, hp⟩ := hrel
      have HP := Lib.hid hp
      clear hp
      by_cases he : k = n
      · subst he
        go_wp2_with (go_at_call 5; with_reducible refine (t_alive _).mono ?_; rintro e w2 ⟨rfl, h2⟩; have H2 := Lib.hid h2; clear h2)
        go_ret
        exact ⟨rfl, ptrans H1.out (ptrans HP.out.out.2.1 H2.out)⟩
      · have hkn : k < n := by omega
        obtain ⟨ab, ao, rfl, hlt, hc⟩ := (HW.out w1 (Below.refl _ _)).at_ (by omega)
        have HC7 : Hid (∀ W, Below w1.heap.size w1 W → W.cell? ⟨ab, ao + k * 8 + 7, none⟩ = some (.string (f k).data)) := fun W hW => ((hc k hkn).below hW hlt).c7
        have hcw := (hc k hkn).below HP.out.out.2.1 hlt
        have c0 := hcw.c0
        have c6 := hcw.c6
        have c7 := hcw.c7
        clear hcw
        generalize (f k).what = what at *
        generalize (f k).n = N at *
        generalize (f k).data = d at *
        clear hc he
        go_upto_if 51 with fail
        go_cut [8] (fun sz wx => ∃ (s' : Nat) (g' : Nat → UInt8), sz = .int .i64 s' ∧ Pg w1 P B (k + 1) s' g' g' wx)
        case first =>
          by_cases hw : what = 6
          · have hwb : (what == 6) = true := by simpa using hw
            obtain ⟨m, hm⟩ : ∃ m : Nat, N % 4294967296 % 2305 = (m : Int) := ⟨(N % 4294967296 % 2305).toNat, by omega⟩
            have hml : m ≤ 2304 := by omega
            have hsl := HP.out.out.2.2
            go_wp2_with fail
            rw [hm]
            refine (pg_resize HP.out m hml (by have := HN2.out; omega)).mono ?_
            rintro e w5 ⟨rfl, hp5⟩
            have H5 := Lib.hid hp5
            clear hp5 c0 c6 c7 hm
            go_wp2_with fail
            go_loopw [11] (fun i W => ∃ q : Nat, i = .int .i64 q ∧ m ≤ q ∧ (q ≤ s ∨ q = m) ∧ Pg w1 P B k m (cutF m g) (zeroF m q g) W) (fun i _ => s - (intOf i).toNat)
            case atStart => exact ⟨m, rfl, Nat.le_refl _, .inr rfl, by rw [zeroF_start]; exact H5.out⟩
            case round =>
              obtain ⟨q, rfl, hmq, hqs, hp⟩ := hrel
              by_cases hq : q < s
              · have HR := Lib.hid hp.out.1
                have hf := hp.out.1.froz q (by omega)
                have hcc := hp.out.1.cell q (by omega)
                have HP6 : Hid (Pg w1 P B k m (cutF m g) (zeroF m (q + 1) g) (wr.setCell ⟨B, q, none⟩ (.int .u8 0))) := by
                  have := hp.put q [0] (by simp; omega)
                  rw [zeroF_step g hmq] at this
                  exact this
                clear hp
                go_wp2
                go_roundw
                case rel => exact ⟨q + 1, by go_num, by omega, by omega, HP6.out⟩
                case measure => simp [intOf]; omega
              · have HP6 : Hid (Pg w1 P B (k + 1) m (cutF m g) (cutF m g) wr) := by
                  rw [zeroF_end (g := g) hmq (by omega) (fun j hj => HP.out.zero j hj)] at hp
                  exact hp.next
                clear hp
                go_wp2
                go_meet
                case rel => exact ⟨m, _, rfl, HP6.out⟩
          · have hwb : (what == 6) = false := by simpa using hw
            go_wp2_with fail
            · go_meet
              case rel => exact ⟨s, g, rfl, HP.out.next⟩
            · have hne : ¬ d.toList = [] := by assumption
              have hle : (!d.toList.isEmpty) = true ∧ (d.size : Int) ≤ 64 := by assumption
              have hd0 : 0 < d.size := by
                rw [← ptoList_length d]
                exact List.length_pos_iff.2 hne
              have hd1 : d.size ≤ 64 := by have := hle.2; omega
              have HD : Hid (0 < d.size ∧ d.size ≤ 64) := ⟨hd0, hd1⟩
              obtain ⟨p, hpe⟩ : ∃ p : Nat, N % 4294967296 % 36 = (p : Int) := ⟨(N % 4294967296 % 36).toNat, by omega⟩
              have hpl : p < 36 := by omega
              rw [hpe]
              refine (pg_write HP.out p hpl d hd0 hd1 (by have := HN2.out; omega)).mono ?_
              rintro e w5 ⟨rfl, hp5⟩
              have H5 := Lib.hid hp5
              clear hp5 c0 c6 c7 hpe hne hle hd0 hd1
              go_wp2_with fail
              have hwr : IntKind.i64.wrap ((p : Int) * 64) = (p : Int) * 64 := IntWalk.i64_in _ (by omega)
              obtain ⟨o, ho⟩ : ∃ o : Nat, p * 64 = o := ⟨_, rfl⟩
              have ho2 : (p : Int) * 64 = (o : Int) := by omega
              have hol : o ≤ 2240 := by omega
              have ho3 : (o : Int) ≤ 2304 := by omega
              have ho4 : ¬ 2304 = o := by omega
              rw [ho2] at hwr
              obtain ⟨c2, hc2⟩ : ∃ c2 : Nat, 2304 - o = c2 := ⟨_, rfl⟩
              have HSl : Hid ((2304 : Int) - (o : Int) = (c2 : Int)) := by show _ = _; omega
              rw [ho] at H5
              refine wp_region_front 9 (phi [isV (.slice (some ⟨B, 0, none⟩) 2304 2304), isV (.int .i64 p), isV (.int .i64 o), isV (.slice (some ⟨B, o, none⟩) c2 c2), isV (.slice (some ⟨ab, ao, none⟩) n c), isV (.int .i64 k), isV (.pointer (some ⟨ab, ao + k * 8, none⟩)), isV (.pointer (some ⟨ab, ao + k * 8 + 7, none⟩)), isV (.string d)]) (by kernel_rfl) (by kernel_rfl) (by kernel_rfl) ?_ ?_ ?_
              · refine stays_phi ?_
                simp only [List.forall_mem_cons]
                exact ⟨stays_V _, stays_V _, stays_V _, stays_V _, stays_V _, stays_V _, stays_V _, stays_V _, stays_V _, fun _ h => absurd h (by simp)⟩
              · refine ⟨?_, ?_, ?_, ?_, ?_, ?_, ?_, ?_, ?_, trivial⟩
                · refine op_mk rfl fun a W hB hp hq K hK => ?_
                  have e7 : a.tmps[7]?.getD undef = .slice (some ⟨B, 0, none⟩) 2304 2304 := hp 7 (by kernel_rfl)
                  clear hp hq
                  go_simp
                  exact hK _ _ (Below.refl _ _) rfl
                · refine op_mk rfl fun a W hB hp hq K hK => ?_
                  have e12 : a.tmps[12]?.getD undef = .int .i64 p := hp 12 (by kernel_rfl)
                  clear hp hq
                  go_simp
                  exact hK _ _ (Below.refl _ _) rfl
                · refine op_mk rfl fun a W hB hp hq K hK => ?_
                  have e110 : a.tmps[110]?.getD undef = .int .i64 p := hq 1 110 (by kernel_rfl) (by kernel_rfl)
                  clear hp hq
                  go_simp
                  exact hK _ _ (Below.refl _ _) rfl
                · refine op_mk rfl fun a W hB hp hq K hK => ?_
                  have e109 : a.tmps[109]?.getD undef = .slice (some ⟨B, 0, none⟩) 2304 2304 := hq 0 109 (by kernel_rfl) (by kernel_rfl)
                  have e111 : a.tmps[111]?.getD undef = .int .i64 o := hq 2 111 (by kernel_rfl) (by kernel_rfl)
                  clear hp hq
                  go_simp
                  exact hK _ _ (Below.refl _ _) rfl
                · refine op_mk rfl fun a W hB hp hq K hK => ?_
                  have e0 : a.tmps[0]?.getD undef = .slice (some ⟨ab, ao, none⟩) n c := hp 0 (by kernel_rfl)
                  clear hp hq
                  go_simp
                  exact hK _ _ (Below.refl _ _) rfl
                · refine op_mk rfl fun a W hB hp hq K hK => ?_
                  have e9 : a.tmps[9]?.getD undef = .int .i64 k := hp 9 (by kernel_rfl)
                  clear hp hq
                  go_simp
                  exact hK _ _ (Below.refl _ _) rfl
                · refine op_mk rfl fun a W hB hp hq K hK => ?_
                  have e113 : a.tmps[113]?.getD undef = .slice (some ⟨ab, ao, none⟩) n c := hq 4 113 (by kernel_rfl) (by kernel_rfl)
                  have e114 : a.tmps[114]?.getD undef = .int .i64 k := hq 5 114 (by kernel_rfl) (by kernel_rfl)
                  clear hp hq
                  go_simp
                  exact hK _ _ (Below.refl _ _) rfl
                · refine op_mk rfl fun a W hB hp hq K hK => ?_
                  have e115 : a.tmps[115]?.getD undef = .pointer (some ⟨ab, ao + k * 8, none⟩) := hq 6 115 (by kernel_rfl) (by kernel_rfl)
                  clear hp hq
                  go_simp
                  exact hK _ _ (Below.refl _ _) rfl
                · refine op_mk rfl fun a W hB hp hq K hK => ?_
                  have e116 : a.tmps[116]?.getD undef = .pointer (some ⟨ab, ao + k * 8 + 7, none⟩) := hq 7 116 (by kernel_rfl) (by kernel_rfl)
                  have cc := HC7.out W (ptrans H5.out.out.2.1 hB)
                  clear hp hq
                  go_simp
                  exact hK _ _ (Below.refl _ _) rfl
              · intro us W hB hv
                have u3' : us 3 = .slice (some ⟨B, o, none⟩) c2 c2 := hv 3 (by decide) (by kernel_rfl)
                have u8 : us 8 = .string d := hv 8 (by decide) (by kernel_rfl)
                clear hv
                have hpW := H5.out.below hB
                have hcp := (hpW.out.1.copy o d (by have := HD.out; omega) c2 hc2).1
                have hp7 := hpW.put o d.data.toList (by have := HD.out; have e : d.data.toList.length = d.size := by simp
                                                        omega)
                have H7 := Lib.hid hp7
                have c7 := HC7.out _ hp7.out.2.1
                generalize hW7 : W.setCells B o (d.data.toList.map byteV) = w7 at *
                clear hpW hp7 hB hW7
                refine (show wpAny Try.prog .any _ _ 1 _ _ W from ?_)
                refine wpAny_one (i := 9) (by kernel_rfl) (by rfl) rfl (fun K hK => ?_)
                simp only [List.take_succ_cons, List.take_zero, putAll, Act.put, List.setIfInBounds_toArray, List.set_cons_succ, List.set_cons_zero, Nat.zero_add, Nat.reduceAdd, u3', u8] at hK ⊢
                go_simp
                refine hK _ _ (wpAny_end (by kernel_rfl) ?_)
                clear hK hcp
                go_wp2_with fail
                all_goals go_meet
                all_goals exact ⟨max s (o + d.size), _, by show Value.int _ _ = _; congr 1; omega, H7.out⟩
            · go_meet
              case rel => exact ⟨s, g, rfl, HP.out.next⟩
        case rest =>
          obtain ⟨s', g', rfl, hp⟩ := hcut
          have HQ := Lib.hid hp
          clear hp c0 c6 c7
          go_wp2_with (go_at_call 10; (with_reducible refine (pg_stat HQ.out).mono ?_); rintro e w6 ⟨rfl, h6⟩; have H6 := Lib.hid (h6.below (below_a1 w6 (.cells #[.int .u32 2, .int .u8 1, .int .i64 1, .int .u32 s'] 38))); have hsl := h6.out.2.2; clear h6 HQ)
          go_loopw [15] (fun i W => ∃ p : Nat, i = .int .i64 p ∧ p ≤ 36 ∧ Pg w1 P B (k + 1) s' g' g' W) (fun i _ => 36 - (intOf i).toNat)
          case atStart => exact ⟨0, rfl, by omega, H6.out⟩
          case round =>
            obtain ⟨p, rfl, hp36, hp⟩ := hrel
            have H7 := Lib.hid hp
            clear hp H6
            by_cases hp0 : p = 36
            · subst hp0
              have hn150 := HN2.out
              go_wp2_with fail
              go_roundw
              case rel => exact ⟨k + 1, s', g', by go_num, rfl, by omega, H7.out⟩
              case measure => simp [intOf]; omega
            · have hpl : p < 36 := by omega
              obtain ⟨o, ho⟩ : ∃ o : Nat, p * 64 = o := ⟨_, rfl⟩
              have ho2 : (p : Int) * 64 = (o : Int) := by omega
              have ho5 : o ≤ 2240 := by omega
              obtain ⟨m, hm⟩ : ∃ m : Nat, min 64 (s' - p * 64) = m := ⟨_, rfl⟩
              obtain ⟨S, hS⟩ : ∃ S : ByteArray, (⟨((List.range m).map fun j => g' (p * 64 + j)).toArray⟩ : ByteArray) = S := ⟨_, rfl⟩
              have HRd := Lib.hid (pg_read H7.out p m hpl hm)
              rw [hS] at HRd
              rw [ho] at hm hS
              by_cases hA : s' < o
              · have hA1 : (s' : Int) < (o : Int) := by omega
                have hA2 : (s' : Int) < (s' : Int) + 64 := by omega
                have hA3 : (s' : Int) ≤ 2304 := by omega
                have hA4 : ¬ 2304 = s' := by omega
                obtain rfl : m = 0 := by omega
                have hA5 : s' - s' = 0 := by omega
                obtain ⟨c2, hc2⟩ : ∃ c2 : Nat, 2304 - s' = c2 := ⟨_, rfl⟩
                have HCv : Hid (∀ w7, Pg w1 P B (k + 1) s' g' g' w7 → (convert 32 9 (.slice (some ⟨B, s', none⟩) 0 c2)).run Try.prog w7 = .ok (.string S) w7) := fun w7 h7 => by
                  have := h7.out.1.text s' 0 c2 (by omega)
                  rw [this]
                  rw [← hS]; rfl
                clear ho hS hm
                go_wp2_with (go_at_call 11; (with_reducible refine HRd.out.mono ?_); rintro e w7 ⟨rfl, h7⟩; have hcv := HCv.out w7 h7; have H8 := Lib.hid h7; clear h7)
                go_roundw
                case rel => exact ⟨p + 1, by go_num, by omega, H8.out⟩
                case measure => simp [intOf]; omega
              · by_cases hB : s' < o + 64
                · have hA1 : ¬ ((s' : Int) < (o : Int)) := by omega
                  have hA2 : (s' : Int) < (o : Int) + 64 := by omega
                  have hA3 : (s' : Int) ≤ 2304 := by omega
                  have hA4 : ¬ 2304 = o := by omega
                  have hA6 : (o : Int) ≤ (s' : Int) := by omega
                  have hA5 : s' - o = m := by omega
                  obtain ⟨c2, hc2⟩ : ∃ c2 : Nat, 2304 - o = c2 := ⟨_, rfl⟩
                  have HCv : Hid (∀ w7, Pg w1 P B (k + 1) s' g' g' w7 → (convert 32 9 (.slice (some ⟨B, o, none⟩) m c2)).run Try.prog w7 = .ok (.string S) w7) := fun w7 h7 => by
                    have := h7.out.1.text o m c2 (by omega)
                    rw [this]
                    rw [← hS]
                  clear ho hS hm
                  go_wp2_with (go_at_call 11; (with_reducible refine HRd.out.mono ?_); rintro e w7 ⟨rfl, h7⟩; have hcv := HCv.out w7 h7; have H8 := Lib.hid h7; clear h7)
                  go_roundw
                  case rel => exact ⟨p + 1, by go_num, by omega, H8.out⟩
                  case measure => simp [intOf]; omega
                · have hA1 : ¬ ((s' : Int) < (o : Int)) := by omega
                  obtain ⟨o2, ho6⟩ : ∃ o2 : Nat, o + 64 = o2 := ⟨_, rfl⟩
                  have ho7 : (o : Int) + 64 = (o2 : Int) := by omega
                  have hA2 : ¬ ((s' : Int) < (o2 : Int)) := by omega
                  have hA3 : (o2 : Int) ≤ 2304 := by omega
                  have hA4 : ¬ 2304 = o := by omega
                  have hA6 : (o : Int) ≤ (o2 : Int) := by omega
                  have hA5 : o2 - o = m := by omega
                  obtain ⟨c2, hc2⟩ : ∃ c2 : Nat, 2304 - o = c2 := ⟨_, rfl⟩
                  have HCv : Hid (∀ w7, Pg w1 P B (k + 1) s' g' g' w7 → (convert 32 9 (.slice (some ⟨B, o, none⟩) m c2)).run Try.prog w7 = .ok (.string S) w7) := fun w7 h7 => by
                    have := h7.out.1.text o m c2 (by omega)
                    rw [this]
                    rw [← hS]
                  clear ho hS hm
                  go_wp2_with (go_at_call 11; (with_reducible refine HRd.out.mono ?_); rintro e w7 ⟨rfl, h7⟩; have hcv := HCv.out w7 h7; have H8 := Lib.hid h7; clear h7)
                  go_roundw
                  case rel => exact ⟨p + 1, by go_num, by omega, H8.out⟩
                  case measure => simp [intOf]; omega
end Go.Proofs.Ytpcjbfhgmcioaaa
