/- OplogTakes, walked. -/
import Derived.Test.YtehckjkihaalfaaGreatET
namespace Go.Proofs.YtehckjkihaalfaaGreat
open Go.RowKit Go.Maps

def stepL (l : List St) : List (Int × R) := l.map fun s => (s.core, s.r)
theorem takeR_next {st : List Int} {L : List R} {i : Nat} (h : i < L.length) : takeR st (L.take (i + 1)) = takeR st (L.take i) ++ (if hasI st (rAt L i).stamp then [] else [rAt L i]) := by
  rw [take_succ_rAt h]
  unfold takeR delL
  rw [List.filter_append]
  congr 1
  cases hh : hasI st (rAt L i).stamp <;> simp [hh]
/-- A row of the call's own grows: all that was there stays. -/
theorem below_own {w wr W : World} {base n : Nat} {v : Value} {xs : List Value} {o : Obj} (hbs : base ≤ w.heap.size) (hb : Below base w wr) (ho : wr.ownsRow base 34 12 v n xs) (hg : (wr.alloc o).grownBy W v.ownBlock) : Below base w W :=
  ⟨hg.os.trans hb.os, hg.tape.trans hb.tape, hg.output.trans hb.output, Nat.le_trans hb.size (Nat.le_trans (by rw [World.alloc_size']; omega) hg.size), fun q hq => by
    have hs := hb.size
    by_cases h : q < wr.heap.size
    · exact (hg.block q (by rw [World.alloc_size']; omega) (fun e => by have := (ho.lt q e.symm).1; omega)).trans ((heap_alloc_old _ _ h).trans (hb.block q hq))
    · omega⟩
theorem arg_apart {w cur : World} {As : Option Addr} {st : List Int} {P : Nat} {ls : Nat → Value} {x : PLog} (hU : U64At w As st) (hP : w.heap.size ≤ P) (hL : LogAt cur P ls x) : st ≠ [] → ∀ b o, As = some ⟨b, o, none⟩ → ¬ Fl P ls b := fun hne b o e hf => by
  obtain ⟨b', o', e', hb', _⟩ := hU hne
  rw [e] at e'
  simp only [Option.some.injEq, Addr.mk.injEq] at e'
  have h1 := (hL.fl hf).1
  omega
/-- What is merged behind a Take. -/
theorem t_mergeT (P : Nat) (ls : Nat → Value) (x : PLog) (st : List Int) (w : World) (h : LogAt w P ls (takeP x st)) (hx : LogOk x) {d : List (Nat × Nat)} (hd : IsMerge x d) {L : List R} (hL : d.map (recAt x) = L) {m : Nat} (hm : (takeR st L).length = m) :
    Calls Tryz.prog 14 #[.pointer (some ⟨P, 0, none⟩)] w fun e w' => ∃ A c, e = .returned (.slice A m c) ∧ w'.ownsRow w.heap.size 34 12 (.slice A m c) m (flatR (takeR st L)) ∧ Below w.heap.size w w' := by
  refine (t_merge P ls (takeP x st) w h (hx.take st)).mono ?_
  rintro e w' ⟨A, c, e', rfl, hm', ho, hb⟩
  have h1 := merge_take hd hm'
  rw [hL] at h1
  have h2 : e'.length = m := by rw [← hm, ← h1, List.length_map]
  rw [h1, h2] at ho
  exact ⟨A, c, by rw [h2], ho, hb⟩
theorem t_takeT (P : Nat) (ls : Nat → Value) (x : PLog) (w : World) (As : Option Addr) (ns cs : Nat) (st : List Int) (h : LogAt w P ls (takeP x st)) (hx : LogOk x) (hU : U64At w As st) (hns : st.length = ns) (hns2 : ns ≤ 9223372036854775807) (hF : st ≠ [] → ∀ b o, As = some ⟨b, o, none⟩ → ¬ Fl P ls b) :
    Calls Tryz.prog 16 #[.pointer (some ⟨P, 0, none⟩), .slice As ns cs] w fun e w' => e = .returned (.int .i64 0) ∧ ∃ ls', LogAt w' P ls' (takeP x st) ∧ Turn w w' (Fl P ls) (Fl P ls') := by
  have h0 := t_takeLog P ls (takeP x st) w h (hx.take st) As ns cs st hU hns hns2 hF
  rw [takeN_twice, takeP_twice] at h0
  exact h0
/-- A row of the call's own outlasts a turn of the log. -/
theorem row_turn {w w' : World} {base n : Nat} {v : Value} {xs : List Value} {F F' : Nat → Prop} (h : w.ownsRow base 34 12 v n xs) (ht : Turn w w' F F') (hF : ∀ q, v.ownBlock = some q → ¬ F q) : w'.ownsRow base 34 12 v n xs ∧ ∀ q, v.ownBlock = some q → ¬ F' q :=
  ⟨own_block h fun q hq => ht.block q (h.lt q hq).2 (hF q hq), fun q hq hf => (ht.foot q hf).elim (hF q hq) (fun h1 => by have := (h.lt q hq).2; omega)⟩
theorem Seen.take {x : PLog} {a : Int × R} (h : Seen x a) (st : List Int) : putE (takeP x st) a.1 a.2 = 2 := h.mono rfl fun _ => Int.le_refl _
theorem stepL_get {l : List St} {i : Nat} {s : St} (h : l[i]? = some s) : (stepL l)[i]? = some (s.core, s.r) := by
  unfold stepL
  rw [List.getElem?_map, h]
  rfl
set_option maxRecDepth 100000 in
set_option maxHeartbeats 16000000 in
theorem t_takes23 (A : Option Addr) (n c : Nat) (l : List St) (As : Option Addr) (ns cs : Nat) (st : List Int) (w : World) (hl : StepsAt w A l) (hn : l.length = n) (hnc : n ≤ c) (hn2 : n ≤ maxLen) (hU : U64At w As st) (hns : st.length = ns) (hnsc : ns ≤ cs) (hns2 : ns ≤ maxLen) :
    Calls Tryz.prog 3 #[.slice A n c, .slice As ns cs] w fun e w' => e = .returned (.bool true) ∧ Below w.heap.size w w' := by
  have hnew : ∀ W, Calls Tryz.prog 12 #[.int .i64 4, .int .i64 256] W fun e w' => e = .returned (.tuple #[.pointer (some ⟨W.heap.size, 0, none⟩), .int .i64 0]) ∧ LogAt w' W.heap.size (fun _ => .slice none 0 0) (newP 4 256) ∧ Below W.heap.size W w' := fun W => t_newLog 4 256 (by omega) W
  have HSt := Lib.hid hl
  have HN := Lib.hid hn
  have HUs := Lib.hid hU
  have HNS := Lib.hid hns
  clear hl hn hU hns
  go_enter Tryz.func3, Tryz.ntmps3
  by_cases h100 : 100 < ns
  · go_wp2_with (first
      | (go_at_call 10; (with_reducible refine (t_long23 A c n l _ HSt.out HN.out hnc hn2).mono ?_); rintro e w1 ⟨b, rfl, _, hb⟩; have HB := Lib.hid hb; clear hb; cases b)
      | (go_at_call 11; (with_reducible refine (t_alive23 _).mono ?_); rintro e w2 ⟨rfl, hb⟩; have HB2 := Lib.hid hb; clear hb))
    all_goals
      go_ret
      exact ⟨rfl, ptrans HB.out HB2.out⟩
  · go_wp2_with (first
      | (go_at_call 10; (with_reducible refine (t_long23 A c n l _ HSt.out HN.out hnc hn2).mono ?_); rintro e w1 ⟨b, rfl, hlg, hb⟩; have HB := Lib.hid hb; clear hb; cases b)
      | (go_at_call 11; (with_reducible refine (t_alive23 _).mono ?_); rintro e w2 ⟨rfl, hb⟩; have HB2 := Lib.hid hb; clear hb)
      | (go_at_call 12; (with_reducible refine (hnew _).mono ?_); rintro e w2 ⟨rfl, hL, hb⟩; have HL := Lib.hid hL; have HB2 := Lib.hid hb; clear hL hb))
    · obtain ⟨P, hP⟩ : ∃ P, P = w1.heap.size := ⟨_, rfl⟩
      rw [← hP] at HL ⊢
      have hPw : w.heap.size ≤ P := by rw [hP]; exact HB.out.size
      have hn80 : n ≤ 80 := by simpa using hlg
      have HBW : Hid (Below w.heap.size w w2) := ptrans HB.out HB2.out
      have HPW := Lib.hid hPw
      clear hlg hP HB HB2 hPw
      go_loopw [7] (fun y wr => ∃ i : Nat, y = .int .i64 (i : Int) ∧ i ≤ n ∧ Hid (∃ ls x, LogAt wr P ls x ∧ PutsL x (stepL l) i ∧ Below w.heap.size w wr)) (fun y _ => n - (intOf y).toNat)
      case atStart => exact ⟨0, rfl, Nat.zero_le _, _, _, HL.out, PutsL.start _, HBW.out⟩
      case round =>
        clear HBW HL
        obtain ⟨i, rfl, hi, HI⟩ := hrel
        obtain ⟨ls, x, hL, hpu, hbw⟩ := HI.out
        by_cases he : i < n
        · obtain ⟨s, hs⟩ : ∃ s, l[i]? = some s := ⟨l[i]'(by rw [HN.out]; omega), List.getElem?_eq_getElem _⟩
          obtain ⟨b, o, rfl, hbl, hc⟩ := HSt.out.at_ (fun e => by rw [e] at hs; simp at hs)
          obtain ⟨a0, a1, f6, a3⟩ := hc i s hs
          have HOK := Lib.hid (HSt.out.ok s (List.mem_of_getElem? hs))
          have HCL := Lib.hid (And.intro hbl (And.intro a1 f6))
          have HNX := Lib.hid (hpu.next (by omega) (stepL_get hs))
          have HLr := Lib.hid hL
          have HBr := Lib.hid hbw
          clear hc hs f6 hbl a0 a1 a3 HI hL hpu hbw
          go_upto_region 9 with fail
          refine wp_region_st (fun k W => Below w.heap.size w W ∧ (k = 0 → LogAt W P ls x) ∧ (k ≠ 0 → ∃ ls3, LogAt W P ls3 (putL x s.core s.r))) RelB (fun _ _ => True) [11] (phi [isV (.pointer (some ⟨P, 0, none⟩)), isV (.slice (some ⟨b, o, none⟩) n c), isV (.int .i64 (i : Int)), isV (.pointer (some ⟨b, o + i * 15, none⟩)), isV (.pointer (some ⟨b, o + i * 15 + 1, none⟩)), isV (.int .i64 s.core), isV (.slice (some ⟨b, o, none⟩) n c), isV (.int .i64 (i : Int)), isV (.pointer (some ⟨b, o + i * 15, none⟩)), isV (.pointer (some ⟨b, o + i * 15 + 2, none⟩)), isV (s.r.val), isV (.int .i64 (putE x s.core s.r))]) (by kernel_rfl) (by kernel_rfl) (by kernel_rfl) (by kernel_rfl) (by kernel_rfl) ⟨HBr.out.trans (Below.mono (below_drew _) HBr.out.size), fun _ => HLr.out.below (below_drew _), fun h => absurd rfl h⟩ (fun k W W' hj hb => ⟨hj.1.trans (Below.mono hb hj.1.size), fun h => (hj.2.1 h).below hb, fun h => by obtain ⟨ls3, h1⟩ := hj.2.2 h; exact ⟨ls3, h1.below hb⟩⟩) (fun _ _ _ => trivial) ?_ ?_ ?_
          · refine stays_phiR ?_
            simp only [List.forall_mem_cons]
            exact ⟨fun _ _ _ h _ => h, fun _ _ _ h _ => h, fun _ _ _ h _ => h, fun _ _ _ h _ => h, fun _ _ _ h _ => h, fun _ _ _ h _ => h, fun _ _ _ h _ => h, fun _ _ _ h _ => h, fun _ _ _ h _ => h, fun _ _ _ h _ => h, fun _ _ _ h _ => h, fun _ _ _ h _ => h, fun _ h => absurd h (by simp)⟩
          · refine ⟨?_, ?_, ?_, ?_, ?_, ?_, ?_, ?_, ?_, ?_, ?_, ?_, trivial⟩
            · refine opS_mk rfl rfl fun aa W2 nJ hJ hp hq K hK => ?_
              have e5 : aa.tmps[5]?.getD undef = .pointer (some ⟨P, 0, none⟩) := hp 5 (by kernel_rfl)
              clear hp hq
              clear hJ
              go_simp
              exact hK _ _ (RelB.refl _) rfl
            · refine opS_mk rfl rfl fun aa W2 nJ hJ hp hq K hK => ?_
              have e0 : aa.tmps[0]?.getD undef = .slice (some ⟨b, o, none⟩) n c := hp 0 (by kernel_rfl)
              clear hp hq
              clear hJ
              go_simp
              exact hK _ _ (RelB.refl _) rfl
            · refine opS_mk rfl rfl fun aa W2 nJ hJ hp hq K hK => ?_
              have e7 : aa.tmps[7]?.getD undef = .int .i64 (i : Int) := hp 7 (by kernel_rfl)
              clear hp hq
              clear hJ
              go_simp
              exact hK _ _ (RelB.refl _) rfl
            · refine opS_mk rfl rfl fun aa W2 nJ hJ hp hq K hK => ?_
              have e39 : aa.tmps[39]?.getD undef = .slice (some ⟨b, o, none⟩) n c := hq 1 _ (by kernel_rfl) rfl
              have e40 : aa.tmps[40]?.getD undef = .int .i64 (i : Int) := hq 2 _ (by kernel_rfl) rfl
              clear hp hq
              clear hJ
              go_simp
              exact hK _ _ (RelB.refl _) rfl
            · refine opS_mk rfl rfl fun aa W2 nJ hJ hp hq K hK => ?_
              have e41 : aa.tmps[41]?.getD undef = .pointer (some ⟨b, o + i * 15, none⟩) := hq 3 _ (by kernel_rfl) rfl
              clear hp hq
              clear hJ
              go_simp
              exact hK _ _ (RelB.refl _) rfl
            · refine opS_mk rfl rfl fun aa W2 nJ hJ hp hq K hK => ?_
              have e42 : aa.tmps[42]?.getD undef = .pointer (some ⟨b, o + i * 15 + 1, none⟩) := hq 4 _ (by kernel_rfl) rfl
              have hcw : ∀ q v, w.cell? ⟨b, q, none⟩ = some v → W2.cell? ⟨b, q, none⟩ = some v := fun q v h => (World.cell?_of_block (a := ⟨b, q, none⟩) (hJ.1.block b HCL.out.1)).trans h
              have cc := hcw _ _ HCL.out.2.1
              clear hp hq
              clear hJ
              go_simp
              exact hK _ _ (RelB.refl _) rfl
            · refine opS_mk rfl rfl fun aa W2 nJ hJ hp hq K hK => ?_
              have e0 : aa.tmps[0]?.getD undef = .slice (some ⟨b, o, none⟩) n c := hp 0 (by kernel_rfl)
              clear hp hq
              clear hJ
              go_simp
              exact hK _ _ (RelB.refl _) rfl
            · refine opS_mk rfl rfl fun aa W2 nJ hJ hp hq K hK => ?_
              have e7 : aa.tmps[7]?.getD undef = .int .i64 (i : Int) := hp 7 (by kernel_rfl)
              clear hp hq
              clear hJ
              go_simp
              exact hK _ _ (RelB.refl _) rfl
            · refine opS_mk rfl rfl fun aa W2 nJ hJ hp hq K hK => ?_
              have e44 : aa.tmps[44]?.getD undef = .slice (some ⟨b, o, none⟩) n c := hq 6 _ (by kernel_rfl) rfl
              have e45 : aa.tmps[45]?.getD undef = .int .i64 (i : Int) := hq 7 _ (by kernel_rfl) rfl
              clear hp hq
              clear hJ
              go_simp
              exact hK _ _ (RelB.refl _) rfl
            · refine opS_mk rfl rfl fun aa W2 nJ hJ hp hq K hK => ?_
              have e46 : aa.tmps[46]?.getD undef = .pointer (some ⟨b, o + i * 15, none⟩) := hq 8 _ (by kernel_rfl) rfl
              clear hp hq
              clear hJ
              go_simp
              exact hK _ _ (RelB.refl _) rfl
            · refine opS_mk rfl rfl fun aa W2 nJ hJ hp hq K hK => ?_
              have e47 : aa.tmps[47]?.getD undef = .pointer (some ⟨b, o + i * 15 + 2, none⟩) := hq 9 _ (by kernel_rfl) rfl
              have hcw : ∀ q v, w.cell? ⟨b, q, none⟩ = some v → W2.cell? ⟨b, q, none⟩ = some v := fun q v h => (World.cell?_of_block (a := ⟨b, q, none⟩) (hJ.1.block b HCL.out.1)).trans h
              have r0 := hcw _ _ (HCL.out.2.2 0 _ rfl)
              have r1 := hcw _ _ (HCL.out.2.2 1 _ rfl)
              have r2 := hcw _ _ (HCL.out.2.2 2 _ rfl)
              have r3 := hcw _ _ (HCL.out.2.2 3 _ rfl)
              have r4 := hcw _ _ (HCL.out.2.2 4 _ rfl)
              have r5 := hcw _ _ (HCL.out.2.2 5 _ rfl)
              have r6 := hcw _ _ (HCL.out.2.2 6 _ rfl)
              have r7 := hcw _ _ (HCL.out.2.2 7 _ rfl)
              have r8 := hcw _ _ (HCL.out.2.2 8 _ rfl)
              have r9 := hcw _ _ (HCL.out.2.2 9 _ rfl)
              have r10 := hcw _ _ (HCL.out.2.2 10 _ rfl)
              have r11 := hcw _ _ (HCL.out.2.2 11 _ rfl)
              simp only [Nat.reduceAdd] at r0 r1 r2 r3 r4 r5 r6 r7 r8 r9 r10 r11
              clear hp hq
              clear hJ
              go_simp
              exact hK _ _ (RelB.refl _) rfl
            · refine opS_at (m := 0) rfl rfl fun aa W2 hJ hp hq K hK => ?_
              have e38 : aa.tmps[38]?.getD undef = .pointer (some ⟨P, 0, none⟩) := hq 0 _ (by kernel_rfl) rfl
              have e43 : aa.tmps[43]?.getD undef = .int .i64 s.core := hq 5 _ (by kernel_rfl) rfl
              have e48 : aa.tmps[48]?.getD undef = s.r.val := hq 10 _ (by kernel_rfl) rfl
              have HJ := Lib.hid hJ
              unfold R.val at e48
              clear hJ
              clear hp hq
              go_simp
              refine (t_putLog P ls x s.core s.r W2 (HJ.out.2.1 rfl) HOK.out).mono ?_
              rintro e w3 ⟨rfl, ls3, hL3, ht, _⟩
              exact hK _ _ trivial ⟨HJ.out.1.trans (ht.below (fun b hf => Nat.le_trans HPW.out ((HJ.out.2.1 rfl).fl hf).1) HJ.out.1.size), fun h => absurd h (by decide), fun _ => ⟨ls3, hL3⟩⟩ rfl
          · intro vs W9 hJ9 hv9 _
            obtain ⟨ls3, hL3⟩ := hJ9.2.2 (by decide)
            have HL3 := Lib.hid hL3
            have HB3 := Lib.hid hJ9.1
            have v11 : vs 11 = .int .i64 (putE x s.core s.r) := hv9 11 _ rfl rfl
            clear hJ9 hv9 hL3
            simp only [List.take_succ_cons, List.take_zero, putAll, Act.put, List.setIfInBounds_toArray, List.set_cons_succ, List.set_cons_zero, Nat.zero_add, Nat.reduceAdd, v11]
            go_wp2
            go_roundw
            case rel => exact ⟨i + 1, rfl, he, ls3, _, HL3.out, HNX.out, HB3.out⟩
            case measure => simp only [intOf]; omega
        · obtain rfl : n = i := by omega
          have HX := Lib.hid hpu
          have HLr := Lib.hid hL
          have HBr := Lib.hid hbw
          clear HI hL hpu hbw he hi
          go_wp2_with (go_at_call 14; (with_reducible refine (t_merge P ls x _ HLr.out HX.out.ok).mono ?_); rintro e w4 ⟨A4, c4, done, rfl, hm, ho, hb⟩; have HM := Lib.hid hm; have HO := Lib.hid ho; have HB4 := Lib.hid hb; clear hm ho hb)
          have hN : (done.map (recAt x)).length = done.length := List.length_map _
          obtain ⟨N, hNd⟩ : ∃ N, N = done.length := ⟨_, rfl⟩
          have hN2 := valid_len HLr.out.cores8.2 HLr.out.len HM.out.sort (fun a ha => (HM.out.mem a).1 ha)
          rw [← hNd] at HO hN hN2 ⊢
          obtain ⟨L, hLd⟩ : ∃ L, L = done.map (recAt x) := ⟨_, rfl⟩
          rw [← hLd] at HO hN
          have HND := Lib.hid hNd
          have HLD := Lib.hid hLd
          have HNL := Lib.hid hN
          have HR4 := Lib.hid (recs_of_row HO.out hN (by rw [hLd]; exact merged_ok HLr.out HM.out))
          have HL4 := Lib.hid (HLr.out.below HB4.out)
          have HLx : Hid (x.cores ≤ 8) := HLr.out.cores8.2
          have HBw4 := Lib.hid (HBr.out.trans (HB4.out.mono HBr.out.size))
          have HRG := Lib.hid HBr.out.size
          clear hN hNd hLd HBr HLr HB4
          go_loopw [9, 10] (fun v y W => ∃ (i m : Nat) (A5 : Option Addr) (c5 : Nat), v = .slice A5 m c5 ∧ y = .int .i64 (i : Int) ∧ i ≤ N ∧ Hid ((takeR st (L.take i)).length = m ∧ W.ownsRow w4.heap.size 34 12 (.slice A5 m c5) m (flatR (takeR st (L.take i))) ∧ Below w4.heap.size w4 W)) (fun _ y _ => N - (intOf y).toNat)
          case atStart => exact ⟨0, 0, none, 0, rfl, rfl, Nat.zero_le _, rfl, World.ownsRow_nil _ _ _ _, Below.refl _ _⟩
          case round =>
            obtain ⟨i, m, A5, c5, rfl, rfl, hi, HI⟩ := hrel
            by_cases he : i < N
            · have hx := rAt_get2 (l := L) (k := i) (by rw [HNL.out]; exact he)
              have hnx := takeR_next (st := st) (L := L) (i := i) (by rw [HNL.out]; exact he)
              obtain ⟨r, hr⟩ : ∃ r, r = rAt L i := ⟨_, rfl⟩
              rw [← hr] at hx hnx
              obtain ⟨b, o, rfl, hbl, hc⟩ := HR4.out.at_ (fun e => by rw [e] at hx; simp at hx)
              have f6 := hc i r hx
              have HNX := Lib.hid hnx
              have hm6 : m ≤ 2048 := by rw [← HI.out.1]; exact Nat.le_trans (takeR_len _ _) (by rw [List.length_take]; omega)
              have HF6 := Lib.hid f6
              have HBL := Lib.hid hbl
              have HUr := Lib.hid (HUs.out.below (HBw4.out.trans (HI.out.2.2.mono HBw4.out.size)))
              have hns6 : ns ≤ 60000 := by omega
              have hcw : ∀ q v, w4.cell? ⟨b, q, none⟩ = some v → wr.cell? ⟨b, q, none⟩ = some v := fun q v h => (World.cell?_of_block (a := ⟨b, q, none⟩) (HI.out.2.2.block b HBL.out)).trans h
              have r0 := hcw _ _ (HF6.out 0 _ rfl)
              rw [Nat.add_zero] at r0
              clear hx hnx hr hc f6 hbl hcw
              by_cases hv : hasI st r.stamp = true
              · have HV := Lib.hid hv
                clear hv
                go_wp2_with (go_at_call 15; (with_reducible refine (t_has64 As ns cs st r.stamp _ HUr.out HNS.out hns6).mono ?_); rintro e w6 ⟨rfl, hb⟩; rw [HV.out]; have HB6 := Lib.hid (HI.out.2.2.trans (hb.mono HI.out.2.2.size)); have HO6 := Lib.hid (row_below HI.out.2.1 hb); clear hb)
                go_roundw
                case rel =>
                  refine ⟨i + 1, m, A5, c5, rfl, rfl, he, ?_, ?_, HB6.out⟩
                  · rw [HNX.out, if_pos HV.out, List.append_nil]
                    exact HI.out.1
                  · rw [HNX.out, if_pos HV.out, List.append_nil]
                    exact HO6.out
                case measure => simp only [intOf]; omega
              · have HV := Lib.hid hv
                have hvf : hasI st r.stamp = false := by simpa using hv
                clear hv
                go_wp2_with (first
                  | (go_at_call 15; (with_reducible refine (t_has64 As ns cs st r.stamp _ HUr.out HNS.out hns6).mono ?_); rintro e w6 ⟨rfl, hb⟩; rw [hvf]; have HB6 := Lib.hid (HI.out.2.2.trans (hb.mono HI.out.2.2.size)); have HO6 := Lib.hid (row_below HI.out.2.1 hb); clear hb; have hcw : ∀ q v, w4.cell? ⟨b, q, none⟩ = some v → w6.cell? ⟨b, q, none⟩ = some v := fun q v h => (World.cell?_of_block (a := ⟨b, q, none⟩) (HB6.out.block b HBL.out)).trans h; have q0 := hcw _ _ (HF6.out 0 _ rfl); have q1 := hcw _ _ (HF6.out 1 _ rfl); have q2 := hcw _ _ (HF6.out 2 _ rfl); have q3 := hcw _ _ (HF6.out 3 _ rfl); have q4 := hcw _ _ (HF6.out 4 _ rfl); have q5 := hcw _ _ (HF6.out 5 _ rfl); have q6 := hcw _ _ (HF6.out 6 _ rfl); have q7 := hcw _ _ (HF6.out 7 _ rfl); have q8 := hcw _ _ (HF6.out 8 _ rfl); have q9 := hcw _ _ (HF6.out 9 _ rfl); have q10 := hcw _ _ (HF6.out 10 _ rfl); have q11 := hcw _ _ (HF6.out 11 _ rfl); rw [Nat.add_zero] at q0; clear hcw)
                  | (at_builtin; refine wpList_append_rec2 rfl _ _ rfl w4.heap.size _ (takeR st (L.take i)) m (m + 1) HI.out.1 rfl rfl (HO6.out.alloc _) w6.heap.size r rfl (heap_alloc_new _ _) (by omega) (by rw [World.alloc_size']; have := HB6.out.size; omega) ?_; intro A2 d2 W7 g4 g5 g6; have H7 := Lib.hid (And.intro g4 (below_own (Nat.le_refl _) HB6.out HO6.out g5)); clear g4 g5 g6))
                go_roundw
                case rel =>
                  refine ⟨i + 1, m + 1, A2, d2, rfl, rfl, he, ?_, ?_, H7.out.2⟩
                  · rw [HNX.out, if_neg HV.out, List.length_append, HI.out.1]
                    rfl
                  · rw [HNX.out, if_neg HV.out]
                    exact H7.out.1
                case measure => simp only [intOf]; omega
            · have hm : (takeR st L).length = m := by
                have := HI.out.1
                rw [List.take_of_length_le (by rw [HNL.out]; omega)] at this
                exact this
              have hrow : wr.ownsRow w4.heap.size 34 12 (.slice A5 m c5) m (flatR (takeR st L)) := by
                have := HI.out.2.1
                rw [List.take_of_length_le (by rw [HNL.out]; omega)] at this
                exact this
              have hcnt := take_count (st := st) HX.out.ok HLx.out HM.out
              rw [← HLD.out, hm, ← HND.out] at hcnt
              obtain ⟨T, hT⟩ : ∃ T, T = takeN x st x.cores := ⟨_, rfl⟩
              rw [← hT] at hcnt
              subst hcnt
              obtain rfl : i = T + m := by omega
              have HMl := Lib.hid hm
              have HROW := Lib.hid hrow
              have HT := Lib.hid hT.symm
              have HBr := Lib.hid HI.out.2.2
              have HLr := Lib.hid (HL4.out.below HBr.out)
              have HUr := Lib.hid (HUs.out.below (HBw4.out.trans (HBr.out.mono HBw4.out.size)))
              have hns6 : ns ≤ 60000 := by omega
              have HNF : Hid (∀ q, (Value.slice A5 m c5).ownBlock = some q → ¬ Fl P ls q) := fun q hq hf => by
                have h1 := (HL4.out.fl hf).2
                have h2 := (hrow.lt q hq).1
                omega
              have HRL := Lib.hid hrow
              have HL := Lib.hid HLr.out
              have HB := Lib.hid (HBw4.out.trans (HBr.out.mono HBw4.out.size))
              have hrok : ∀ r ∈ takeR st L, RecOk r := fun r hr => HR4.out.ok r (takeR_mem hr)
              have HROK := Lib.hid hrok
              have hm6 : m ≤ 60000 := by omega
              clear hm hrow hT hrok HI HL4 he HROW HBr HLr HUr HBw4
              go_wp2_with (first
                | (go_at_call 16; (with_reducible refine (t_takeLog P ls x _ HL.out HX.out.ok As ns cs st (HUs.out.below HB.out) HNS.out (by omega) (arg_apart HUs.out HPW.out HL.out)).mono ?_); rintro e w8 ⟨rfl, ls8, hL8, ht8⟩; rw [HT.out]; have hr := row_turn HRL.out ht8 HNF.out; replace HRL := Lib.hid hr.1; replace HNF := Lib.hid hr.2; replace HB := Lib.hid (HB.out.trans (ht8.below (fun b hf => Nat.le_trans HPW.out (HL.out.fl hf).1) HB.out.size)); replace HL := Lib.hid hL8; clear hL8 ht8 hr)
                | (go_at_call 14; (with_reducible refine (t_mergeT P ls8 x st _ HL.out HX.out.ok HM.out HLD.out.symm HMl.out).mono ?_); rintro e w9 ⟨A9, c9, rfl, ho, hb⟩; have HR9 := Lib.hid (recs_of_row ho HMl.out HROK.out); replace HL := Lib.hid (HL.out.below hb); replace HRL := Lib.hid (row_below HRL.out hb); replace HB := Lib.hid (HB.out.trans (hb.mono HB.out.size)); clear ho hb)
                | (go_at_call 17; (with_reducible refine (t_same A9 A5 m m c9 c5 (takeR st L) (takeR st L) true (by simp) _ HR9.out HMl.out hm6 (recs_of_row HRL.out HMl.out HROK.out) HMl.out hm6).mono ?_); rintro e w10 ⟨rfl, hb⟩; replace HL := Lib.hid (HL.out.below hb); replace HRL := Lib.hid (row_below HRL.out hb); replace HB := Lib.hid (HB.out.trans (hb.mono HB.out.size)); clear hb)
                | (go_at_call 16; (with_reducible refine (t_takeT P ls8 x _ As ns cs st HL.out HX.out.ok (HUs.out.below HB.out) HNS.out (by omega) (arg_apart HUs.out HPW.out HL.out)).mono ?_); rintro e w11 ⟨rfl, lsB, hL8, ht8⟩; have hr := row_turn HRL.out ht8 HNF.out; replace HRL := Lib.hid hr.1; replace HNF := Lib.hid hr.2; replace HB := Lib.hid (HB.out.trans (ht8.below (fun b hf => Nat.le_trans HPW.out (HL.out.fl hf).1) HB.out.size)); replace HL := Lib.hid hL8; clear hL8 ht8 hr))
              have HSEEN : Hid (∀ (j : Nat) (s : St), l[j]? = some s → putE (takeP x st) s.core s.r = 2) := fun j s hs => by
                have hj : j < l.length := (List.getElem?_eq_some_iff.1 hs).1
                exact Seen.take (HX.out.seen j (by rw [HN.out] at hj; exact hj) _ (stepL_get hs)) st
              go_loopw [12] (fun y wr => ∃ i : Nat, y = .int .i64 (i : Int) ∧ i ≤ n ∧ Hid (Below w11.heap.size w11 wr)) (fun y _ => n - (intOf y).toNat)
              case atStart => exact ⟨0, rfl, Nat.zero_le _, Below.refl _ _⟩
              case round =>
                obtain ⟨i, rfl, hi, HI⟩ := hrel
                have HBr := Lib.hid (HB.out.trans (HI.out.mono HB.out.size))
                have HLr := Lib.hid (HL.out.below HI.out)
                by_cases he : i < n
                · obtain ⟨s, hs⟩ : ∃ s, l[i]? = some s := ⟨l[i]'(by rw [HN.out]; omega), List.getElem?_eq_getElem _⟩
                  obtain ⟨b, o, rfl, hbl, hc⟩ := HSt.out.at_ (fun e => by rw [e] at hs; simp at hs)
                  obtain ⟨a0, a1, f6, a3⟩ := hc i s hs
                  have HOK := Lib.hid (HSt.out.ok s (List.mem_of_getElem? hs))
                  have HCL := Lib.hid (And.intro hbl (And.intro a1 f6))
                  have HSN := Lib.hid (HSEEN.out i s hs)
                  clear hc hs f6 hbl a0 a1 a3
                  go_upto_region 23 with fail
                  refine wp_region_rel RelB (phi [isV (.pointer (some ⟨P, 0, none⟩)), isV (.slice (some ⟨b, o, none⟩) n c), isV (.int .i64 (i : Int)), isV (.pointer (some ⟨b, o + i * 15, none⟩)), isV (.pointer (some ⟨b, o + i * 15 + 1, none⟩)), isV (.int .i64 s.core), isV (.slice (some ⟨b, o, none⟩) n c), isV (.int .i64 (i : Int)), isV (.pointer (some ⟨b, o + i * 15, none⟩)), isV (.pointer (some ⟨b, o + i * 15 + 2, none⟩)), isV (s.r.val), isV (.int .i64 2), isV (.int .i64 2)]) (by kernel_rfl) (by kernel_rfl) (by kernel_rfl) (RelB.of (below_drew _)) (fun _ _ _ a b => a.trans b) ?_ ?_ ?_
                  · refine stays_phiR ?_
                    simp only [List.forall_mem_cons]
                    exact ⟨fun _ _ _ h _ => h, fun _ _ _ h _ => h, fun _ _ _ h _ => h, fun _ _ _ h _ => h, fun _ _ _ h _ => h, fun _ _ _ h _ => h, fun _ _ _ h _ => h, fun _ _ _ h _ => h, fun _ _ _ h _ => h, fun _ _ _ h _ => h, fun _ _ _ h _ => h, fun _ _ _ h _ => h, fun _ _ _ h _ => h, fun _ h => absurd h (by simp)⟩
                  · refine ⟨?_, ?_, ?_, ?_, ?_, ?_, ?_, ?_, ?_, ?_, ?_, ?_, ?_, trivial⟩
                    · refine opR_mk rfl fun aa W2 hB hp hq K hK => ?_
                      have e5 : aa.tmps[5]?.getD undef = .pointer (some ⟨P, 0, none⟩) := hp 5 (by kernel_rfl)
                      clear hp hq
                      go_simp
                      exact hK _ _ (RelB.refl _) rfl
                    · refine opR_mk rfl fun aa W2 hB hp hq K hK => ?_
                      have e0 : aa.tmps[0]?.getD undef = .slice (some ⟨b, o, none⟩) n c := hp 0 (by kernel_rfl)
                      clear hp hq
                      go_simp
                      exact hK _ _ (RelB.refl _) rfl
                    · refine opR_mk rfl fun aa W2 hB hp hq K hK => ?_
                      have e12 : aa.tmps[12]?.getD undef = .int .i64 (i : Int) := hp 12 (by kernel_rfl)
                      clear hp hq
                      go_simp
                      exact hK _ _ (RelB.refl _) rfl
                    · refine opR_mk rfl fun aa W2 hB hp hq K hK => ?_
                      have e103 : aa.tmps[103]?.getD undef = .slice (some ⟨b, o, none⟩) n c := hq 1 _ (by kernel_rfl) rfl
                      have e104 : aa.tmps[104]?.getD undef = .int .i64 (i : Int) := hq 2 _ (by kernel_rfl) rfl
                      clear hp hq
                      go_simp
                      exact hK _ _ (RelB.refl _) rfl
                    · refine opR_mk rfl fun aa W2 hB hp hq K hK => ?_
                      have e105 : aa.tmps[105]?.getD undef = .pointer (some ⟨b, o + i * 15, none⟩) := hq 3 _ (by kernel_rfl) rfl
                      clear hp hq
                      go_simp
                      exact hK _ _ (RelB.refl _) rfl
                    · refine opR_mk rfl fun aa W2 hB hp hq K hK => ?_
                      have e106 : aa.tmps[106]?.getD undef = .pointer (some ⟨b, o + i * 15 + 1, none⟩) := hq 4 _ (by kernel_rfl) rfl
                      have hcw : ∀ q v, w.cell? ⟨b, q, none⟩ = some v → W2.cell? ⟨b, q, none⟩ = some v := fun q v h => (World.cell?_of_block (a := ⟨b, q, none⟩) ((HBr.out.trans (Below.mono hB HBr.out.size)).block b HCL.out.1)).trans h
                      have cc := hcw _ _ HCL.out.2.1
                      clear hp hq
                      go_simp
                      exact hK _ _ (RelB.refl _) rfl
                    · refine opR_mk rfl fun aa W2 hB hp hq K hK => ?_
                      have e0 : aa.tmps[0]?.getD undef = .slice (some ⟨b, o, none⟩) n c := hp 0 (by kernel_rfl)
                      clear hp hq
                      go_simp
                      exact hK _ _ (RelB.refl _) rfl
                    · refine opR_mk rfl fun aa W2 hB hp hq K hK => ?_
                      have e12 : aa.tmps[12]?.getD undef = .int .i64 (i : Int) := hp 12 (by kernel_rfl)
                      clear hp hq
                      go_simp
                      exact hK _ _ (RelB.refl _) rfl
                    · refine opR_mk rfl fun aa W2 hB hp hq K hK => ?_
                      have e108 : aa.tmps[108]?.getD undef = .slice (some ⟨b, o, none⟩) n c := hq 6 _ (by kernel_rfl) rfl
                      have e109 : aa.tmps[109]?.getD undef = .int .i64 (i : Int) := hq 7 _ (by kernel_rfl) rfl
                      clear hp hq
                      go_simp
                      exact hK _ _ (RelB.refl _) rfl
                    · refine opR_mk rfl fun aa W2 hB hp hq K hK => ?_
                      have e110 : aa.tmps[110]?.getD undef = .pointer (some ⟨b, o + i * 15, none⟩) := hq 8 _ (by kernel_rfl) rfl
                      clear hp hq
                      go_simp
                      exact hK _ _ (RelB.refl _) rfl
                    · refine opR_mk rfl fun aa W2 hB hp hq K hK => ?_
                      have e111 : aa.tmps[111]?.getD undef = .pointer (some ⟨b, o + i * 15 + 2, none⟩) := hq 9 _ (by kernel_rfl) rfl
                      have hcw : ∀ q v, w.cell? ⟨b, q, none⟩ = some v → W2.cell? ⟨b, q, none⟩ = some v := fun q v h => (World.cell?_of_block (a := ⟨b, q, none⟩) ((HBr.out.trans (Below.mono hB HBr.out.size)).block b HCL.out.1)).trans h
                      have r0 := hcw _ _ (HCL.out.2.2 0 _ rfl)
                      have r1 := hcw _ _ (HCL.out.2.2 1 _ rfl)
                      have r2 := hcw _ _ (HCL.out.2.2 2 _ rfl)
                      have r3 := hcw _ _ (HCL.out.2.2 3 _ rfl)
                      have r4 := hcw _ _ (HCL.out.2.2 4 _ rfl)
                      have r5 := hcw _ _ (HCL.out.2.2 5 _ rfl)
                      have r6 := hcw _ _ (HCL.out.2.2 6 _ rfl)
                      have r7 := hcw _ _ (HCL.out.2.2 7 _ rfl)
                      have r8 := hcw _ _ (HCL.out.2.2 8 _ rfl)
                      have r9 := hcw _ _ (HCL.out.2.2 9 _ rfl)
                      have r10 := hcw _ _ (HCL.out.2.2 10 _ rfl)
                      have r11 := hcw _ _ (HCL.out.2.2 11 _ rfl)
                      simp only [Nat.reduceAdd] at r0 r1 r2 r3 r4 r5 r6 r7 r8 r9 r10 r11
                      clear hp hq
                      go_simp
                      exact hK _ _ (RelB.refl _) rfl
                    · refine opR_mk rfl fun aa W2 hB hp hq K hK => ?_
                      have e102 : aa.tmps[102]?.getD undef = .pointer (some ⟨P, 0, none⟩) := hq 0 _ (by kernel_rfl) rfl
                      have e107 : aa.tmps[107]?.getD undef = .int .i64 s.core := hq 5 _ (by kernel_rfl) rfl
                      have e112 : aa.tmps[112]?.getD undef = s.r.val := hq 10 _ (by kernel_rfl) rfl
                      unfold R.val at e112
                      clear hp hq
                      go_simp
                      refine (t_putLog P lsB (takeP x st) s.core s.r W2 (HLr.out.below hB) HOK.out).mono ?_
                      rintro e w3 ⟨rfl, _, _, _, hb⟩
                      exact hK _ _ (RelB.of (hb (by rw [HSN.out]; decide))) (by show Value.int .i64 (putE (takeP x st) s.core s.r) = _; rw [HSN.out])
                    · refine opR_mk rfl fun aa W2 hB hp hq K hK => ?_
                      have e113 : aa.tmps[113]?.getD undef = .int .i64 2 := hq 11 _ (by kernel_rfl) rfl
                      clear hp hq
                      go_simp
                      exact hK _ _ (RelB.refl _) rfl
                  · intro vs W3 hB3 hv3 _
                    have HB3 := Lib.hid (ptrans HI.out hB3)
                    have v11 : vs 11 = .int .i64 2 := hv3 11 _ rfl rfl
                    have v12 : vs 12 = .int .i64 2 := hv3 12 _ rfl rfl
                    clear hB3 hv3
                    simp only [List.take_succ_cons, List.take_zero, putAll, Act.put, List.setIfInBounds_toArray, List.set_cons_succ, List.set_cons_zero, Nat.zero_add, Nat.reduceAdd, v11, v12]
                    go_wp2
                    go_roundw
                    case rel => exact ⟨i + 1, rfl, he, HB3.out⟩
                    case measure => simp only [intOf]; omega
                · have hrec := recs_of_row (row_below HRL.out HI.out) HMl.out HROK.out
                  have HREC := Lib.hid hrec
                  clear hrec
                  obtain rfl : n = i := by omega
                  go_wp2_with (first
                    | (go_at_call 14; (with_reducible refine (t_mergeT P lsB x st _ HLr.out HX.out.ok HM.out HLD.out.symm HMl.out).mono ?_); rintro e w12 ⟨A12, c12, rfl, ho, hb⟩; have HR12 := Lib.hid (recs_of_row ho HMl.out HROK.out); replace HREC := Lib.hid (HREC.out.below hb); replace HBr := Lib.hid (HBr.out.trans (hb.mono HBr.out.size)); clear ho hb)
                    | (go_at_call 17; (with_reducible refine (t_same A12 A5 m m c12 c5 (takeR st L) (takeR st L) true (by simp) _ HR12.out HMl.out hm6 HREC.out HMl.out hm6).mono ?_); rintro e w13 ⟨rfl, hb⟩; replace HBr := Lib.hid (HBr.out.trans (hb.mono HBr.out.size)); clear hb)
                    | (go_at_call 11; (with_reducible refine (t_alive23 _).mono ?_); rintro e w14 ⟨rfl, hb⟩; replace HBr := Lib.hid (HBr.out.trans (hb.mono HBr.out.size)); clear hb))
                  go_ret
                  exact ⟨rfl, HBr.out⟩
    · go_ret
      exact ⟨rfl, ptrans HB.out HB2.out⟩
end Go.Proofs.YtehckjkihaalfaaGreat
