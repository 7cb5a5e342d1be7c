/- OplogPlays, walked. -/
import Derived.Test.YtehckjkihaalfaaGreatFG
namespace Go.Proofs.YtehckjkihaalfaaGreat
open Go.RowKit Go.Maps

def jA (x x' : PLog) : Nat → PLog
  | 0 => x
  | _ + 1 => x'
def jB (x x' : PLog) : Nat → PLog
  | 0 => x
  | 1 => x
  | _ + 2 => x'
abbrev stepC (a : Int) (s : St) : Array Value := #[.int .i64 a, .int .i64 s.core, .int .u64 s.r.stamp, .int .u8 s.r.act, .int .u32 s.r.dir, .string s.r.name, .int .u32 s.r.ino, .int .u8 s.r.kind, .int .u32 s.r.dir2, .string s.r.name2, .int .u32 s.r.old, .int .u32 s.r.size, .int .i64 s.r.page, .string s.r.data, .slice s.sA s.sn s.sc]
theorem putL_log {x : PLog} (hx : LogOk x) {w W : World} {P Q : Nat} {y : PLog} (h : Bo w W P Q x y) (k : Int) (r : R) : LogOk (putL x k r) := by
  obtain ⟨ls, D, G, h⟩ := h
  exact hx.put h.log.cores8.2 k r
set_option maxRecDepth 100000 in
set_option maxHeartbeats 16000000 in
theorem t_plays23 (cores most core stamp : Int) (A : Option Addr) (n c : Nat) (l : List St) (w : World) (hl : StepsAt w A l) (hn : l.length = n) (hnc : n ≤ c) (hn2 : n ≤ maxLen) (hsm : ∀ s ∈ l, s.sn ≤ 17592186044416) :
    Calls Tryz.prog 5 #[.int .i64 cores, .int .i64 most, .slice A n c, .int .i64 core, .int .u64 stamp] w fun e w' => e = .returned (.bool true) ∧ Below w.heap.size w w' := by
  have HSt := Lib.hid hl
  have HN := Lib.hid hn
  have HSM := Lib.hid hsm
  clear hl hn hsm
  go_enter Tryz.func5, Tryz.ntmps5
  by_cases hgood : 1 ≤ cores ∧ cores ≤ 8 ∧ 1 ≤ most ∧ most ≤ 256
  · obtain ⟨a, ha⟩ : ∃ a : Nat, cores = (a : Int) := ⟨cores.toNat, by omega⟩
    obtain ⟨m, hm⟩ : ∃ m : Nat, most = (m : Int) := ⟨most.toNat, by omega⟩
    subst ha hm
    have hnew : ∀ W, Calls Tryz.prog 12 #[.int .i64 (a : Int), .int .i64 (m : Int)] W fun e w' => e = .returned (.tuple #[.pointer (some ⟨W.heap.size, 0, none⟩), .int .i64 0]) ∧ LogAt w' W.heap.size (fun _ => .slice none 0 0) (newP a m) ∧ Below W.heap.size W w' := fun W => t_newLog a m (by omega) W
    have HNEW := Lib.hid hnew
    have HG := Lib.hid hgood
    clear hnew hgood
    go_wp2_with (first
      | (go_at_call 10; (with_reducible refine (t_long23s A c n l _ HSt.out HN.out hnc hn2 HSM.out).mono ?_); rintro e w1 ⟨b, rfl, hlg, hb⟩; have HB := Lib.hid hb; clear hb; cases b)
      | (go_at_call 11; (with_reducible refine (t_alive23 _).mono ?_); rintro e w2 ⟨rfl, hb⟩; have HB2 := Lib.hid hb; clear hb)
      | (go_at_call 22; (with_reducible refine (t_nothing23 _).mono ?_); rintro e w2 ⟨rfl, hb⟩; have HB2 := Lib.hid hb; clear hb)
      | (go_at_call 12; (with_reducible refine (HNEW.out _).mono ?_); rintro e w3 ⟨rfl, hL, hb⟩; have HL := Lib.hid hL; have HB3 := Lib.hid hb; clear hL hb)
      | (go_at_call 23; (with_reducible refine (t_doc23May _ _ true (decide_eq_true HG.out) _).mono ?_); rintro e w4 ⟨rfl, rfl⟩)
      | (go_at_call 24; (with_reducible refine (t_docNew a m (by have := HG.out; omega) (by have := HG.out; omega) _).mono ?_); rintro e w4 ⟨Q, rfl, D, G, hD, hG, hb⟩; have HD := Lib.hid hD; have HGl := Lib.hid hG; have HB4 := Lib.hid hb; clear hD hG hb))
    · obtain ⟨P, hP⟩ : ∃ P, P = w2.heap.size := ⟨_, rfl⟩
      rw [← hP] at HL ⊢
      have hw2 : Below w.heap.size w w2 := ptrans HB.out HB2.out
      have hw3 : Below w.heap.size w w3 := ptrans hw2 HB3.out
      have hw4 : Below w.heap.size w w4 := ptrans hw3 HB4.out
      have hstart : Both w w4 P Q (fun _ => .slice none 0 0) D G (newP a m) (newP a m) := ⟨HL.out.below HB4.out, HD.out, fun b hg hf => by have h1 := HGl.out b hg; have h2 := (HL.out.fl hf).2; omega, by rw [hP]; exact hw2.size, fun b hg => Nat.le_trans hw3.size (HGl.out b hg), hw4⟩
      have HS0 : Hid (Bo w w4 P Q (newP a m) (newP a m)) := ⟨_, _, _, hstart⟩
      have HLG := Lib.hid (hlg trivial)
      clear hlg hP hw2 hw3 hw4 hstart HL HD HGl HB HB2 HB3 HB4
      go_loopw [11, 14] (fun u v wr => ∃ (P : Nat) (i : Nat), u = .pointer (some ⟨P, 0, none⟩) ∧ v = .int .i64 (i : Int) ∧ i ≤ n ∧ Hid (∃ x, Bo w wr P Q x x ∧ LogOk x)) (fun _ v _ => n - (intOf v).toNat)
      case atStart => exact ⟨P, 0, rfl, rfl, Nat.zero_le _, _, HS0.out, LogOk.new _ _⟩
      case round =>
        clear HS0
        obtain ⟨P2, i, rfl, rfl, hi, HI⟩ := hrel
        obtain ⟨x, hbo, hx⟩ := HI.out
        have hn80 : n ≤ 80 := HLG.out.1
        by_cases he : i < n
        · obtain ⟨s, hs⟩ : ∃ s, l[i]? = some s := ⟨l[i]'(by rw [HN.out]; omega), List.getElem?_eq_getElem _⟩
          obtain ⟨b, o, rfl, hbl, hc⟩ := HSt.out.at_ (fun e => by rw [e] at hs; simp at hs)
          obtain ⟨a0, a1, f6, a3⟩ := hc i s hs
          have hmem := List.mem_of_getElem? hs
          have HOK := Lib.hid (HSt.out.ok s hmem)
          have HST := Lib.hid (HSt.out.st s hmem)
          have HLT := Lib.hid (HSt.out.lt s hmem)
          have HS5 := Lib.hid (HLG.out.2 s hmem)
          have hcw : ∀ q v, w.cell? ⟨b, q, none⟩ = some v → wr.cell? ⟨b, q, none⟩ = some v := fun q v h => (World.cell?_of_block (a := ⟨b, q, none⟩) (hbo.bel.block b hbl)).trans h
          have r0 := hcw _ _ a0
          have r1 := hcw _ _ a1
          have r2 := hcw _ _ (f6 0 _ rfl)
          have r3 := hcw _ _ (f6 1 _ rfl)
          have r4 := hcw _ _ (f6 2 _ rfl)
          have r5 := hcw _ _ (f6 3 _ rfl)
          have r6 := hcw _ _ (f6 4 _ rfl)
          have r7 := hcw _ _ (f6 5 _ rfl)
          have r8 := hcw _ _ (f6 6 _ rfl)
          have r9 := hcw _ _ (f6 7 _ rfl)
          have r10 := hcw _ _ (f6 8 _ rfl)
          have r11 := hcw _ _ (f6 9 _ rfl)
          have r12 := hcw _ _ (f6 10 _ rfl)
          have r13 := hcw _ _ (f6 11 _ rfl)
          have r14 := hcw _ _ a3
          simp only [Nat.reduceAdd] at r2 r3 r4 r5 r6 r7 r8 r9 r10 r11 r12 r13
          have HX := Lib.hid hx
          have HBo := Lib.hid hbo
          clear hc hs f6 hbl a0 a1 a3 hmem hcw HI hbo hx
          by_cases hd0 : s.act = 0
          · rw [hd0] at r0
            clear hd0
            have HBB : Hid (BoB w (wr.alloc (.cells (stepC 0 s) 36)) P2 Q x x wr.heap.size (stepC 0 s) 36) := HBo.out.alloc _ _
            clear HBo
            go_wp2
            refine wp_region_st (fun k W => BoB w W P2 Q (jA x (putL x s.core s.r) k) (jB x (putL x s.core s.r) k) wr.heap.size (stepC 0 s) 36) RelB (fun _ _ => True) [5, 11] (phi [isV (.pointer (some ⟨P2, 0, none⟩)), isV (.pointer (some ⟨wr.heap.size, 1, none⟩)), isV (.int .i64 s.core), isV (.pointer (some ⟨wr.heap.size, 2, none⟩)), isV (s.r.val), isV (.int .i64 (putE x s.core s.r)), isV (.pointer (some ⟨Q, 0, none⟩)), isV (.pointer (some ⟨wr.heap.size, 1, none⟩)), isV (.int .i64 s.core), isV (.pointer (some ⟨wr.heap.size, 2, none⟩)), isV (s.r.val), isV (.int .i64 (putE x s.core s.r)), isV (.bool true), isV (.bool true)]) (by kernel_rfl) (by kernel_rfl) (by kernel_rfl) (by kernel_rfl) (by kernel_rfl) (HBB.out.below (below_drew _)) (fun k W W' hj hb => BoB.below hj hb) (fun _ _ _ => trivial) ?_ ?_ ?_
            · refine stays_phiR ?_
              simp only [List.forall_mem_cons]
              exact ⟨fun _ _ _ h _ => h, fun _ _ _ h _ => h, fun _ _ _ h _ => h, fun _ _ _ h _ => h, fun _ _ _ h _ => h, fun _ _ _ h _ => h, fun _ _ _ h _ => h, fun _ _ _ h _ => h, fun _ _ _ h _ => h, fun _ _ _ h _ => h, fun _ _ _ h _ => h, fun _ _ _ h _ => h, fun _ _ _ h _ => h, fun _ _ _ h _ => h, fun _ h => absurd h (by simp)⟩
            · refine ⟨?_, ?_, ?_, ?_, ?_, ?_, ?_, ?_, ?_, ?_, ?_, ?_, ?_, ?_, trivial⟩
              · refine opS_mk rfl rfl fun aa W2 nJ hJ hp hq K hK => ?_
                have e11 : aa.tmps[11]?.getD undef = .pointer (some ⟨P2, 0, none⟩) := hp 11 (by kernel_rfl)
                clear hp hq
                clear hJ
                go_simp
                exact hK _ _ (RelB.refl _) rfl
              · refine opS_mk rfl rfl fun aa W2 nJ hJ hp hq K hK => ?_
                have e15 : aa.tmps[15]?.getD undef = .pointer (some ⟨wr.heap.size, 0, none⟩) := hp 15 (by kernel_rfl)
                clear hp hq
                clear hJ
                go_simp
                exact hK _ _ (RelB.refl _) rfl
              · refine opS_mk rfl rfl fun aa W2 nJ hJ hp hq K hK => ?_
                have e66 : aa.tmps[66]?.getD undef = .pointer (some ⟨wr.heap.size, 1, none⟩) := hq 1 _ (by kernel_rfl) rfl
                have cc := hJ.cell (j := 1) (v := .int .i64 s.core) rfl
                clear hp hq
                clear hJ
                go_simp
                exact hK _ _ (RelB.refl _) rfl
              · refine opS_mk rfl rfl fun aa W2 nJ hJ hp hq K hK => ?_
                have e15 : aa.tmps[15]?.getD undef = .pointer (some ⟨wr.heap.size, 0, none⟩) := hp 15 (by kernel_rfl)
                clear hp hq
                clear hJ
                go_simp
                exact hK _ _ (RelB.refl _) rfl
              · refine opS_mk rfl rfl fun aa W2 nJ hJ hp hq K hK => ?_
                have e68 : aa.tmps[68]?.getD undef = .pointer (some ⟨wr.heap.size, 2, none⟩) := hq 3 _ (by kernel_rfl) rfl
                have r2 := hJ.cell (j := 2) rfl
                have r3 := hJ.cell (j := 3) rfl
                have r4 := hJ.cell (j := 4) rfl
                have r5 := hJ.cell (j := 5) rfl
                have r6 := hJ.cell (j := 6) rfl
                have r7 := hJ.cell (j := 7) rfl
                have r8 := hJ.cell (j := 8) rfl
                have r9 := hJ.cell (j := 9) rfl
                have r10 := hJ.cell (j := 10) rfl
                have r11 := hJ.cell (j := 11) rfl
                have r12 := hJ.cell (j := 12) rfl
                have r13 := hJ.cell (j := 13) rfl
                clear hp hq
                clear hJ
                go_simp
                exact hK _ _ (RelB.refl _) rfl
              · refine opS_at (m := 0) rfl rfl fun aa W2 hJ hp hq K hK => ?_
                have e65 : aa.tmps[65]?.getD undef = .pointer (some ⟨P2, 0, none⟩) := hq 0 _ (by kernel_rfl) rfl
                have e67 : aa.tmps[67]?.getD undef = .int .i64 s.core := hq 2 _ (by kernel_rfl) rfl
                have e69 : aa.tmps[69]?.getD undef = s.r.val := hq 4 _ (by kernel_rfl) rfl
                have HJ := Lib.hid hJ
                unfold R.val at e69
                clear hJ
                clear hp hq
                go_simp
                refine (t_putX P2 Q x x s.core s.r w W2 HJ.out HOK.out).mono ?_
                rintro e w3 ⟨rfl, h3⟩
                exact hK _ _ trivial h3 rfl
              · refine opS_mk rfl rfl fun aa W2 nJ hJ hp hq K hK => ?_
                have e13 : aa.tmps[13]?.getD undef = .pointer (some ⟨Q, 0, none⟩) := hp 13 (by kernel_rfl)
                clear hp hq
                clear hJ
                go_simp
                exact hK _ _ (RelB.refl _) rfl
              · refine opS_mk rfl rfl fun aa W2 nJ hJ hp hq K hK => ?_
                have e15 : aa.tmps[15]?.getD undef = .pointer (some ⟨wr.heap.size, 0, none⟩) := hp 15 (by kernel_rfl)
                clear hp hq
                clear hJ
                go_simp
                exact hK _ _ (RelB.refl _) rfl
              · refine opS_mk rfl rfl fun aa W2 nJ hJ hp hq K hK => ?_
                have e72 : aa.tmps[72]?.getD undef = .pointer (some ⟨wr.heap.size, 1, none⟩) := hq 7 _ (by kernel_rfl) rfl
                have cc := hJ.cell (j := 1) (v := .int .i64 s.core) rfl
                clear hp hq
                clear hJ
                go_simp
                exact hK _ _ (RelB.refl _) rfl
              · refine opS_mk rfl rfl fun aa W2 nJ hJ hp hq K hK => ?_
                have e15 : aa.tmps[15]?.getD undef = .pointer (some ⟨wr.heap.size, 0, none⟩) := hp 15 (by kernel_rfl)
                clear hp hq
                clear hJ
                go_simp
                exact hK _ _ (RelB.refl _) rfl
              · refine opS_mk rfl rfl fun aa W2 nJ hJ hp hq K hK => ?_
                have e74 : aa.tmps[74]?.getD undef = .pointer (some ⟨wr.heap.size, 2, none⟩) := hq 9 _ (by kernel_rfl) rfl
                have r2 := hJ.cell (j := 2) rfl
                have r3 := hJ.cell (j := 3) rfl
                have r4 := hJ.cell (j := 4) rfl
                have r5 := hJ.cell (j := 5) rfl
                have r6 := hJ.cell (j := 6) rfl
                have r7 := hJ.cell (j := 7) rfl
                have r8 := hJ.cell (j := 8) rfl
                have r9 := hJ.cell (j := 9) rfl
                have r10 := hJ.cell (j := 10) rfl
                have r11 := hJ.cell (j := 11) rfl
                have r12 := hJ.cell (j := 12) rfl
                have r13 := hJ.cell (j := 13) rfl
                clear hp hq
                clear hJ
                go_simp
                exact hK _ _ (RelB.refl _) rfl
              · refine opS_at (m := 1) rfl rfl fun aa W2 hJ hp hq K hK => ?_
                have e71 : aa.tmps[71]?.getD undef = .pointer (some ⟨Q, 0, none⟩) := hq 6 _ (by kernel_rfl) rfl
                have e73 : aa.tmps[73]?.getD undef = .int .i64 s.core := hq 8 _ (by kernel_rfl) rfl
                have e75 : aa.tmps[75]?.getD undef = s.r.val := hq 10 _ (by kernel_rfl) rfl
                have HJ := Lib.hid hJ
                unfold R.val at e75
                clear hJ
                clear hp hq
                go_simp
                refine (t_putZ P2 Q (putL x s.core s.r) x s.core s.r w W2 HJ.out HOK.out).mono ?_
                rintro e w3 ⟨rfl, h3⟩
                exact hK _ _ trivial h3 rfl
              · refine opS_mk rfl rfl fun aa W2 nJ hJ hp hq K hK => ?_
                have e70 : aa.tmps[70]?.getD undef = .int .i64 (putE x s.core s.r) := hq 5 _ (by kernel_rfl) rfl
                have e76 : aa.tmps[76]?.getD undef = .int .i64 (putE x s.core s.r) := hq 11 _ (by kernel_rfl) rfl
                clear hp hq
                clear hJ
                go_simp
                exact hK _ _ (RelB.refl _) (by first | rfl | exact congrArg Value.bool (decide_eq_true rfl))
              · refine opS_mk rfl rfl fun aa W2 nJ hJ hp hq K hK => ?_
                have e77 : aa.tmps[77]?.getD undef = .bool true := hq 12 _ (by kernel_rfl) rfl
                clear hp hq
                clear hJ
                go_simp
                exact hK _ _ (RelB.refl _) rfl
            · intro vs W9 hJ9 hv9 _
              have HB9 : Hid (BoB w W9 P2 Q (putL x s.core s.r) (putL x s.core s.r) wr.heap.size (stepC 0 s) 36) := hJ9
              have HXN := Lib.hid (putL_log HX.out HBB.out.bo s.core s.r)
              have v13 : vs 13 = .bool true := hv9 13 _ rfl rfl
              clear hJ9 hv9
              simp only [List.take_succ_cons, List.take_zero, putAll, Act.put, List.setIfInBounds_toArray, List.set_cons_succ, List.set_cons_zero, Nat.zero_add, Nat.reduceAdd, v13]
              have cB := HB9.out.cell (j := 1) (v := .int .i64 s.core) rfl
              obtain ⟨N, hN⟩ : ∃ N, (uptoR stamp (docL (putL x s.core s.r))).length = N := ⟨_, rfl⟩
              have hN2 : N ≤ 2048 := by rw [← hN]; exact HB9.out.bo.docLen stamp HXN.out
              have HNU := Lib.hid hN
              clear hN
              go_wp2_with (first
                | (go_at_call 29; (with_reducible refine (t_sameX P2 Q ((putL x s.core s.r)) _ w _ HB9.out.bo HXN.out).mono ?_); rintro e w8 ⟨rfl, hb⟩; replace HB9 := Lib.hid (HB9.out.below hb); have cB := HB9.out.cell (j := 1) (v := .int .i64 s.core) rfl; clear hb)
                | (go_at_call 18; (with_reducible refine (t_uptoX P2 Q ((putL x s.core s.r)) ((putL x s.core s.r)) stamp w _ HB9.out.bo HXN.out HNU.out).mono ?_); rintro e w8 ⟨A8, c8, rfl, hr, hb⟩; replace HB9 := Lib.hid (HB9.out.below hb); have HU8 := Lib.hid hr; clear hr hb)
                | (go_at_call 30; (with_reducible refine (t_uptoY P2 Q ((putL x s.core s.r)) ((putL x s.core s.r)) stamp w _ HB9.out.bo HXN.out HB9.out.bo.docOk HNU.out).mono ?_); rintro e w9 ⟨A9, c9, rfl, hr, hb⟩; replace HB9 := Lib.hid (HB9.out.below hb); replace HU8 := Lib.hid (HU8.out.below hb); have HU9 := Lib.hid hr; clear hr hb)
                | (go_at_call 17; (with_reducible refine (t_same A8 A9 N N c8 c9 (uptoR stamp (docL (putL x s.core s.r))) (uptoR stamp (docL (putL x s.core s.r))) true (by simp) _ HU8.out HNU.out (by omega) HU9.out HNU.out (by omega)).mono ?_); rintro e w8 ⟨rfl, hb⟩; replace HB9 := Lib.hid (HB9.out.below hb); clear hb))
              go_roundw
              case rel => exact ⟨P2, i + 1, rfl, rfl, he, _, HB9.out.bo, HXN.out⟩
              case measure => simp only [intOf]; omega
          · by_cases hd1 : s.act = 1
            · rw [hd1] at r0
              clear hd0 hd1
              have hns5 : s.sn ≤ 60000 := by have := HS5.out; omega
              have hlow := (HBo.out.alloc (stepC 1 s) 36).lowQ
              obtain ⟨ls, D5, G5, hB0⟩ := HBo.out
              have HFL : Hid (∀ b, Fl P2 ls b → b < wr.heap.size) := fun b hf => (hB0.log.fl hf).2
              have HQL : Hid (Q < wr.heap.size) := hB0.doc.lt Q hB0.doc.gQ
              have HLOW := Lib.hid hlow
              have HBT : Hid (BothB w (wr.alloc (.cells (stepC 1 s) 36)) P2 Q ls D5 G5 x x wr.heap.size (stepC 1 s) 36) := ⟨hB0.below (below_a1' wr _), fun hf => by have := (hB0.log.fl hf).2; omega, fun e => by have := hB0.doc.lt Q hB0.doc.gQ; omega, heap_alloc_new _ _⟩
              clear HBo hB0 hlow
              go_wp2
              refine wp_region_st (fun k W => (k = 0 → BothB w W P2 Q ls D5 G5 x x wr.heap.size (stepC 1 s) 36) ∧ BoB w W P2 Q (jA x (takeP x s.st) k) (jB x (takeP x s.st) k) wr.heap.size (stepC 1 s) 36) RelB (RelW2 P2 Q ls) [4, 8] (phi [isV (.pointer (some ⟨P2, 0, none⟩)), isV (.pointer (some ⟨wr.heap.size, 14, none⟩)), isV (.slice s.sA s.sn s.sc), AppAt P2 Q ls s.st s.sn, isV (.int .i64 (takeN x s.st x.cores : Nat)), isV (.pointer (some ⟨Q, 0, none⟩)), isV (.pointer (some ⟨wr.heap.size, 14, none⟩)), isV (.slice s.sA s.sn s.sc), isV (.int .i64 (takeN x s.st x.cores : Nat)), isV (.bool true), isV (.bool true)]) (by kernel_rfl) (by kernel_rfl) (by kernel_rfl) (by kernel_rfl) (by kernel_rfl) ⟨fun _ => HBT.out.below (below_drew _), ls, D5, G5, HBT.out.below (below_drew _)⟩ (fun k W W' hj hb => ⟨fun h => (hj.1 h).below hb, BoB.below hj.2 hb⟩) (fun _ _ h => RelW2.of_below h) ?_ ?_ ?_
              · refine stays_phiR ?_
                simp only [List.forall_mem_cons]
                exact ⟨fun _ _ _ h _ => h, fun _ _ _ h _ => h, fun _ _ _ h _ => h, fun _ _ _ h hr => AppAt.stay h hr, fun _ _ _ h _ => h, fun _ _ _ h _ => h, fun _ _ _ h _ => h, fun _ _ _ h _ => h, fun _ _ _ h _ => h, fun _ _ _ h _ => h, fun _ _ _ h _ => h, fun _ h => absurd h (by simp)⟩
              · refine ⟨?_, ?_, ?_, ?_, ?_, ?_, ?_, ?_, ?_, ?_, ?_, trivial⟩
                · refine opS_mk rfl rfl fun aa W2 nJ hJ hp hq K hK => ?_
                  have e11 : aa.tmps[11]?.getD undef = .pointer (some ⟨P2, 0, none⟩) := hp 11 (by kernel_rfl)
                  clear hp hq
                  clear hJ
                  go_simp
                  exact hK _ _ (RelB.refl _) rfl
                · refine opS_mk rfl rfl fun aa W2 nJ hJ hp hq K hK => ?_
                  have e15 : aa.tmps[15]?.getD undef = .pointer (some ⟨wr.heap.size, 0, none⟩) := hp 15 (by kernel_rfl)
                  clear hp hq
                  clear hJ
                  go_simp
                  exact hK _ _ (RelB.refl _) rfl
                · refine opS_mk rfl rfl fun aa W2 nJ hJ hp hq K hK => ?_
                  have e81 : aa.tmps[81]?.getD undef = .pointer (some ⟨wr.heap.size, 14, none⟩) := hq 1 _ (by kernel_rfl) rfl
                  have cc := hJ.2.cell (j := 14) (v := .slice s.sA s.sn s.sc) rfl
                  clear hp hq
                  clear hJ
                  go_simp
                  exact hK _ _ (RelB.refl _) rfl
                · refine opS_mk rfl rfl fun aa W2 nJ hJ hp hq K hK => ?_
                  have e82 : aa.tmps[82]?.getD undef = .slice s.sA s.sn s.sc := hq 2 _ (by kernel_rfl) rfl
                  have hj := hJ.2.bo.bel
                  have hlt := hJ.2.ltB
                  obtain ⟨v1, w8, hrun, hg1, hg2⟩ := run_append_nilU W2 s.sA s.sc s.st s.sn HST.out.2.1 (HST.out.1.below hj) (by omega) 23
                  obtain ⟨A1, c1, rfl, hU1, hA1⟩ := u64_of_own hg1
                  have hs : aa.eval (.tmp 82) = .slice s.sA s.sn s.sc := by simpa [Act.eval] using e82
                  have hz : aa.eval (.const (.slice none 0 0)) = .slice none 0 0 := rfl
                  clear hJ
                  clear hp hq
                  unfold Oper.wp execOp
                  simp only [resolve, invoke, builtin, Sem.run_bind, Sem.run_pure, Result.andThen_ok, List.map_toArray, List.map_cons, List.map_nil, hz, hs, hrun]
                  exact hK _ _ (RelB.of hg2) ⟨A1, c1, rfl, hU1, fun b o e => by have h1 := hA1 b o e; have h2 := HQL.out; exact ⟨fun hf => (by have := HFL.out b hf; omega), by omega, h1.2⟩⟩
                · refine opS_at (m := 0) rfl rfl fun aa W2 hJ hp hq K hK => ?_
                  have e80 : aa.tmps[80]?.getD undef = .pointer (some ⟨P2, 0, none⟩) := hq 0 _ (by kernel_rfl) rfl
                  obtain ⟨A1, c1, e83, hU1, hA1⟩ := hq 3 _ (by kernel_rfl) rfl
                  have e83 : aa.tmps[83]?.getD undef = .slice A1 s.sn c1 := e83
                  have HJ := Lib.hid hJ
                  clear hJ
                  clear hp hq
                  go_simp
                  refine (t_takeX P2 Q ls D5 G5 x x A1 s.sn c1 s.st w W2 (HJ.out.1 rfl) HX.out hU1 HST.out.2.1 hns5 (fun _ b o e => (hA1 b o e).1)).mono ?_
                  rintro e w3 ⟨rfl, h3, h4⟩
                  exact hK _ _ h4 ⟨fun h => absurd h (by decide), h3⟩ rfl
                · refine opS_mk rfl rfl fun aa W2 nJ hJ hp hq K hK => ?_
                  have e13 : aa.tmps[13]?.getD undef = .pointer (some ⟨Q, 0, none⟩) := hp 13 (by kernel_rfl)
                  clear hp hq
                  clear hJ
                  go_simp
                  exact hK _ _ (RelB.refl _) rfl
                · refine opS_mk rfl rfl fun aa W2 nJ hJ hp hq K hK => ?_
                  have e15 : aa.tmps[15]?.getD undef = .pointer (some ⟨wr.heap.size, 0, none⟩) := hp 15 (by kernel_rfl)
                  clear hp hq
                  clear hJ
                  go_simp
                  exact hK _ _ (RelB.refl _) rfl
                · refine opS_mk rfl rfl fun aa W2 nJ hJ hp hq K hK => ?_
                  have e86 : aa.tmps[86]?.getD undef = .pointer (some ⟨wr.heap.size, 14, none⟩) := hq 6 _ (by kernel_rfl) rfl
                  have cc := hJ.2.cell (j := 14) (v := .slice s.sA s.sn s.sc) rfl
                  clear hp hq
                  clear hJ
                  go_simp
                  exact hK _ _ (RelB.refl _) rfl
                · refine opS_at (m := 1) rfl rfl fun aa W2 hJ hp hq K hK => ?_
                  have e85 : aa.tmps[85]?.getD undef = .pointer (some ⟨Q, 0, none⟩) := hq 5 _ (by kernel_rfl) rfl
                  have e87 : aa.tmps[87]?.getD undef = .slice s.sA s.sn s.sc := hq 7 _ (by kernel_rfl) rfl
                  have HJ := Lib.hid hJ
                  clear hJ
                  clear hp hq
                  go_simp
                  refine (t_takeZ P2 Q (takeP x s.st) x s.sA s.sn s.sc s.st w W2 HJ.out.2 HX.out (HST.out.1.below HJ.out.2.bo.bel) HST.out.2.1 hns5 (fun hne b o e => by have h1 := HLT.out b o e hne; have h2 := HLOW.out; omega)).mono ?_
                  rintro e w3 ⟨rfl, h3, h4⟩
                  exact hK _ _ (RelW2.of_grown h4) ⟨fun h => absurd h (by decide), h3⟩ rfl
                · refine opS_mk rfl rfl fun aa W2 nJ hJ hp hq K hK => ?_
                  have e84 : aa.tmps[84]?.getD undef = .int .i64 (takeN x s.st x.cores : Nat) := hq 4 _ (by kernel_rfl) rfl
                  have e88 : aa.tmps[88]?.getD undef = .int .i64 (takeN x s.st x.cores : Nat) := hq 8 _ (by kernel_rfl) rfl
                  clear hp hq
                  clear hJ
                  go_simp
                  exact hK _ _ (RelB.refl _) (by first | rfl | exact congrArg Value.bool (decide_eq_true rfl))
                · refine opS_mk rfl rfl fun aa W2 nJ hJ hp hq K hK => ?_
                  have e89 : aa.tmps[89]?.getD undef = .bool true := hq 9 _ (by kernel_rfl) rfl
                  clear hp hq
                  clear hJ
                  go_simp
                  exact hK _ _ (RelB.refl _) rfl
              · intro vs W9 hJ9 hv9 _
                have HB9 : Hid (BoB w W9 P2 Q (takeP x s.st) (takeP x s.st) wr.heap.size (stepC 1 s) 36) := hJ9.2
                have HXN := Lib.hid (HX.out.take s.st)
                have v10 : vs 10 = .bool true := hv9 10 _ rfl rfl
                clear hJ9 hv9
                simp only [List.take_succ_cons, List.take_zero, putAll, Act.put, List.setIfInBounds_toArray, List.set_cons_succ, List.set_cons_zero, Nat.zero_add, Nat.reduceAdd, v10]
                have cB := HB9.out.cell (j := 1) (v := .int .i64 s.core) rfl
                obtain ⟨N, hN⟩ : ∃ N, (uptoR stamp (docL (takeP x s.st))).length = N := ⟨_, rfl⟩
                have hN2 : N ≤ 2048 := by rw [← hN]; exact HB9.out.bo.docLen stamp HXN.out
                have HNU := Lib.hid hN
                clear hN
                go_wp2_with (first
                  | (go_at_call 29; (with_reducible refine (t_sameX P2 Q ((takeP x s.st)) _ w _ HB9.out.bo HXN.out).mono ?_); rintro e w8 ⟨rfl, hb⟩; replace HB9 := Lib.hid (HB9.out.below hb); have cB := HB9.out.cell (j := 1) (v := .int .i64 s.core) rfl; clear hb)
                  | (go_at_call 18; (with_reducible refine (t_uptoX P2 Q ((takeP x s.st)) ((takeP x s.st)) stamp w _ HB9.out.bo HXN.out HNU.out).mono ?_); rintro e w8 ⟨A8, c8, rfl, hr, hb⟩; replace HB9 := Lib.hid (HB9.out.below hb); have HU8 := Lib.hid hr; clear hr hb)
                  | (go_at_call 30; (with_reducible refine (t_uptoY P2 Q ((takeP x s.st)) ((takeP x s.st)) stamp w _ HB9.out.bo HXN.out HB9.out.bo.docOk HNU.out).mono ?_); rintro e w9 ⟨A9, c9, rfl, hr, hb⟩; replace HB9 := Lib.hid (HB9.out.below hb); replace HU8 := Lib.hid (HU8.out.below hb); have HU9 := Lib.hid hr; clear hr hb)
                  | (go_at_call 17; (with_reducible refine (t_same A8 A9 N N c8 c9 (uptoR stamp (docL (takeP x s.st))) (uptoR stamp (docL (takeP x s.st))) true (by simp) _ HU8.out HNU.out (by omega) HU9.out HNU.out (by omega)).mono ?_); rintro e w8 ⟨rfl, hb⟩; replace HB9 := Lib.hid (HB9.out.below hb); clear hb))
                go_roundw
                case rel => exact ⟨P2, i + 1, rfl, rfl, he, _, HB9.out.bo, HXN.out⟩
                case measure => simp only [intOf]; omega
            · by_cases hd2 : s.act = 2
              · rw [hd2] at r0
                clear hd0 hd1 hd2
                have HBB : Hid (BoB w (wr.alloc (.cells (stepC 2 s) 36)) P2 Q x x wr.heap.size (stepC 2 s) 36) := HBo.out.alloc _ _
                clear HBo
                have hb63 : (0 : Int) ≤ 9223372036854775808 ∧ (9223372036854775808 : Int) ≤ 18446744073709551615 := by decide
                have HA63 := Lib.hid (atR_ok hb63)
                have HX2 := Lib.hid (putL_log HX.out HBB.out.bo 0 (atR 9223372036854775808))
                have HX3 := Lib.hid (HX2.out.take s.st)
                have HXN := Lib.hid HX.out
                clear hb63
                have hns5 : s.sn ≤ 60000 := by have := HS5.out; omega
                obtain ⟨N, hN⟩ : ∃ N, (uptoR stamp (docL x)).length = N := ⟨_, rfl⟩
                have hN2 : N ≤ 2048 := by rw [← hN]; exact HBB.out.bo.docLen stamp HXN.out
                have HNU := Lib.hid hN
                clear hN
                go_wp2_with (first
                  | (go_at_call 27; (with_reducible refine (t_copyX P2 Q x w _ HBB.out).mono ?_); rintro e w5 ⟨P3, rfl, ls0, lsn, D5, G5, ho⟩; have HO := Lib.hid ho; clear ho; have k14 := HO.out.cell (j := 14) (v := .slice s.sA s.sn s.sc) rfl; have k2 := HO.out.cell (j := 2) (v := .int .u64 s.r.stamp) rfl)
                  | (go_at_call 28; (with_reducible refine (t_at23 _ _).mono ?_); rintro e w5 ⟨rfl, hb⟩; replace HO := Lib.hid (HO.out.below hb); clear hb; have k14 := HO.out.cell (j := 14) (v := .slice s.sA s.sn s.sc) rfl; have k2 := HO.out.cell (j := 2) (v := .int .u64 s.r.stamp) rfl)
                  | (go_at_call 13; (with_reducible refine (t_putO 0 (atR 9223372036854775808) HO.out HA63.out).mono ?_); rintro e w5 ⟨rfl, ho⟩; replace HO := Lib.hid ho; clear ho; have k14 := HO.out.cell (j := 14) (v := .slice s.sA s.sn s.sc) rfl; have k2 := HO.out.cell (j := 2) (v := .int .u64 s.r.stamp) rfl)
                  | (go_at_call 16; (with_reducible refine (t_takeO s.sA s.sn s.sc s.st HO.out HX2.out HST.out.1 HST.out.2.1 hns5).mono ?_); rintro e w5 ⟨rfl, ho⟩; replace HO := Lib.hid ho; clear ho; have k14 := HO.out.cell (j := 14) (v := .slice s.sA s.sn s.sc) rfl; have k2 := HO.out.cell (j := 2) (v := .int .u64 s.r.stamp) rfl)
                  | (go_at_call 16; (with_reducible refine (t_take1O s.r.stamp HO.out HX3.out).mono ?_); rintro e w5 ⟨rfl, ho⟩; have HB9 := Lib.hid (Old.done ho); clear ho; have cB := HB9.out.cell (j := 1) (v := .int .i64 s.core) rfl)
                  | (go_at_call 29; (with_reducible refine (t_sameX P3 Q (x) _ w _ HB9.out.bo HXN.out).mono ?_); rintro e w8 ⟨rfl, hb⟩; replace HB9 := Lib.hid (HB9.out.below hb); have cB := HB9.out.cell (j := 1) (v := .int .i64 s.core) rfl; clear hb)
                  | (go_at_call 18; (with_reducible refine (t_uptoX P3 Q (x) (x) stamp w _ HB9.out.bo HXN.out HNU.out).mono ?_); rintro e w8 ⟨A8, c8, rfl, hr, hb⟩; replace HB9 := Lib.hid (HB9.out.below hb); have HU8 := Lib.hid hr; clear hr hb)
                  | (go_at_call 30; (with_reducible refine (t_uptoY P3 Q (x) (x) stamp w _ HB9.out.bo HXN.out HB9.out.bo.docOk HNU.out).mono ?_); rintro e w9 ⟨A9, c9, rfl, hr, hb⟩; replace HB9 := Lib.hid (HB9.out.below hb); replace HU8 := Lib.hid (HU8.out.below hb); have HU9 := Lib.hid hr; clear hr hb)
                  | (go_at_call 17; (with_reducible refine (t_same A8 A9 N N c8 c9 (uptoR stamp (docL x)) (uptoR stamp (docL x)) true (by simp) _ HU8.out HNU.out (by omega) HU9.out HNU.out (by omega)).mono ?_); rintro e w8 ⟨rfl, hb⟩; replace HB9 := Lib.hid (HB9.out.below hb); clear hb))
                go_roundw
                case rel => exact ⟨P3, i + 1, rfl, rfl, he, _, HB9.out.bo, HXN.out⟩
                case measure => simp only [intOf]; omega
              · have e0 : (s.act == 0) = false := by simpa using hd0
                have e1 : (s.act == 1) = false := by simpa using hd1
                have e2 : (s.act == 2) = false := by simpa using hd2
                have HB9 : Hid (BoB w (wr.alloc (.cells (stepC s.act s) 36)) P2 Q x x wr.heap.size (stepC s.act s) 36) := HBo.out.alloc _ _
                have HXN := Lib.hid HX.out
                clear hd0 hd1 hd2 HBo
                have cB := HB9.out.cell (j := 1) (v := .int .i64 s.core) rfl
                obtain ⟨N, hN⟩ : ∃ N, (uptoR stamp (docL x)).length = N := ⟨_, rfl⟩
                have hN2 : N ≤ 2048 := by rw [← hN]; exact HB9.out.bo.docLen stamp HXN.out
                have HNU := Lib.hid hN
                clear hN
                go_wp2_with (first
                  | (go_at_call 29; (with_reducible refine (t_sameX P2 Q (x) _ w _ HB9.out.bo HXN.out).mono ?_); rintro e w8 ⟨rfl, hb⟩; replace HB9 := Lib.hid (HB9.out.below hb); have cB := HB9.out.cell (j := 1) (v := .int .i64 s.core) rfl; clear hb)
                  | (go_at_call 18; (with_reducible refine (t_uptoX P2 Q (x) (x) stamp w _ HB9.out.bo HXN.out HNU.out).mono ?_); rintro e w8 ⟨A8, c8, rfl, hr, hb⟩; replace HB9 := Lib.hid (HB9.out.below hb); have HU8 := Lib.hid hr; clear hr hb)
                  | (go_at_call 30; (with_reducible refine (t_uptoY P2 Q (x) (x) stamp w _ HB9.out.bo HXN.out HB9.out.bo.docOk HNU.out).mono ?_); rintro e w9 ⟨A9, c9, rfl, hr, hb⟩; replace HB9 := Lib.hid (HB9.out.below hb); replace HU8 := Lib.hid (HU8.out.below hb); have HU9 := Lib.hid hr; clear hr hb)
                  | (go_at_call 17; (with_reducible refine (t_same A8 A9 N N c8 c9 (uptoR stamp (docL x)) (uptoR stamp (docL x)) true (by simp) _ HU8.out HNU.out (by omega) HU9.out HNU.out (by omega)).mono ?_); rintro e w8 ⟨rfl, hb⟩; replace HB9 := Lib.hid (HB9.out.below hb); clear hb))
                go_roundw
                case rel => exact ⟨P2, i + 1, rfl, rfl, he, _, HB9.out.bo, HXN.out⟩
                case measure => simp only [intOf]; omega
        · obtain rfl : n = i := by omega
          have HBo := Lib.hid hbo
          clear hbo hx HI he hi
          go_wp2_with (go_at_call 11; (with_reducible refine (t_alive23 _).mono ?_); rintro e w9 ⟨rfl, hb⟩; have HB9 := Lib.hid (HBo.out.bel.trans (hb.mono HBo.out.bel.size)); clear hb)
          go_ret
          exact ⟨rfl, HB9.out⟩
    · go_ret
      exact ⟨rfl, ptrans HB.out HB2.out⟩
  · have HG := Lib.hid hgood
    clear hgood
    go_wp2_with (first
      | (go_at_call 10; (with_reducible refine (t_long23s A c n l _ HSt.out HN.out hnc hn2 HSM.out).mono ?_); rintro e w1 ⟨b, rfl, _, hb⟩; have HB := Lib.hid hb; clear hb; cases b)
      | (go_at_call 11; (with_reducible refine (t_alive23 _).mono ?_); rintro e w2 ⟨rfl, hb⟩; replace HB := Lib.hid (ptrans HB.out hb); clear hb)
      | (go_at_call 22; (with_reducible refine (t_nothing23 _).mono ?_); rintro e w2 ⟨rfl, hb⟩; replace HB := Lib.hid (ptrans HB.out hb); clear hb)
      | (go_at_call 12; (with_reducible refine (t_newLogBad cores most HG.out _).mono ?_); rintro e w3 ⟨rfl, rfl⟩)
      | (go_at_call 23; (with_reducible refine (t_doc23May _ _ false (decide_eq_false HG.out) _).mono ?_); rintro e w4 ⟨rfl, rfl⟩))
    all_goals
      go_ret
      exact ⟨rfl, HB.out⟩
end Go.Proofs.YtehckjkihaalfaaGreat
