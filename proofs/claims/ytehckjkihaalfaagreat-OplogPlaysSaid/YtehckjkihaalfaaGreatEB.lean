/- Put, walked. -/
import Derived.Test.YtehckjkihaalfaaGreatEA
namespace Go.Proofs.YtehckjkihaalfaaGreat
open Go.RowKit Go.Maps

/-- What Put answers, and the log behind it. -/
def putE (x : PLog) (k : Int) (r : R) : Int := if 0 ≤ k ∧ k < x.cores ∧ checkB r = true ∧ x.last k.toNat < r.stamp then (if (x.rows k.toNat).length < x.most then 0 else 4) else 2
def putL (x : PLog) (k : Int) (r : R) : PLog := if putE x k r = 0 then { x with rows := setF x.rows k.toNat (x.rows k.toNat ++ [r]), last := setF x.last k.toNat r.stamp } else x
theorem grown_cell {w W : World} {q : Option Nat} {b j : Nat} (hg : w.grownBy W q) (hb : b < w.heap.size) (hne : q ≠ some b) : W.cell? ⟨b, j, none⟩ = w.cell? ⟨b, j, none⟩ := World.cell?_of_block (a := ⟨b, j, none⟩) (hg.block b hb (fun e => hne e.symm))
theorem run_append_rec2 (base ty : Nat) (w : World) (v : Value) (l : List R) (n : Nat) (hn : l.length = n) (hown : w.ownsRow base 34 12 v n (flatR l)) (q : Nat) (p : R) (hq : w.heap[q]? = some (.cells (cellsR p) 34 (0, 0)))
    (hl : n ≤ 100000) (hbase : base ≤ w.heap.size) :
    ∃ v' w', (Builtin.append_ #[37, 37] ty #[v, .slice (some ⟨q, 0, none⟩) 1 1]).run Tryz.prog w = .ok v' w' ∧ w'.ownsRow base 34 12 v' (n + 1) (flatR (l ++ [p])) ∧ w.grownBy w' v.ownBlock ∧ ∀ z, v'.ownBlock = some z → v.ownBlock = some z ∨ w.heap.size ≤ z := by
  subst hn
  obtain ⟨i0, hi, hz0, hz1, hz2⟩ := infoRec
  obtain ⟨v', w', hrun, h2, h3, _, h5⟩ := run_append_own_at (P := Tryz.prog) w base 37 ty 34 i0 _ 12 96 Tryz.underlying37 hi hz0 hz1 hz2 rfl (by decide) v l.length (flatR l) hown ⟨q, 0, none⟩ 1 1 (cellsL p)
    rfl (fun j u hu => by
      rw [Addr.add_mid, Nat.zero_add]
      simp only [World.cell?, hq]
      simpa [cellsL] using hu) (by simp [cellsL, Value.oneCell']) (by unfold maxLen; omega) (by omega) hbase
  refine ⟨v', w', hrun, by rw [flatR_append, show flatR [p] = cellsL p by simp [flatR]]; exact h2, h3, fun z hz => ?_⟩
  rcases h5 with h5 | h5
  · exact .inl (h5 ▸ hz)
  · rw [h5] at hz
    injection hz with hz
    exact .inr (by omega)
set_option maxRecDepth 100000 in
set_option maxHeartbeats 16000000 in
theorem t_putLog (P : Nat) (ls : Nat → Value) (x : PLog) (k : Int) (r : R) (w : World) (h : LogAt w P ls x) (hr : RecOk r) :
    Calls Tryz.prog 13 #[.pointer (some ⟨P, 0, none⟩), .int .i64 k, r.val] w fun e w' => e = .returned (.int .i64 (putE x k r)) ∧ ∃ ls', LogAt w' P ls' (putL x k r) ∧ Turn w w' (Fl P ls) (Fl P ls') ∧ (putE x k r ≠ 0 → Below w.heap.size w w') := by
  have hchk := fun W => t_chk r hr.1 hr.2.1 hr.2.2.1 W
  unfold R.val at hchk ⊢
  have HCH := Lib.hid hchk
  clear hchk
  have hst : ∀ q : PLog, putE x k r ≠ 0 → putL x k r = x := fun _ h0 => by unfold putL; rw [if_neg h0]
  have HRA : Hid ((w.alloc (.cells (cellsR r) 34)).heap[w.heap.size]? = some (.cells (cellsR r) 34 (0, 0))) := heap_alloc_new _ _
  have HLA := Lib.hid (h.below (below_a1' w (.cells (cellsR r) 34)))
  by_cases hk : 0 ≤ k ∧ k < x.cores
  · obtain ⟨j, rfl⟩ : ∃ j : Nat, k = (j : Int) := ⟨k.toNat, by omega⟩
    have hj8 : j < 8 := by have := h.cores8; omega
    cases hck : checkB r
    · have hce : checkE r = 2 := by unfold checkE; rw [hck]; rfl
      have hpe : putE x (j : Int) r = 2 := by unfold putE; rw [if_neg (by rw [hck]; simp)]
      have HCE := Lib.hid hce
      have HPE := Lib.hid hpe
      have HPL := Lib.hid (hst x (by rw [hpe]; decide))
      have HK := Lib.hid hk
      clear h hce hpe hst hck hk
      go_enter Tryz.func13, Tryz.ntmps13
      go_wp2
      refine wp_region_rel RelB (phi [isV (.pointer (some ⟨P, 0, none⟩)), isV (.int .i64 (j : Int)), isV (.bool true), isV (.bool false), isV (.bool false), isV (.agg #[.int .u64 r.stamp, .int .u8 r.act, .int .u32 r.dir, .string r.name, .int .u32 r.ino, .int .u8 r.kind, .int .u32 r.dir2, .string r.name2, .int .u32 r.old, .int .u32 r.size, .int .i64 r.page, .string r.data]), isV (.int .i64 2), isV (.bool true), isV (.bool true), isV (.bool true), (fun _ _ => True), (fun _ _ => True), (fun _ _ => True), (fun _ _ => True), (fun _ _ => True), (fun _ _ => True), (fun _ _ => True), (fun _ _ => True), (fun _ _ => True), isV (.bool true), isV (.bool true)]) (by kernel_rfl) (by kernel_rfl) (by kernel_rfl) (RelB.of (below_drew _)) (fun _ _ _ a b => a.trans b) ?_ ?_ ?_
      · refine stays_phiR ?_
        simp only [List.forall_mem_cons]
        exact ⟨fun _ _ _ h _ => h, fun _ _ _ h _ => h, fun _ _ _ h _ => h, fun _ _ _ h _ => h, fun _ _ _ h _ => h, fun _ _ _ h _ => h, fun _ _ _ h _ => h, fun _ _ _ h _ => h, fun _ _ _ h _ => h, fun _ _ _ h _ => h, fun _ _ _ _ _ => trivial, fun _ _ _ _ _ => trivial, fun _ _ _ _ _ => trivial, fun _ _ _ _ _ => trivial, fun _ _ _ _ _ => trivial, fun _ _ _ _ _ => trivial, fun _ _ _ _ _ => trivial, fun _ _ _ _ _ => trivial, fun _ _ _ _ _ => trivial, fun _ _ _ h _ => h, fun _ _ _ h _ => h, fun _ h => absurd h (by simp)⟩
      · refine ⟨?_, ?_, ?_, ?_, ?_, ?_, ?_, ?_, ?_, ?_, ?_, ?_, ?_, ?_, ?_, ?_, ?_, ?_, ?_, ?_, ?_, trivial⟩
        · refine opR_mk rfl fun aa W2 hB hp hq K hK => ?_
          have e0 : aa.tmps[0]?.getD undef = .pointer (some ⟨P, 0, none⟩) := hp 0 (by kernel_rfl)
          clear hp hq
          go_simp
          exact hK _ _ (RelB.refl _) rfl
        · refine opR_mk rfl fun aa W2 hB hp hq K hK => ?_
          have e1 : aa.tmps[1]?.getD undef = .int .i64 (j : Int) := hp 1 (by kernel_rfl)
          clear hp hq
          go_simp
          exact hK _ _ (RelB.refl _) rfl
        · refine opR_mk rfl fun aa W2 hB hp hq K hK => ?_
          have e11 : aa.tmps[11]?.getD undef = .pointer (some ⟨P, 0, none⟩) := hq 0 _ (by kernel_rfl) rfl
          have e12 : aa.tmps[12]?.getD undef = .int .i64 (j : Int) := hq 1 _ (by kernel_rfl) rfl
          clear hp hq
          go_simp
          refine (t_has P (j : Int) (x.cores : Int) true (decide_eq_true HK.out) W2 (HLA.out.below hB).c0).mono ?_
          rintro e w2 ⟨rfl, rfl⟩
          exact hK _ _ (RelB.refl _) rfl
        · refine opR_mk rfl fun aa W2 hB hp hq K hK => ?_
          have e13 : aa.tmps[13]?.getD undef = .bool true := hq 2 _ (by kernel_rfl) rfl
          clear hp hq
          go_simp
          exact hK _ _ (RelB.refl _) rfl
        · refine opR_mk rfl fun aa W2 hB hp hq K hK => ?_
          have e14 : aa.tmps[14]?.getD undef = .bool false := hq 3 _ (by kernel_rfl) rfl
          clear hp hq
          go_simp
          exact hK _ _ (RelB.refl _) rfl
        · refine opR_guard (j := 4) (d := 15) (c := false) rfl rfl (by kernel_rfl) rfl rfl (fun v W h => h) (fun _ => RelB.refl _) (fun hne => absurd rfl hne) fun hc aa W2 hB hp hq K hK => ?_
          have e5 : aa.tmps[5]?.getD undef = .pointer (some ⟨w.heap.size, 0, none⟩) := hp 5 (by kernel_rfl)
          have r0 := rec_cell0 (RelB.rec hB HRA.out) 0 _ rfl
          have r1 := rec_cell0 (RelB.rec hB HRA.out) 1 _ rfl
          have r2 := rec_cell0 (RelB.rec hB HRA.out) 2 _ rfl
          have r3 := rec_cell0 (RelB.rec hB HRA.out) 3 _ rfl
          have r4 := rec_cell0 (RelB.rec hB HRA.out) 4 _ rfl
          have r5 := rec_cell0 (RelB.rec hB HRA.out) 5 _ rfl
          have r6 := rec_cell0 (RelB.rec hB HRA.out) 6 _ rfl
          have r7 := rec_cell0 (RelB.rec hB HRA.out) 7 _ rfl
          have r8 := rec_cell0 (RelB.rec hB HRA.out) 8 _ rfl
          have r9 := rec_cell0 (RelB.rec hB HRA.out) 9 _ rfl
          have r10 := rec_cell0 (RelB.rec hB HRA.out) 10 _ rfl
          have r11 := rec_cell0 (RelB.rec hB HRA.out) 11 _ rfl
          clear hp hq
          go_simp
          exact hK _ _ (RelB.refl _) rfl
        · refine opR_guard (j := 4) (d := 15) (c := false) rfl rfl (by kernel_rfl) rfl rfl (fun v W h => h) (fun _ => RelB.refl _) (fun hne => absurd rfl hne) fun hc aa W2 hB hp hq K hK => ?_
          have e16 : aa.tmps[16]?.getD undef = .agg #[.int .u64 r.stamp, .int .u8 r.act, .int .u32 r.dir, .string r.name, .int .u32 r.ino, .int .u8 r.kind, .int .u32 r.dir2, .string r.name2, .int .u32 r.old, .int .u32 r.size, .int .i64 r.page, .string r.data] := hq 5 _ (by kernel_rfl) rfl
          clear hp hq
          go_simp
          refine (HCH.out W2).mono ?_
          rintro e w2 ⟨rfl, hb2⟩
          exact hK _ _ (RelB.of hb2) (by show Value.int .i64 (checkE r) = _; rw [HCE.out])
        · refine opR_guard (j := 4) (d := 15) (c := false) rfl rfl (by kernel_rfl) rfl rfl (fun v W h => h) (fun _ => RelB.refl _) (fun hne => absurd rfl hne) fun hc aa W2 hB hp hq K hK => ?_
          have e17 : aa.tmps[17]?.getD undef = .int .i64 2 := hq 6 _ (by kernel_rfl) rfl
          clear hp hq
          go_simp
          exact hK _ _ (RelB.refl _) rfl
        · refine opR_mk rfl fun aa W2 hB hp hq K hK => ?_
          have e15 : aa.tmps[15]?.getD undef = .bool false := hq 4 _ (by kernel_rfl) rfl
          have e18 : aa.tmps[18]?.getD undef = .bool true := hq 7 _ (by kernel_rfl) rfl
          clear hp hq
          go_simp
          exact hK _ _ (RelB.refl _) rfl
        · refine opR_mk rfl fun aa W2 hB hp hq K hK => ?_
          have e19 : aa.tmps[19]?.getD undef = .bool true := hq 8 _ (by kernel_rfl) rfl
          clear hp hq
          go_simp
          exact hK _ _ (RelB.refl _) rfl
        · exact opR_guard (j := 9) (d := 20) (c := true) rfl rfl (by kernel_rfl) rfl rfl (fun v W h => h) (fun _ => RelB.refl _) (fun _ _ => trivial) (fun hc => absurd hc (by decide))
        · exact opR_guard (j := 9) (d := 20) (c := true) rfl rfl (by kernel_rfl) rfl rfl (fun v W h => h) (fun _ => RelB.refl _) (fun _ _ => trivial) (fun hc => absurd hc (by decide))
        · exact opR_guard (j := 9) (d := 20) (c := true) rfl rfl (by kernel_rfl) rfl rfl (fun v W h => h) (fun _ => RelB.refl _) (fun _ _ => trivial) (fun hc => absurd hc (by decide))
        · exact opR_guard (j := 9) (d := 20) (c := true) rfl rfl (by kernel_rfl) rfl rfl (fun v W h => h) (fun _ => RelB.refl _) (fun _ _ => trivial) (fun hc => absurd hc (by decide))
        · exact opR_guard (j := 9) (d := 20) (c := true) rfl rfl (by kernel_rfl) rfl rfl (fun v W h => h) (fun _ => RelB.refl _) (fun _ _ => trivial) (fun hc => absurd hc (by decide))
        · exact opR_guard (j := 9) (d := 20) (c := true) rfl rfl (by kernel_rfl) rfl rfl (fun v W h => h) (fun _ => RelB.refl _) (fun _ _ => trivial) (fun hc => absurd hc (by decide))
        · exact opR_guard (j := 9) (d := 20) (c := true) rfl rfl (by kernel_rfl) rfl rfl (fun v W h => h) (fun _ => RelB.refl _) (fun _ _ => trivial) (fun hc => absurd hc (by decide))
        · exact opR_guard (j := 9) (d := 20) (c := true) rfl rfl (by kernel_rfl) rfl rfl (fun v W h => h) (fun _ => RelB.refl _) (fun _ _ => trivial) (fun hc => absurd hc (by decide))
        · exact opR_guard (j := 9) (d := 20) (c := true) rfl rfl (by kernel_rfl) rfl rfl (fun v W h => h) (fun _ => RelB.refl _) (fun _ _ => trivial) (fun hc => absurd hc (by decide))
        · refine opR_mk rfl fun aa W2 hB hp hq K hK => ?_
          have e20 : aa.tmps[20]?.getD undef = .bool true := hq 9 _ (by kernel_rfl) rfl
          clear hp hq
          go_simp
          exact hK _ _ (RelB.refl _) rfl
        · refine opR_mk rfl fun aa W2 hB hp hq K hK => ?_
          have e30 : aa.tmps[30]?.getD undef = .bool true := hq 19 _ (by kernel_rfl) rfl
          clear hp hq
          go_simp
          exact hK _ _ (RelB.refl _) rfl
      · intro vs W3 hB3 hv3 _
        have v20 : vs 20 = .bool true := hv3 20 _ rfl rfl
        have HB3 := Lib.hid (ptrans (below_a1' w _) hB3)
        have HL3 := Lib.hid (HLA.out.below hB3)
        clear hB3 hv3
        simp only [List.take_succ_cons, List.take_zero, putAll, Act.put, List.setIfInBounds_toArray, List.set_cons_succ, List.set_cons_zero, Nat.zero_add, Nat.reduceAdd, v20]
        go_wp2
        go_ret
        refine ⟨by rw [HPE.out]; rfl, ls, ?_, Turn.of_below _ HB3.out, fun _ => HB3.out⟩
        rw [HPL.out]
        exact HL3.out
    · have hce : checkE r = 0 := by unfold checkE; rw [hck]; rfl
      have HCE := Lib.hid hce
      by_cases hls : x.last j < r.stamp
      · have hpe : putE x (j : Int) r = if (x.rows j).length < x.most then 0 else 4 := by
          unfold putE
          rw [if_pos ⟨hk.1, hk.2, hck, by simpa using hls⟩]
          rfl
        have HPE := Lib.hid hpe
        have HK := Lib.hid hk
        have hls2 : decide (r.stamp ≤ x.last j) = false := decide_eq_false (by omega)
        have hji : ((j : Nat) : Int) < 8 := by omega
        have HPn := Lib.hid h.lt
        have HBLK : Hid (∀ q, (ls j).ownBlock = some q → q < w.heap.size) := fun q hq => (h.blkLt hj8 hq).2
        obtain ⟨A, cap, hsl⟩ := h.slice hj8
        obtain ⟨m, hm⟩ : ∃ m, (x.rows j).length = m := ⟨_, rfl⟩
        rw [hm] at hsl
        have HM := Lib.hid hm
        have HSL := Lib.hid hsl
        have HSM := Lib.hid h.most256
        have HLEN := Lib.hid (h.len j hj8)
        have HST := Lib.hid hst
        clear h hce hpe hst hck hk hm hsl hls
        go_enter Tryz.func13, Tryz.ntmps13
        go_wp2
        refine wp_region_rel RelB (phi [isV (.pointer (some ⟨P, 0, none⟩)), isV (.int .i64 (j : Int)), isV (.bool true), isV (.bool false), isV (.bool false), isV (.agg #[.int .u64 r.stamp, .int .u8 r.act, .int .u32 r.dir, .string r.name, .int .u32 r.ino, .int .u8 r.kind, .int .u32 r.dir2, .string r.name2, .int .u32 r.old, .int .u32 r.size, .int .i64 r.page, .string r.data]), isV (.int .i64 0), isV (.bool false), isV (.bool false), isV (.bool false), isV (.pointer (some ⟨w.heap.size, 0, none⟩)), isV (.int .u64 r.stamp), isV (.pointer (some ⟨P, 0, none⟩)), isV (.int .i64 (j : Int)), isV (.pointer (some ⟨P, 0, none⟩)), isV (.pointer (some ⟨P, 10, none⟩)), isV (.pointer (some ⟨P, 10 + j, none⟩)), isV (.int .u64 (x.last j)), isV (.bool false), isV (.bool false), isV (.bool false)]) (by kernel_rfl) (by kernel_rfl) (by kernel_rfl) (RelB.of (below_drew _)) (fun _ _ _ a b => a.trans b) ?_ ?_ ?_
        · refine stays_phiR ?_
          simp only [List.forall_mem_cons]
          exact ⟨fun _ _ _ h _ => h, fun _ _ _ h _ => h, fun _ _ _ h _ => h, fun _ _ _ h _ => h, fun _ _ _ h _ => h, fun _ _ _ h _ => h, fun _ _ _ h _ => h, fun _ _ _ h _ => h, fun _ _ _ h _ => h, fun _ _ _ h _ => h, fun _ _ _ h _ => h, fun _ _ _ h _ => h, fun _ _ _ h _ => h, fun _ _ _ h _ => h, fun _ _ _ h _ => h, fun _ _ _ h _ => h, fun _ _ _ h _ => h, fun _ _ _ h _ => h, fun _ _ _ h _ => h, fun _ _ _ h _ => h, fun _ _ _ h _ => h, fun _ h => absurd h (by simp)⟩
        · refine ⟨?_, ?_, ?_, ?_, ?_, ?_, ?_, ?_, ?_, ?_, ?_, ?_, ?_, ?_, ?_, ?_, ?_, ?_, ?_, ?_, ?_, trivial⟩
          · refine opR_mk rfl fun aa W2 hB hp hq K hK => ?_
            have e0 : aa.tmps[0]?.getD undef = .pointer (some ⟨P, 0, none⟩) := hp 0 (by kernel_rfl)
            clear hp hq
            go_simp
            exact hK _ _ (RelB.refl _) rfl
          · refine opR_mk rfl fun aa W2 hB hp hq K hK => ?_
            have e1 : aa.tmps[1]?.getD undef = .int .i64 (j : Int) := hp 1 (by kernel_rfl)
            clear hp hq
            go_simp
            exact hK _ _ (RelB.refl _) rfl
          · refine opR_mk rfl fun aa W2 hB hp hq K hK => ?_
            have e11 : aa.tmps[11]?.getD undef = .pointer (some ⟨P, 0, none⟩) := hq 0 _ (by kernel_rfl) rfl
            have e12 : aa.tmps[12]?.getD undef = .int .i64 (j : Int) := hq 1 _ (by kernel_rfl) rfl
            clear hp hq
            go_simp
            refine (t_has P (j : Int) (x.cores : Int) true (decide_eq_true HK.out) W2 (HLA.out.below hB).c0).mono ?_
            rintro e w2 ⟨rfl, rfl⟩
            exact hK _ _ (RelB.refl _) rfl
          · refine opR_mk rfl fun aa W2 hB hp hq K hK => ?_
            have e13 : aa.tmps[13]?.getD undef = .bool true := hq 2 _ (by kernel_rfl) rfl
            clear hp hq
            go_simp
            exact hK _ _ (RelB.refl _) rfl
          · refine opR_mk rfl fun aa W2 hB hp hq K hK => ?_
            have e14 : aa.tmps[14]?.getD undef = .bool false := hq 3 _ (by kernel_rfl) rfl
            clear hp hq
            go_simp
            exact hK _ _ (RelB.refl _) rfl
          · refine opR_guard (j := 4) (d := 15) (c := false) rfl rfl (by kernel_rfl) rfl rfl (fun v W h => h) (fun _ => RelB.refl _) (fun hne => absurd rfl hne) fun hc aa W2 hB hp hq K hK => ?_
            have e5 : aa.tmps[5]?.getD undef = .pointer (some ⟨w.heap.size, 0, none⟩) := hp 5 (by kernel_rfl)
            have r0 := rec_cell0 (RelB.rec hB HRA.out) 0 _ rfl
            have r1 := rec_cell0 (RelB.rec hB HRA.out) 1 _ rfl
            have r2 := rec_cell0 (RelB.rec hB HRA.out) 2 _ rfl
            have r3 := rec_cell0 (RelB.rec hB HRA.out) 3 _ rfl
            have r4 := rec_cell0 (RelB.rec hB HRA.out) 4 _ rfl
            have r5 := rec_cell0 (RelB.rec hB HRA.out) 5 _ rfl
            have r6 := rec_cell0 (RelB.rec hB HRA.out) 6 _ rfl
            have r7 := rec_cell0 (RelB.rec hB HRA.out) 7 _ rfl
            have r8 := rec_cell0 (RelB.rec hB HRA.out) 8 _ rfl
            have r9 := rec_cell0 (RelB.rec hB HRA.out) 9 _ rfl
            have r10 := rec_cell0 (RelB.rec hB HRA.out) 10 _ rfl
            have r11 := rec_cell0 (RelB.rec hB HRA.out) 11 _ rfl
            clear hp hq
            go_simp
            exact hK _ _ (RelB.refl _) rfl
          · refine opR_guard (j := 4) (d := 15) (c := false) rfl rfl (by kernel_rfl) rfl rfl (fun v W h => h) (fun _ => RelB.refl _) (fun hne => absurd rfl hne) fun hc aa W2 hB hp hq K hK => ?_
            have e16 : aa.tmps[16]?.getD undef = .agg #[.int .u64 r.stamp, .int .u8 r.act, .int .u32 r.dir, .string r.name, .int .u32 r.ino, .int .u8 r.kind, .int .u32 r.dir2, .string r.name2, .int .u32 r.old, .int .u32 r.size, .int .i64 r.page, .string r.data] := hq 5 _ (by kernel_rfl) rfl
            clear hp hq
            go_simp
            refine (HCH.out W2).mono ?_
            rintro e w2 ⟨rfl, hb2⟩
            exact hK _ _ (RelB.of hb2) (by show Value.int .i64 (checkE r) = _; rw [HCE.out])
          · refine opR_guard (j := 4) (d := 15) (c := false) rfl rfl (by kernel_rfl) rfl rfl (fun v W h => h) (fun _ => RelB.refl _) (fun hne => absurd rfl hne) fun hc aa W2 hB hp hq K hK => ?_
            have e17 : aa.tmps[17]?.getD undef = .int .i64 0 := hq 6 _ (by kernel_rfl) rfl
            clear hp hq
            go_simp
            exact hK _ _ (RelB.refl _) rfl
          · refine opR_mk rfl fun aa W2 hB hp hq K hK => ?_
            have e15 : aa.tmps[15]?.getD undef = .bool false := hq 4 _ (by kernel_rfl) rfl
            have e18 : aa.tmps[18]?.getD undef = .bool false := hq 7 _ (by kernel_rfl) rfl
            clear hp hq
            go_simp
            exact hK _ _ (RelB.refl _) rfl
          · refine opR_mk rfl fun aa W2 hB hp hq K hK => ?_
            have e19 : aa.tmps[19]?.getD undef = .bool false := hq 8 _ (by kernel_rfl) rfl
            clear hp hq
            go_simp
            exact hK _ _ (RelB.refl _) rfl
          · refine opR_guard (j := 9) (d := 20) (c := false) rfl rfl (by kernel_rfl) rfl rfl (fun v W h => h) (fun _ => RelB.refl _) (fun hne => absurd rfl hne) fun hc aa W2 hB hp hq K hK => ?_
            have e5 : aa.tmps[5]?.getD undef = .pointer (some ⟨w.heap.size, 0, none⟩) := hp 5 (by kernel_rfl)
            clear hp hq
            go_simp
            exact hK _ _ (RelB.refl _) rfl
          · refine opR_guard (j := 9) (d := 20) (c := false) rfl rfl (by kernel_rfl) rfl rfl (fun v W h => h) (fun _ => RelB.refl _) (fun hne => absurd rfl hne) fun hc aa W2 hB hp hq K hK => ?_
            have e21 : aa.tmps[21]?.getD undef = .pointer (some ⟨w.heap.size, 0, none⟩) := hq 10 _ (by kernel_rfl) rfl
            have r0 := rec_cell0 (RelB.rec hB HRA.out) 0 _ rfl
            clear hp hq
            go_simp
            exact hK _ _ (RelB.refl _) rfl
          · refine opR_guard (j := 9) (d := 20) (c := false) rfl rfl (by kernel_rfl) rfl rfl (fun v W h => h) (fun _ => RelB.refl _) (fun hne => absurd rfl hne) fun hc aa W2 hB hp hq K hK => ?_
            have e0 : aa.tmps[0]?.getD undef = .pointer (some ⟨P, 0, none⟩) := hp 0 (by kernel_rfl)
            clear hp hq
            go_simp
            exact hK _ _ (RelB.refl _) rfl
          · refine opR_guard (j := 9) (d := 20) (c := false) rfl rfl (by kernel_rfl) rfl rfl (fun v W h => h) (fun _ => RelB.refl _) (fun hne => absurd rfl hne) fun hc aa W2 hB hp hq K hK => ?_
            have e1 : aa.tmps[1]?.getD undef = .int .i64 (j : Int) := hp 1 (by kernel_rfl)
            clear hp hq
            go_simp
            exact hK _ _ (RelB.refl _) rfl
          · refine opR_guard (j := 9) (d := 20) (c := false) rfl rfl (by kernel_rfl) rfl rfl (fun v W h => h) (fun _ => RelB.refl _) (fun hne => absurd rfl hne) fun hc aa W2 hB hp hq K hK => ?_
            have e23 : aa.tmps[23]?.getD undef = .pointer (some ⟨P, 0, none⟩) := hq 12 _ (by kernel_rfl) rfl
            clear hp hq
            go_simp
            exact hK _ _ (RelB.refl _) rfl
          · refine opR_guard (j := 9) (d := 20) (c := false) rfl rfl (by kernel_rfl) rfl rfl (fun v W h => h) (fun _ => RelB.refl _) (fun hne => absurd rfl hne) fun hc aa W2 hB hp hq K hK => ?_
            have e25 : aa.tmps[25]?.getD undef = .pointer (some ⟨P, 0, none⟩) := hq 14 _ (by kernel_rfl) rfl
            clear hp hq
            go_simp
            exact hK _ _ (RelB.refl _) rfl
          · refine opR_guard (j := 9) (d := 20) (c := false) rfl rfl (by kernel_rfl) rfl rfl (fun v W h => h) (fun _ => RelB.refl _) (fun hne => absurd rfl hne) fun hc aa W2 hB hp hq K hK => ?_
            have e26 : aa.tmps[26]?.getD undef = .pointer (some ⟨P, 10, none⟩) := hq 15 _ (by kernel_rfl) rfl
            have e24 : aa.tmps[24]?.getD undef = .int .i64 (j : Int) := hq 13 _ (by kernel_rfl) rfl
            clear hp hq
            go_simp
            exact hK _ _ (RelB.refl _) rfl
          · refine opR_guard (j := 9) (d := 20) (c := false) rfl rfl (by kernel_rfl) rfl rfl (fun v W h => h) (fun _ => RelB.refl _) (fun hne => absurd rfl hne) fun hc aa W2 hB hp hq K hK => ?_
            have e27 : aa.tmps[27]?.getD undef = .pointer (some ⟨P, 10 + j, none⟩) := hq 16 _ (by kernel_rfl) rfl
            have cl := (HLA.out.below hB).lst hj8
            clear hp hq
            go_simp
            exact hK _ _ (RelB.refl _) rfl
          · refine opR_guard (j := 9) (d := 20) (c := false) rfl rfl (by kernel_rfl) rfl rfl (fun v W h => h) (fun _ => RelB.refl _) (fun hne => absurd rfl hne) fun hc aa W2 hB hp hq K hK => ?_
            have e22 : aa.tmps[22]?.getD undef = .int .u64 r.stamp := hq 11 _ (by kernel_rfl) rfl
            have e28 : aa.tmps[28]?.getD undef = .int .u64 (x.last j) := hq 17 _ (by kernel_rfl) rfl
            clear hp hq
            go_simp
            exact hK _ _ (RelB.refl _) rfl
          · refine opR_mk rfl fun aa W2 hB hp hq K hK => ?_
            have e20 : aa.tmps[20]?.getD undef = .bool false := hq 9 _ (by kernel_rfl) rfl
            have e29 : aa.tmps[29]?.getD undef = .bool false := hq 18 _ (by kernel_rfl) rfl
            clear hp hq
            go_simp
            exact hK _ _ (RelB.refl _) rfl
          · refine opR_mk rfl fun aa W2 hB hp hq K hK => ?_
            have e30 : aa.tmps[30]?.getD undef = .bool false := hq 19 _ (by kernel_rfl) rfl
            clear hp hq
            go_simp
            exact hK _ _ (RelB.refl _) rfl
        · intro vs W3 hB3 hv3 _
          have v20 : vs 20 = .bool false := hv3 20 _ rfl rfl
          have HL3 := Lib.hid (HLA.out.below hB3)
          have HRB := Lib.hid ((Below.block hB3 _ (lt_heap HRA.out)).trans HRA.out)
          have HB3 := Lib.hid (ptrans (below_a1' w _) hB3)
          clear hB3 hv3
          simp only [List.take_succ_cons, List.take_zero, putAll, Act.put, List.setIfInBounds_toArray, List.set_cons_succ, List.set_cons_zero, Nat.zero_add, Nat.reduceAdd, v20]
          clear v20
          by_cases hfull : m < x.most
          · have hfull2 : ¬ x.most ≤ m := by omega
            have hpe0 : Hid (putE x (j : Int) r = 0) := by show _ = _; rw [HPE.out, HM.out, if_pos hfull]
            go_wp2
            refine wp_region_rel RelB (phi [isV (.pointer (some ⟨P, 0, none⟩)), isV (.int .i64 (j : Int)), isV (.pointer (some ⟨P, 0, none⟩)), isV (.pointer (some ⟨P, 2, none⟩)), isV (.pointer (some ⟨P, 2 + j, none⟩)), isV (.slice A m cap), isV (.int .i64 (m : Int)), isV (.pointer (some ⟨P, 0, none⟩)), isV (.pointer (some ⟨P, 0, none⟩)), isV (.pointer (some ⟨P, 1, none⟩)), isV (.int .i64 (x.most : Int)), isV (.bool false), isV (.bool false)]) (by kernel_rfl) (by kernel_rfl) (by kernel_rfl) (RelB.of (below_drew _)) (fun _ _ _ a b => a.trans b) ?_ ?_ ?_
            · refine stays_phiR ?_
              simp only [List.forall_mem_cons]
              exact ⟨fun _ _ _ h _ => h, fun _ _ _ h _ => h, fun _ _ _ h _ => h, fun _ _ _ h _ => h, fun _ _ _ h _ => h, fun _ _ _ h _ => h, fun _ _ _ h _ => h, fun _ _ _ h _ => h, fun _ _ _ h _ => h, fun _ _ _ h _ => h, fun _ _ _ h _ => h, fun _ _ _ h _ => h, fun _ _ _ h _ => h, fun _ h => absurd h (by simp)⟩
            · refine ⟨?_, ?_, ?_, ?_, ?_, ?_, ?_, ?_, ?_, ?_, ?_, ?_, ?_, trivial⟩
              · refine opR_mk rfl fun aa W2 hB hp hq K hK => ?_
                have e0 : aa.tmps[0]?.getD undef = .pointer (some ⟨P, 0, none⟩) := hp 0 (by kernel_rfl)
                clear hp hq
                go_simp
                exact hK _ _ (RelB.refl _) rfl
              · refine opR_mk rfl fun aa W2 hB hp hq K hK => ?_
                have e1 : aa.tmps[1]?.getD undef = .int .i64 (j : Int) := hp 1 (by kernel_rfl)
                clear hp hq
                go_simp
                exact hK _ _ (RelB.refl _) rfl
              · refine opR_mk rfl fun aa W2 hB hp hq K hK => ?_
                have e32 : aa.tmps[32]?.getD undef = .pointer (some ⟨P, 0, none⟩) := hq 0 _ (by kernel_rfl) rfl
                clear hp hq
                go_simp
                exact hK _ _ (RelB.refl _) rfl
              · refine opR_mk rfl fun aa W2 hB hp hq K hK => ?_
                have e34 : aa.tmps[34]?.getD undef = .pointer (some ⟨P, 0, none⟩) := hq 2 _ (by kernel_rfl) rfl
                clear hp hq
                go_simp
                exact hK _ _ (RelB.refl _) rfl
              · refine opR_mk rfl fun aa W2 hB hp hq K hK => ?_
                have e35 : aa.tmps[35]?.getD undef = .pointer (some ⟨P, 2, none⟩) := hq 3 _ (by kernel_rfl) rfl
                have e33 : aa.tmps[33]?.getD undef = .int .i64 (j : Int) := hq 1 _ (by kernel_rfl) rfl
                clear hp hq
                go_simp
                exact hK _ _ (RelB.refl _) rfl
              · refine opR_mk rfl fun aa W2 hB hp hq K hK => ?_
                have e36 : aa.tmps[36]?.getD undef = .pointer (some ⟨P, 2 + j, none⟩) := hq 4 _ (by kernel_rfl) rfl
                have cr := (HL3.out.below hB).row hj8
                rw [HSL.out] at cr
                clear hp hq
                go_simp
                exact hK _ _ (RelB.refl _) rfl
              · refine opR_mk rfl fun aa W2 hB hp hq K hK => ?_
                have e37 : aa.tmps[37]?.getD undef = .slice A m cap := hq 5 _ (by kernel_rfl) rfl
                clear hp hq
                go_simp
                exact hK _ _ (RelB.refl _) rfl
              · refine opR_mk rfl fun aa W2 hB hp hq K hK => ?_
                have e0 : aa.tmps[0]?.getD undef = .pointer (some ⟨P, 0, none⟩) := hp 0 (by kernel_rfl)
                clear hp hq
                go_simp
                exact hK _ _ (RelB.refl _) rfl
              · refine opR_mk rfl fun aa W2 hB hp hq K hK => ?_
                have e39 : aa.tmps[39]?.getD undef = .pointer (some ⟨P, 0, none⟩) := hq 7 _ (by kernel_rfl) rfl
                clear hp hq
                go_simp
                exact hK _ _ (RelB.refl _) rfl
              · refine opR_mk rfl fun aa W2 hB hp hq K hK => ?_
                have e40 : aa.tmps[40]?.getD undef = .pointer (some ⟨P, 0, none⟩) := hq 8 _ (by kernel_rfl) rfl
                clear hp hq
                go_simp
                exact hK _ _ (RelB.refl _) rfl
              · refine opR_mk rfl fun aa W2 hB hp hq K hK => ?_
                have e41 : aa.tmps[41]?.getD undef = .pointer (some ⟨P, 1, none⟩) := hq 9 _ (by kernel_rfl) rfl
                have cm := (HL3.out.below hB).c1
                clear hp hq
                go_simp
                exact hK _ _ (RelB.refl _) rfl
              · refine opR_mk rfl fun aa W2 hB hp hq K hK => ?_
                have e38 : aa.tmps[38]?.getD undef = .int .i64 (m : Int) := hq 6 _ (by kernel_rfl) rfl
                have e42 : aa.tmps[42]?.getD undef = .int .i64 (x.most : Int) := hq 10 _ (by kernel_rfl) rfl
                clear hp hq
                go_simp
                exact hK _ _ (RelB.refl _) rfl
              · refine opR_mk rfl fun aa W2 hB hp hq K hK => ?_
                have e43 : aa.tmps[43]?.getD undef = .bool false := hq 11 _ (by kernel_rfl) rfl
                clear hp hq
                go_simp
                exact hK _ _ (RelB.refl _) rfl
            · intro vs W3 hB3 hv3 _
              have v12 : vs 12 = .bool false := hv3 12 _ rfl rfl
              obtain ⟨w5, hw5⟩ : ∃ w5 : World, w5 = W3 := ⟨_, rfl⟩
              subst hw5
              have HL5 := Lib.hid (HL3.out.below hB3)
              have HRC := Lib.hid ((Below.block hB3 _ (lt_heap HRB.out)).trans HRB.out)
              have HB5 := Lib.hid (ptrans HB3.out hB3)
              clear hB3 hv3
              simp only [List.take_succ_cons, List.take_zero, putAll, Act.put, List.setIfInBounds_toArray, List.set_cons_succ, List.set_cons_zero, Nat.zero_add, Nat.reduceAdd, v12]
              clear v12
              have hown : w5.ownsRow (P + 1) 34 12 (.slice A m cap) m (flatR (x.rows j)) := by
                have h1 := HL5.out.own j hj8
                rw [HSL.out, HM.out] at h1
                exact h1
              have HOW := Lib.hid hown
              have hqP : (Value.slice A m cap).ownBlock ≠ some P := fun e => by have := (hown.lt P e).1; omega
              have hqR : (Value.slice A m cap).ownBlock ≠ some w.heap.size := fun e => by
                have h1 := HBLK.out w.heap.size (by rw [HSL.out]; exact e)
                omega
              have HQP := Lib.hid hqP
              have HQR := Lib.hid hqR
              have HPW := Lib.hid HL5.out.lt
              have HRW := Lib.hid (lt_heap HRC.out)
              clear hown hqP hqR
              go_wp2
              refine wp_region_mid 14 10 RelB (fun W W' => W.grownBy W' (Value.slice A m cap).ownBlock) (fun W W' => W.grownBy W' (Value.slice A m cap).ownBlock) (phi [isV (.pointer (some ⟨P, 0, none⟩)), isV (.int .i64 (j : Int)), isV (.pointer (some ⟨P, 0, none⟩)), isV (.int .i64 (j : Int)), isV (.pointer (some ⟨P, 0, none⟩)), isV (.pointer (some ⟨P, 2, none⟩)), isV (.pointer (some ⟨P, 2 + j, none⟩)), isV (.slice A m cap), isV (.agg #[.int .u64 r.stamp, .int .u8 r.act, .int .u32 r.dir, .string r.name, .int .u32 r.ino, .int .u8 r.kind, .int .u32 r.dir2, .string r.name2, .int .u32 r.old, .int .u32 r.size, .int .i64 r.page, .string r.data]), (fun v W => ∃ q, v = .slice (some ⟨q, 0, none⟩) 1 1 ∧ w5.heap.size ≤ q ∧ W.heap[q]? = some (.cells (cellsR r) 34 (0, 0))), (fun v W => ∃ A1 c1, v = .slice A1 (m + 1) c1 ∧ W.ownsRow (P + 1) 34 12 (.slice A1 (m + 1) c1) (m + 1) (flatR (x.rows j ++ [r])) ∧ ∀ q, (Value.slice A1 (m + 1) c1).ownBlock = some q → (Value.slice A m cap).ownBlock = some q ∨ w5.heap.size ≤ q), isV (.pointer (some ⟨P, 0, none⟩)), isV (.pointer (some ⟨P, 2, none⟩)), isV (.pointer (some ⟨P, 2 + j, none⟩))]) (fun W => ∃ ls7, LogAt W P ls7 { x with rows := setF x.rows j (x.rows j ++ [r]) } ∧ Turn w5 W (Fl P ls) (Fl P ls7) ∧ W.heap[w.heap.size]? = some (.cells (cellsR r) 34 (0, 0))) (by kernel_rfl) (by kernel_rfl) (by kernel_rfl) (by decide) (RelB.of (below_drew _)) (fun _ _ _ a b => a.trans b) (fun _ _ h => pgrown_below h _) (fun _ _ h => h) (fun _ _ _ a b => pgrown_trans a b) ?_ ?_ ?_ ?_ ?_
              · refine stays_phiR ?_
                simp only [List.forall_mem_cons]
                exact ⟨fun _ _ _ h _ => h, fun _ _ _ h _ => h, fun _ _ _ h _ => h, fun _ _ _ h _ => h, fun _ _ _ h _ => h, fun _ _ _ h _ => h, fun _ _ _ h _ => h, fun _ _ _ h _ => h, fun _ _ _ h _ => h, fun _ _ _ h hb => by obtain ⟨q, h1, h2, h3⟩ := h; exact ⟨q, h1, h2, (Below.block hb _ (lt_heap h3)).trans h3⟩, fun _ _ _ h hb => by obtain ⟨A1, c1, h1, h2, h3⟩ := h; exact ⟨A1, c1, h1, row_below h2 hb, h3⟩, fun _ _ _ h _ => h, fun _ _ _ h _ => h, fun _ _ _ h _ => h, fun _ h => absurd h (by simp)⟩
              · intro i v W W3 hne hph hPP
                rcases i with _ | _ | _ | _ | _ | _ | _ | _ | _ | _ | _ | _ | _ | _ | i
                · exact hph
                · exact hph
                · exact hph
                · exact hph
                · exact hph
                · exact hph
                · exact hph
                · exact hph
                · exact hph
                · obtain ⟨q, h1, h2, h3⟩ := hph; exact ⟨q, h1, h2, (World.grownBy.block hPP q (lt_heap h3) (fun e => by have := (HOW.out.lt q e.symm).2; omega)).trans h3⟩
                · exact absurd rfl hne
                · exact hph
                · exact hph
                · exact hph
                · trivial
              · refine ⟨?_, ?_, ?_, ?_, ?_, ?_, ?_, ?_, ?_, ?_, ?_, ?_, ?_, ?_, trivial⟩
                · refine opA_mk (by decide) rfl fun aa W2 hB hp hq K hK => ?_
                  have e0 : aa.tmps[0]?.getD undef = .pointer (some ⟨P, 0, none⟩) := hp 0 (by kernel_rfl)
                  clear hp hq
                  go_simp
                  exact hK _ _ (RelB.refl _) rfl
                · refine opA_mk (by decide) rfl fun aa W2 hB hp hq K hK => ?_
                  have e1 : aa.tmps[1]?.getD undef = .int .i64 (j : Int) := hp 1 (by kernel_rfl)
                  clear hp hq
                  go_simp
                  exact hK _ _ (RelB.refl _) rfl
                · refine opA_mk (by decide) rfl fun aa W2 hB hp hq K hK => ?_
                  have e0 : aa.tmps[0]?.getD undef = .pointer (some ⟨P, 0, none⟩) := hp 0 (by kernel_rfl)
                  clear hp hq
                  go_simp
                  exact hK _ _ (RelB.refl _) rfl
                · refine opA_mk (by decide) rfl fun aa W2 hB hp hq K hK => ?_
                  have e1 : aa.tmps[1]?.getD undef = .int .i64 (j : Int) := hp 1 (by kernel_rfl)
                  clear hp hq
                  go_simp
                  exact hK _ _ (RelB.refl _) rfl
                · refine opA_mk (by decide) rfl fun aa W2 hB hp hq K hK => ?_
                  have e46 : aa.tmps[46]?.getD undef = .pointer (some ⟨P, 0, none⟩) := hq 2 _ (by kernel_rfl) rfl
                  clear hp hq
                  go_simp
                  exact hK _ _ (RelB.refl _) rfl
                · refine opA_mk (by decide) rfl fun aa W2 hB hp hq K hK => ?_
                  have e48 : aa.tmps[48]?.getD undef = .pointer (some ⟨P, 0, none⟩) := hq 4 _ (by kernel_rfl) rfl
                  clear hp hq
                  go_simp
                  exact hK _ _ (RelB.refl _) rfl
                · refine opA_mk (by decide) rfl fun aa W2 hB hp hq K hK => ?_
                  have e49 : aa.tmps[49]?.getD undef = .pointer (some ⟨P, 2, none⟩) := hq 5 _ (by kernel_rfl) rfl
                  have e47 : aa.tmps[47]?.getD undef = .int .i64 (j : Int) := hq 3 _ (by kernel_rfl) rfl
                  clear hp hq
                  go_simp
                  exact hK _ _ (RelB.refl _) rfl
                · refine opA_mk (by decide) rfl fun aa W2 hB hp hq K hK => ?_
                  have e50 : aa.tmps[50]?.getD undef = .pointer (some ⟨P, 2 + j, none⟩) := hq 6 _ (by kernel_rfl) rfl
                  have cr := (grown_cell hB HPW.out HQP.out (j := 2 + j)).trans (HL5.out.row hj8)
                  rw [HSL.out] at cr
                  clear hp hq
                  go_simp
                  exact hK _ _ (RelB.refl _) rfl
                · refine opA_mk (by decide) rfl fun aa W2 hB hp hq K hK => ?_
                  have e5 : aa.tmps[5]?.getD undef = .pointer (some ⟨w.heap.size, 0, none⟩) := hp 5 (by kernel_rfl)
                  have r0 := (grown_cell hB HRW.out HQR.out (j := 0)).trans (rec_cell0 HRC.out 0 _ rfl)
                  have r1 := (grown_cell hB HRW.out HQR.out (j := 1)).trans (rec_cell0 HRC.out 1 _ rfl)
                  have r2 := (grown_cell hB HRW.out HQR.out (j := 2)).trans (rec_cell0 HRC.out 2 _ rfl)
                  have r3 := (grown_cell hB HRW.out HQR.out (j := 3)).trans (rec_cell0 HRC.out 3 _ rfl)
                  have r4 := (grown_cell hB HRW.out HQR.out (j := 4)).trans (rec_cell0 HRC.out 4 _ rfl)
                  have r5 := (grown_cell hB HRW.out HQR.out (j := 5)).trans (rec_cell0 HRC.out 5 _ rfl)
                  have r6 := (grown_cell hB HRW.out HQR.out (j := 6)).trans (rec_cell0 HRC.out 6 _ rfl)
                  have r7 := (grown_cell hB HRW.out HQR.out (j := 7)).trans (rec_cell0 HRC.out 7 _ rfl)
                  have r8 := (grown_cell hB HRW.out HQR.out (j := 8)).trans (rec_cell0 HRC.out 8 _ rfl)
                  have r9 := (grown_cell hB HRW.out HQR.out (j := 9)).trans (rec_cell0 HRC.out 9 _ rfl)
                  have r10 := (grown_cell hB HRW.out HQR.out (j := 10)).trans (rec_cell0 HRC.out 10 _ rfl)
                  have r11 := (grown_cell hB HRW.out HQR.out (j := 11)).trans (rec_cell0 HRC.out 11 _ rfl)
                  clear hp hq
                  go_simp
                  exact hK _ _ (RelB.refl _) rfl
                · refine opA_mk (by decide) rfl fun aa W2 hB hp hq K hK => ?_
                  have e52 : aa.tmps[52]?.getD undef = .agg #[.int .u64 r.stamp, .int .u8 r.act, .int .u32 r.dir, .string r.name, .int .u32 r.ino, .int .u8 r.kind, .int .u32 r.dir2, .string r.name2, .int .u32 r.old, .int .u32 r.size, .int .i64 r.page, .string r.data] := hq 8 _ (by kernel_rfl) rfl
                  clear hp hq
                  go_simp
                  exact hK _ _ (RelB.of (below_a1' W2 _)) ⟨W2.heap.size, rfl, hB.size, heap_alloc_new _ _⟩
                · refine opP_mk rfl rfl fun aa W2 hB hp hq K hK => ?_
                  have e51 : aa.tmps[51]?.getD undef = .slice A m cap := hq 7 _ (by kernel_rfl) rfl
                  obtain ⟨q, e53, hq1, hq2⟩ := hq 9 _ (by kernel_rfl) rfl
                  have e53 : aa.tmps[53]?.getD undef = .slice (some ⟨q, 0, none⟩) 1 1 := e53
                  obtain ⟨v1, w8, hrun, hg2, hg3, hg4⟩ := run_append_rec2 (P + 1) 37 W2 (.slice A m cap) (x.rows j) m HM.out (row_below HOW.out hB) q r hq2 (by have := HLEN.out; rw [HM.out] at this; omega) (by have := Below.size hB; have := HPW.out; omega)
                  obtain ⟨A1, c1, rfl⟩ := row_slice hg2
                  clear hp hq
                  have hs : aa.eval (.tmp 51) = .slice A m cap := by simpa [Act.eval] using e51
                  have hx : aa.eval (.tmp 53) = .slice (some ⟨q, 0, none⟩) 1 1 := by simpa [Act.eval] using e53
                  unfold Oper.wp execOp
                  simp only [resolve, invoke, builtin, Sem.run_bind, Sem.run_pure, Result.andThen_ok, List.map_toArray, List.map_cons, List.map_nil, hs, hx, hrun]
                  exact hK _ _ hg3 ⟨A1, c1, rfl, hg2, fun q hq => (hg4 q hq).elim .inl (fun h => .inr (Nat.le_trans (Below.size hB) h))⟩
                · refine opA_mk (by decide) rfl fun aa W2 hB hp hq K hK => ?_
                  have e44 : aa.tmps[44]?.getD undef = .pointer (some ⟨P, 0, none⟩) := hq 0 _ (by kernel_rfl) rfl
                  clear hp hq
                  go_simp
                  exact hK _ _ (RelB.refl _) rfl
                · refine opA_mk (by decide) rfl fun aa W2 hB hp hq K hK => ?_
                  have e55 : aa.tmps[55]?.getD undef = .pointer (some ⟨P, 0, none⟩) := hq 11 _ (by kernel_rfl) rfl
                  clear hp hq
                  go_simp
                  exact hK _ _ (RelB.refl _) rfl
                · refine opA_mk (by decide) rfl fun aa W2 hB hp hq K hK => ?_
                  have e56 : aa.tmps[56]?.getD undef = .pointer (some ⟨P, 2, none⟩) := hq 12 _ (by kernel_rfl) rfl
                  have e45 : aa.tmps[45]?.getD undef = .int .i64 (j : Int) := hq 1 _ (by kernel_rfl) rfl
                  clear hp hq
                  go_simp
                  exact hK _ _ (RelB.refl _) rfl
              · intro oN hoN aa W2 hB hp hq K hK
                obtain rfl := Option.some.inj hoN
                have e57 : aa.tmps[57]?.getD undef = .pointer (some ⟨P, 2 + j, none⟩) := hq 13 _ (by decide) rfl
                obtain ⟨A1, c1, e54, hr1, hr2⟩ := hq 10 _ (by decide) rfl
                have e54 : aa.tmps[54]?.getD undef = .slice A1 (m + 1) c1 := e54
                have cr := (grown_cell hB HPW.out HQP.out (j := 2 + j)).trans (HL5.out.row hj8)
                have fr : W2.frozen? ⟨P, 2 + j, none⟩ = false := (World.frozen?_of_block (a := ⟨P, 2 + j, none⟩) (World.grownBy.block hB P HPW.out (fun e => HQP.out e.symm))).trans (HL5.out.frozen _)
                have hlr : (x.rows j ++ [r]).length = m + 1 := by rw [List.length_append, HM.out]; rfl
                have hset := HL5.out.setRow hj8 (W2 := W2) (by rw [HSL.out]; exact hB) (.slice A1 (m + 1) c1) (x.rows j ++ [r]) (by rw [hlr]; exact hr1) (by rw [HSL.out]; exact hr2) (fun z hz => (List.mem_append.1 hz).elim (HL5.out.ok j hj8 z) (fun h => by rw [List.mem_singleton] at h; rw [h]; exact hr)) (by rw [hlr]; have := HSM.out; omega)
                have HSET := Lib.hid hset
                clear hp hq hset hr1 hr2
                go_simp
                refine hK _ ⟨_, HSET.out.1, HSET.out.2, ?_⟩
                rw [heap_set_ne _ _ _ _ _ (by have := HLA.out.lt; have := HPn.out; omega)]
                exact (World.grownBy.block hB _ HRW.out (fun e => HQR.out e.symm)).trans HRC.out
              · intro vs3 W3 hF hv
                obtain ⟨w7, hw7⟩ : ∃ w7 : World, w7 = W3 := ⟨_, rfl⟩
                subst hw7
                obtain ⟨ls7, hL7, hT7, hR7⟩ := hF
                have HL7 := Lib.hid hL7
                have HT7 := Lib.hid hT7
                have HR7 := Lib.hid hR7
                clear hL7 hT7 hR7 hv
                simp only [List.take_succ_cons, List.take_zero, putAll, Act.put, List.setIfInBounds_toArray, List.set_cons_succ, List.set_cons_zero, Nat.zero_add, Nat.reduceAdd]
                go_wp2
                refine wp_region_last 7 RelB (phi [isV (.pointer (some ⟨P, 0, none⟩)), isV (.int .i64 (j : Int)), isV (.pointer (some ⟨w.heap.size, 0, none⟩)), isV (.int .u64 r.stamp), isV (.pointer (some ⟨P, 0, none⟩)), isV (.pointer (some ⟨P, 10, none⟩)), isV (.pointer (some ⟨P, 10 + j, none⟩))]) (fun W => LogAt W P ls7 { x with rows := setF x.rows j (x.rows j ++ [r]), last := setF x.last j r.stamp } ∧ Turn w5 W (Fl P ls) (Fl P ls7)) (by kernel_rfl) (by kernel_rfl) (by kernel_rfl) (RelB.of (below_drew _)) (fun _ _ _ a b => a.trans b) ?_ ?_ ?_ ?_
                · refine stays_phiR ?_
                  simp only [List.forall_mem_cons]
                  exact ⟨fun _ _ _ h _ => h, fun _ _ _ h _ => h, fun _ _ _ h _ => h, fun _ _ _ h _ => h, fun _ _ _ h _ => h, fun _ _ _ h _ => h, fun _ _ _ h _ => h, fun _ h => absurd h (by simp)⟩
                · refine ⟨?_, ?_, ?_, ?_, ?_, ?_, ?_, trivial⟩
                  · refine opR_mk rfl fun aa W2 hB hp hq K hK => ?_
                    have e0 : aa.tmps[0]?.getD undef = .pointer (some ⟨P, 0, none⟩) := hp 0 (by kernel_rfl)
                    clear hp hq
                    go_simp
                    exact hK _ _ (RelB.refl _) rfl
                  · refine opR_mk rfl fun aa W2 hB hp hq K hK => ?_
                    have e1 : aa.tmps[1]?.getD undef = .int .i64 (j : Int) := hp 1 (by kernel_rfl)
                    clear hp hq
                    go_simp
                    exact hK _ _ (RelB.refl _) rfl
                  · refine opR_mk rfl fun aa W2 hB hp hq K hK => ?_
                    have e5 : aa.tmps[5]?.getD undef = .pointer (some ⟨w.heap.size, 0, none⟩) := hp 5 (by kernel_rfl)
                    clear hp hq
                    go_simp
                    exact hK _ _ (RelB.refl _) rfl
                  · refine opR_mk rfl fun aa W2 hB hp hq K hK => ?_
                    have e60 : aa.tmps[60]?.getD undef = .pointer (some ⟨w.heap.size, 0, none⟩) := hq 2 _ (by kernel_rfl) rfl
                    have r0 := rec_cell0 (RelB.rec hB HR7.out) 0 _ rfl
                    clear hp hq
                    go_simp
                    exact hK _ _ (RelB.refl _) rfl
                  · refine opR_mk rfl fun aa W2 hB hp hq K hK => ?_
                    have e58 : aa.tmps[58]?.getD undef = .pointer (some ⟨P, 0, none⟩) := hq 0 _ (by kernel_rfl) rfl
                    clear hp hq
                    go_simp
                    exact hK _ _ (RelB.refl _) rfl
                  · refine opR_mk rfl fun aa W2 hB hp hq K hK => ?_
                    have e62 : aa.tmps[62]?.getD undef = .pointer (some ⟨P, 0, none⟩) := hq 4 _ (by kernel_rfl) rfl
                    clear hp hq
                    go_simp
                    exact hK _ _ (RelB.refl _) rfl
                  · refine opR_mk rfl fun aa W2 hB hp hq K hK => ?_
                    have e63 : aa.tmps[63]?.getD undef = .pointer (some ⟨P, 10, none⟩) := hq 5 _ (by kernel_rfl) rfl
                    have e59 : aa.tmps[59]?.getD undef = .int .i64 (j : Int) := hq 1 _ (by kernel_rfl) rfl
                    clear hp hq
                    go_simp
                    exact hK _ _ (RelB.refl _) rfl
                · intro oN hoN aa W2 hB hp hq K hK
                  obtain rfl := Option.some.inj hoN
                  have e64 : aa.tmps[64]?.getD undef = .pointer (some ⟨P, 10 + j, none⟩) := hq 6 _ (by decide) rfl
                  have e61 : aa.tmps[61]?.getD undef = .int .u64 r.stamp := hq 3 _ (by decide) rfl
                  have cl := (HL7.out.below hB).lst hj8
                  have fl := (HL7.out.below hB).frozen (10 + j)
                  have hset := (HL7.out.below hB).setLast hj8 r.stamp
                  have HSET := Lib.hid hset
                  clear hp hq hset
                  go_simp
                  exact hK _ ⟨HSET.out.1, (HT7.out.trans (Turn.of_below _ hB)).trans HSET.out.2⟩
                · intro vs W3 hF hv
                  have HF3 := Lib.hid hF
                  clear hF hv
                  simp only [List.take_succ_cons, List.take_zero, putAll, Act.put, List.setIfInBounds_toArray, List.set_cons_succ, List.set_cons_zero, Nat.zero_add, Nat.reduceAdd]
                  go_wp2
                  go_ret
                  refine ⟨by rw [hpe0.out]; rfl, ls7, ?_, (Turn.of_below _ HB5.out).trans HF3.out.2, fun h => absurd hpe0.out h⟩
                  unfold putL
                  rw [if_pos hpe0.out]
                  exact HF3.out.1
          · have hfull2 : x.most ≤ m := by omega
            have hpe0 : Hid (putE x (j : Int) r = 4) := by show _ = _; rw [HPE.out, HM.out, if_neg hfull]
            have HPL := Lib.hid (HST.out x (by rw [hpe0.out]; decide))
            clear hfull
            go_wp2
            refine wp_region_rel RelB (phi [isV (.pointer (some ⟨P, 0, none⟩)), isV (.int .i64 (j : Int)), isV (.pointer (some ⟨P, 0, none⟩)), isV (.pointer (some ⟨P, 2, none⟩)), isV (.pointer (some ⟨P, 2 + j, none⟩)), isV (.slice A m cap), isV (.int .i64 (m : Int)), isV (.pointer (some ⟨P, 0, none⟩)), isV (.pointer (some ⟨P, 0, none⟩)), isV (.pointer (some ⟨P, 1, none⟩)), isV (.int .i64 (x.most : Int)), isV (.bool true), isV (.bool true)]) (by kernel_rfl) (by kernel_rfl) (by kernel_rfl) (RelB.of (below_drew _)) (fun _ _ _ a b => a.trans b) ?_ ?_ ?_
            · refine stays_phiR ?_
              simp only [List.forall_mem_cons]
              exact ⟨fun _ _ _ h _ => h, fun _ _ _ h _ => h, fun _ _ _ h _ => h, fun _ _ _ h _ => h, fun _ _ _ h _ => h, fun _ _ _ h _ => h, fun _ _ _ h _ => h, fun _ _ _ h _ => h, fun _ _ _ h _ => h, fun _ _ _ h _ => h, fun _ _ _ h _ => h, fun _ _ _ h _ => h, fun _ _ _ h _ => h, fun _ h => absurd h (by simp)⟩
            · refine ⟨?_, ?_, ?_, ?_, ?_, ?_, ?_, ?_, ?_, ?_, ?_, ?_, ?_, trivial⟩
              · refine opR_mk rfl fun aa W2 hB hp hq K hK => ?_
                have e0 : aa.tmps[0]?.getD undef = .pointer (some ⟨P, 0, none⟩) := hp 0 (by kernel_rfl)
                clear hp hq
                go_simp
                exact hK _ _ (RelB.refl _) rfl
              · refine opR_mk rfl fun aa W2 hB hp hq K hK => ?_
                have e1 : aa.tmps[1]?.getD undef = .int .i64 (j : Int) := hp 1 (by kernel_rfl)
                clear hp hq
                go_simp
                exact hK _ _ (RelB.refl _) rfl
              · refine opR_mk rfl fun aa W2 hB hp hq K hK => ?_
                have e32 : aa.tmps[32]?.getD undef = .pointer (some ⟨P, 0, none⟩) := hq 0 _ (by kernel_rfl) rfl
                clear hp hq
                go_simp
                exact hK _ _ (RelB.refl _) rfl
              · refine opR_mk rfl fun aa W2 hB hp hq K hK => ?_
                have e34 : aa.tmps[34]?.getD undef = .pointer (some ⟨P, 0, none⟩) := hq 2 _ (by kernel_rfl) rfl
                clear hp hq
                go_simp
                exact hK _ _ (RelB.refl _) rfl
              · refine opR_mk rfl fun aa W2 hB hp hq K hK => ?_
                have e35 : aa.tmps[35]?.getD undef = .pointer (some ⟨P, 2, none⟩) := hq 3 _ (by kernel_rfl) rfl
                have e33 : aa.tmps[33]?.getD undef = .int .i64 (j : Int) := hq 1 _ (by kernel_rfl) rfl
                clear hp hq
                go_simp
                exact hK _ _ (RelB.refl _) rfl
              · refine opR_mk rfl fun aa W2 hB hp hq K hK => ?_
                have e36 : aa.tmps[36]?.getD undef = .pointer (some ⟨P, 2 + j, none⟩) := hq 4 _ (by kernel_rfl) rfl
                have cr := (HL3.out.below hB).row hj8
                rw [HSL.out] at cr
                clear hp hq
                go_simp
                exact hK _ _ (RelB.refl _) rfl
              · refine opR_mk rfl fun aa W2 hB hp hq K hK => ?_
                have e37 : aa.tmps[37]?.getD undef = .slice A m cap := hq 5 _ (by kernel_rfl) rfl
                clear hp hq
                go_simp
                exact hK _ _ (RelB.refl _) rfl
              · refine opR_mk rfl fun aa W2 hB hp hq K hK => ?_
                have e0 : aa.tmps[0]?.getD undef = .pointer (some ⟨P, 0, none⟩) := hp 0 (by kernel_rfl)
                clear hp hq
                go_simp
                exact hK _ _ (RelB.refl _) rfl
              · refine opR_mk rfl fun aa W2 hB hp hq K hK => ?_
                have e39 : aa.tmps[39]?.getD undef = .pointer (some ⟨P, 0, none⟩) := hq 7 _ (by kernel_rfl) rfl
                clear hp hq
                go_simp
                exact hK _ _ (RelB.refl _) rfl
              · refine opR_mk rfl fun aa W2 hB hp hq K hK => ?_
                have e40 : aa.tmps[40]?.getD undef = .pointer (some ⟨P, 0, none⟩) := hq 8 _ (by kernel_rfl) rfl
                clear hp hq
                go_simp
                exact hK _ _ (RelB.refl _) rfl
              · refine opR_mk rfl fun aa W2 hB hp hq K hK => ?_
                have e41 : aa.tmps[41]?.getD undef = .pointer (some ⟨P, 1, none⟩) := hq 9 _ (by kernel_rfl) rfl
                have cm := (HL3.out.below hB).c1
                clear hp hq
                go_simp
                exact hK _ _ (RelB.refl _) rfl
              · refine opR_mk rfl fun aa W2 hB hp hq K hK => ?_
                have e38 : aa.tmps[38]?.getD undef = .int .i64 (m : Int) := hq 6 _ (by kernel_rfl) rfl
                have e42 : aa.tmps[42]?.getD undef = .int .i64 (x.most : Int) := hq 10 _ (by kernel_rfl) rfl
                clear hp hq
                go_simp
                exact hK _ _ (RelB.refl _) rfl
              · refine opR_mk rfl fun aa W2 hB hp hq K hK => ?_
                have e43 : aa.tmps[43]?.getD undef = .bool true := hq 11 _ (by kernel_rfl) rfl
                clear hp hq
                go_simp
                exact hK _ _ (RelB.refl _) rfl
            · intro vs W3 hB3 hv3 _
              have v12 : vs 12 = .bool true := hv3 12 _ rfl rfl
              have HB5 := Lib.hid (ptrans HB3.out hB3)
              have HL5 := Lib.hid (HL3.out.below hB3)
              clear hB3 hv3
              simp only [List.take_succ_cons, List.take_zero, putAll, Act.put, List.setIfInBounds_toArray, List.set_cons_succ, List.set_cons_zero, Nat.zero_add, Nat.reduceAdd, v12]
              go_wp2
              go_ret
              refine ⟨by rw [hpe0.out]; rfl, ls, ?_, Turn.of_below _ HB5.out, fun _ => HB5.out⟩
              rw [HPL.out]
              exact HL5.out
      · have hpe : putE x (j : Int) r = 2 := by unfold putE; rw [if_neg (by rintro ⟨_, _, _, h4⟩; exact hls (by simpa using h4))]
        have HPE := Lib.hid hpe
        have HPL := Lib.hid (hst x (by rw [hpe]; decide))
        have HK := Lib.hid hk
        have hls2 : r.stamp ≤ x.last j := by omega
        have hji : ((j : Nat) : Int) < 8 := by omega
        clear h hce hpe hst hck hk hls
        go_enter Tryz.func13, Tryz.ntmps13
        go_wp2
        refine wp_region_rel RelB (phi [isV (.pointer (some ⟨P, 0, none⟩)), isV (.int .i64 (j : Int)), isV (.bool true), isV (.bool false), isV (.bool false), isV (.agg #[.int .u64 r.stamp, .int .u8 r.act, .int .u32 r.dir, .string r.name, .int .u32 r.ino, .int .u8 r.kind, .int .u32 r.dir2, .string r.name2, .int .u32 r.old, .int .u32 r.size, .int .i64 r.page, .string r.data]), isV (.int .i64 0), isV (.bool false), isV (.bool false), isV (.bool false), isV (.pointer (some ⟨w.heap.size, 0, none⟩)), isV (.int .u64 r.stamp), isV (.pointer (some ⟨P, 0, none⟩)), isV (.int .i64 (j : Int)), isV (.pointer (some ⟨P, 0, none⟩)), isV (.pointer (some ⟨P, 10, none⟩)), isV (.pointer (some ⟨P, 10 + j, none⟩)), isV (.int .u64 (x.last j)), isV (.bool true), isV (.bool true), isV (.bool true)]) (by kernel_rfl) (by kernel_rfl) (by kernel_rfl) (RelB.of (below_drew _)) (fun _ _ _ a b => a.trans b) ?_ ?_ ?_
        · refine stays_phiR ?_
          simp only [List.forall_mem_cons]
          exact ⟨fun _ _ _ h _ => h, fun _ _ _ h _ => h, fun _ _ _ h _ => h, fun _ _ _ h _ => h, fun _ _ _ h _ => h, fun _ _ _ h _ => h, fun _ _ _ h _ => h, fun _ _ _ h _ => h, fun _ _ _ h _ => h, fun _ _ _ h _ => h, fun _ _ _ h _ => h, fun _ _ _ h _ => h, fun _ _ _ h _ => h, fun _ _ _ h _ => h, fun _ _ _ h _ => h, fun _ _ _ h _ => h, fun _ _ _ h _ => h, fun _ _ _ h _ => h, fun _ _ _ h _ => h, fun _ _ _ h _ => h, fun _ _ _ h _ => h, fun _ h => absurd h (by simp)⟩
        · refine ⟨?_, ?_, ?_, ?_, ?_, ?_, ?_, ?_, ?_, ?_, ?_, ?_, ?_, ?_, ?_, ?_, ?_, ?_, ?_, ?_, ?_, trivial⟩
          · refine opR_mk rfl fun aa W2 hB hp hq K hK => ?_
            have e0 : aa.tmps[0]?.getD undef = .pointer (some ⟨P, 0, none⟩) := hp 0 (by kernel_rfl)
            clear hp hq
            go_simp
            exact hK _ _ (RelB.refl _) rfl
          · refine opR_mk rfl fun aa W2 hB hp hq K hK => ?_
            have e1 : aa.tmps[1]?.getD undef = .int .i64 (j : Int) := hp 1 (by kernel_rfl)
            clear hp hq
            go_simp
            exact hK _ _ (RelB.refl _) rfl
          · refine opR_mk rfl fun aa W2 hB hp hq K hK => ?_
            have e11 : aa.tmps[11]?.getD undef = .pointer (some ⟨P, 0, none⟩) := hq 0 _ (by kernel_rfl) rfl
            have e12 : aa.tmps[12]?.getD undef = .int .i64 (j : Int) := hq 1 _ (by kernel_rfl) rfl
            clear hp hq
            go_simp
            refine (t_has P (j : Int) (x.cores : Int) true (decide_eq_true HK.out) W2 (HLA.out.below hB).c0).mono ?_
            rintro e w2 ⟨rfl, rfl⟩
            exact hK _ _ (RelB.refl _) rfl
          · refine opR_mk rfl fun aa W2 hB hp hq K hK => ?_
            have e13 : aa.tmps[13]?.getD undef = .bool true := hq 2 _ (by kernel_rfl) rfl
            clear hp hq
            go_simp
            exact hK _ _ (RelB.refl _) rfl
          · refine opR_mk rfl fun aa W2 hB hp hq K hK => ?_
            have e14 : aa.tmps[14]?.getD undef = .bool false := hq 3 _ (by kernel_rfl) rfl
            clear hp hq
            go_simp
            exact hK _ _ (RelB.refl _) rfl
          · refine opR_guard (j := 4) (d := 15) (c := false) rfl rfl (by kernel_rfl) rfl rfl (fun v W h => h) (fun _ => RelB.refl _) (fun hne => absurd rfl hne) fun hc aa W2 hB hp hq K hK => ?_
            have e5 : aa.tmps[5]?.getD undef = .pointer (some ⟨w.heap.size, 0, none⟩) := hp 5 (by kernel_rfl)
            have r0 := rec_cell0 (RelB.rec hB HRA.out) 0 _ rfl
            have r1 := rec_cell0 (RelB.rec hB HRA.out) 1 _ rfl
            have r2 := rec_cell0 (RelB.rec hB HRA.out) 2 _ rfl
            have r3 := rec_cell0 (RelB.rec hB HRA.out) 3 _ rfl
            have r4 := rec_cell0 (RelB.rec hB HRA.out) 4 _ rfl
            have r5 := rec_cell0 (RelB.rec hB HRA.out) 5 _ rfl
            have r6 := rec_cell0 (RelB.rec hB HRA.out) 6 _ rfl
            have r7 := rec_cell0 (RelB.rec hB HRA.out) 7 _ rfl
            have r8 := rec_cell0 (RelB.rec hB HRA.out) 8 _ rfl
            have r9 := rec_cell0 (RelB.rec hB HRA.out) 9 _ rfl
            have r10 := rec_cell0 (RelB.rec hB HRA.out) 10 _ rfl
            have r11 := rec_cell0 (RelB.rec hB HRA.out) 11 _ rfl
            clear hp hq
            go_simp
            exact hK _ _ (RelB.refl _) rfl
          · refine opR_guard (j := 4) (d := 15) (c := false) rfl rfl (by kernel_rfl) rfl rfl (fun v W h => h) (fun _ => RelB.refl _) (fun hne => absurd rfl hne) fun hc aa W2 hB hp hq K hK => ?_
            have e16 : aa.tmps[16]?.getD undef = .agg #[.int .u64 r.stamp, .int .u8 r.act, .int .u32 r.dir, .string r.name, .int .u32 r.ino, .int .u8 r.kind, .int .u32 r.dir2, .string r.name2, .int .u32 r.old, .int .u32 r.size, .int .i64 r.page, .string r.data] := hq 5 _ (by kernel_rfl) rfl
            clear hp hq
            go_simp
            refine (HCH.out W2).mono ?_
            rintro e w2 ⟨rfl, hb2⟩
            exact hK _ _ (RelB.of hb2) (by show Value.int .i64 (checkE r) = _; rw [HCE.out])
          · refine opR_guard (j := 4) (d := 15) (c := false) rfl rfl (by kernel_rfl) rfl rfl (fun v W h => h) (fun _ => RelB.refl _) (fun hne => absurd rfl hne) fun hc aa W2 hB hp hq K hK => ?_
            have e17 : aa.tmps[17]?.getD undef = .int .i64 0 := hq 6 _ (by kernel_rfl) rfl
            clear hp hq
            go_simp
            exact hK _ _ (RelB.refl _) rfl
          · refine opR_mk rfl fun aa W2 hB hp hq K hK => ?_
            have e15 : aa.tmps[15]?.getD undef = .bool false := hq 4 _ (by kernel_rfl) rfl
            have e18 : aa.tmps[18]?.getD undef = .bool false := hq 7 _ (by kernel_rfl) rfl
            clear hp hq
            go_simp
            exact hK _ _ (RelB.refl _) rfl
          · refine opR_mk rfl fun aa W2 hB hp hq K hK => ?_
            have e19 : aa.tmps[19]?.getD undef = .bool false := hq 8 _ (by kernel_rfl) rfl
            clear hp hq
            go_simp
            exact hK _ _ (RelB.refl _) rfl
          · refine opR_guard (j := 9) (d := 20) (c := false) rfl rfl (by kernel_rfl) rfl rfl (fun v W h => h) (fun _ => RelB.refl _) (fun hne => absurd rfl hne) fun hc aa W2 hB hp hq K hK => ?_
            have e5 : aa.tmps[5]?.getD undef = .pointer (some ⟨w.heap.size, 0, none⟩) := hp 5 (by kernel_rfl)
            clear hp hq
            go_simp
            exact hK _ _ (RelB.refl _) rfl
          · refine opR_guard (j := 9) (d := 20) (c := false) rfl rfl (by kernel_rfl) rfl rfl (fun v W h => h) (fun _ => RelB.refl _) (fun hne => absurd rfl hne) fun hc aa W2 hB hp hq K hK => ?_
            have e21 : aa.tmps[21]?.getD undef = .pointer (some ⟨w.heap.size, 0, none⟩) := hq 10 _ (by kernel_rfl) rfl
            have r0 := rec_cell0 (RelB.rec hB HRA.out) 0 _ rfl
            clear hp hq
            go_simp
            exact hK _ _ (RelB.refl _) rfl
          · refine opR_guard (j := 9) (d := 20) (c := false) rfl rfl (by kernel_rfl) rfl rfl (fun v W h => h) (fun _ => RelB.refl _) (fun hne => absurd rfl hne) fun hc aa W2 hB hp hq K hK => ?_
            have e0 : aa.tmps[0]?.getD undef = .pointer (some ⟨P, 0, none⟩) := hp 0 (by kernel_rfl)
            clear hp hq
            go_simp
            exact hK _ _ (RelB.refl _) rfl
          · refine opR_guard (j := 9) (d := 20) (c := false) rfl rfl (by kernel_rfl) rfl rfl (fun v W h => h) (fun _ => RelB.refl _) (fun hne => absurd rfl hne) fun hc aa W2 hB hp hq K hK => ?_
            have e1 : aa.tmps[1]?.getD undef = .int .i64 (j : Int) := hp 1 (by kernel_rfl)
            clear hp hq
            go_simp
            exact hK _ _ (RelB.refl _) rfl
          · refine opR_guard (j := 9) (d := 20) (c := false) rfl rfl (by kernel_rfl) rfl rfl (fun v W h => h) (fun _ => RelB.refl _) (fun hne => absurd rfl hne) fun hc aa W2 hB hp hq K hK => ?_
            have e23 : aa.tmps[23]?.getD undef = .pointer (some ⟨P, 0, none⟩) := hq 12 _ (by kernel_rfl) rfl
            clear hp hq
            go_simp
            exact hK _ _ (RelB.refl _) rfl
          · refine opR_guard (j := 9) (d := 20) (c := false) rfl rfl (by kernel_rfl) rfl rfl (fun v W h => h) (fun _ => RelB.refl _) (fun hne => absurd rfl hne) fun hc aa W2 hB hp hq K hK => ?_
            have e25 : aa.tmps[25]?.getD undef = .pointer (some ⟨P, 0, none⟩) := hq 14 _ (by kernel_rfl) rfl
            clear hp hq
            go_simp
            exact hK _ _ (RelB.refl _) rfl
          · refine opR_guard (j := 9) (d := 20) (c := false) rfl rfl (by kernel_rfl) rfl rfl (fun v W h => h) (fun _ => RelB.refl _) (fun hne => absurd rfl hne) fun hc aa W2 hB hp hq K hK => ?_
            have e26 : aa.tmps[26]?.getD undef = .pointer (some ⟨P, 10, none⟩) := hq 15 _ (by kernel_rfl) rfl
            have e24 : aa.tmps[24]?.getD undef = .int .i64 (j : Int) := hq 13 _ (by kernel_rfl) rfl
            clear hp hq
            go_simp
            exact hK _ _ (RelB.refl _) rfl
          · refine opR_guard (j := 9) (d := 20) (c := false) rfl rfl (by kernel_rfl) rfl rfl (fun v W h => h) (fun _ => RelB.refl _) (fun hne => absurd rfl hne) fun hc aa W2 hB hp hq K hK => ?_
            have e27 : aa.tmps[27]?.getD undef = .pointer (some ⟨P, 10 + j, none⟩) := hq 16 _ (by kernel_rfl) rfl
            have cl := (HLA.out.below hB).lst hj8
            clear hp hq
            go_simp
            exact hK _ _ (RelB.refl _) rfl
          · refine opR_guard (j := 9) (d := 20) (c := false) rfl rfl (by kernel_rfl) rfl rfl (fun v W h => h) (fun _ => RelB.refl _) (fun hne => absurd rfl hne) fun hc aa W2 hB hp hq K hK => ?_
            have e22 : aa.tmps[22]?.getD undef = .int .u64 r.stamp := hq 11 _ (by kernel_rfl) rfl
            have e28 : aa.tmps[28]?.getD undef = .int .u64 (x.last j) := hq 17 _ (by kernel_rfl) rfl
            clear hp hq
            go_simp
            exact hK _ _ (RelB.refl _) rfl
          · refine opR_mk rfl fun aa W2 hB hp hq K hK => ?_
            have e20 : aa.tmps[20]?.getD undef = .bool false := hq 9 _ (by kernel_rfl) rfl
            have e29 : aa.tmps[29]?.getD undef = .bool true := hq 18 _ (by kernel_rfl) rfl
            clear hp hq
            go_simp
            exact hK _ _ (RelB.refl _) rfl
          · refine opR_mk rfl fun aa W2 hB hp hq K hK => ?_
            have e30 : aa.tmps[30]?.getD undef = .bool true := hq 19 _ (by kernel_rfl) rfl
            clear hp hq
            go_simp
            exact hK _ _ (RelB.refl _) rfl
        · intro vs W3 hB3 hv3 _
          have v20 : vs 20 = .bool true := hv3 20 _ rfl rfl
          have HB3 := Lib.hid (ptrans (below_a1' w _) hB3)
          have HL3 := Lib.hid (HLA.out.below hB3)
          clear hB3 hv3
          simp only [List.take_succ_cons, List.take_zero, putAll, Act.put, List.setIfInBounds_toArray, List.set_cons_succ, List.set_cons_zero, Nat.zero_add, Nat.reduceAdd, v20]
          go_wp2
          go_ret
          refine ⟨by rw [HPE.out]; rfl, ls, ?_, Turn.of_below _ HB3.out, fun _ => HB3.out⟩
          rw [HPL.out]
          exact HL3.out
  · have hpe : putE x k r = 2 := by unfold putE; rw [if_neg (by rintro ⟨h1, h2, _⟩; exact hk ⟨h1, h2⟩)]
    have HPE := Lib.hid hpe
    have HPL := Lib.hid (hst x (by rw [hpe]; decide))
    have HK := Lib.hid hk
    clear h hpe hst hk
    go_enter Tryz.func13, Tryz.ntmps13
    go_wp2
    refine wp_region_rel RelB (phi [isV (.pointer (some ⟨P, 0, none⟩)), isV (.int .i64 k), isV (.bool false), isV (.bool true), isV (.bool true), (fun _ _ => True), (fun _ _ => True), (fun _ _ => True), isV (.bool true), isV (.bool true), (fun _ _ => True), (fun _ _ => True), (fun _ _ => True), (fun _ _ => True), (fun _ _ => True), (fun _ _ => True), (fun _ _ => True), (fun _ _ => True), (fun _ _ => True), isV (.bool true), isV (.bool true)]) (by kernel_rfl) (by kernel_rfl) (by kernel_rfl) (RelB.of (below_drew _)) (fun _ _ _ a b => a.trans b) ?_ ?_ ?_
    · refine stays_phiR ?_
      simp only [List.forall_mem_cons]
      exact ⟨fun _ _ _ h _ => h, fun _ _ _ h _ => h, fun _ _ _ h _ => h, fun _ _ _ h _ => h, fun _ _ _ h _ => h, fun _ _ _ _ _ => trivial, fun _ _ _ _ _ => trivial, fun _ _ _ _ _ => trivial, fun _ _ _ h _ => h, fun _ _ _ h _ => h, fun _ _ _ _ _ => trivial, fun _ _ _ _ _ => trivial, fun _ _ _ _ _ => trivial, fun _ _ _ _ _ => trivial, fun _ _ _ _ _ => trivial, fun _ _ _ _ _ => trivial, fun _ _ _ _ _ => trivial, fun _ _ _ _ _ => trivial, fun _ _ _ _ _ => trivial, fun _ _ _ h _ => h, fun _ _ _ h _ => h, fun _ h => absurd h (by simp)⟩
    · refine ⟨?_, ?_, ?_, ?_, ?_, ?_, ?_, ?_, ?_, ?_, ?_, ?_, ?_, ?_, ?_, ?_, ?_, ?_, ?_, ?_, ?_, trivial⟩
      · refine opR_mk rfl fun aa W2 hB hp hq K hK => ?_
        have e0 : aa.tmps[0]?.getD undef = .pointer (some ⟨P, 0, none⟩) := hp 0 (by kernel_rfl)
        clear hp hq
        go_simp
        exact hK _ _ (RelB.refl _) rfl
      · refine opR_mk rfl fun aa W2 hB hp hq K hK => ?_
        have e1 : aa.tmps[1]?.getD undef = .int .i64 k := hp 1 (by kernel_rfl)
        clear hp hq
        go_simp
        exact hK _ _ (RelB.refl _) rfl
      · refine opR_mk rfl fun aa W2 hB hp hq K hK => ?_
        have e11 : aa.tmps[11]?.getD undef = .pointer (some ⟨P, 0, none⟩) := hq 0 _ (by kernel_rfl) rfl
        have e12 : aa.tmps[12]?.getD undef = .int .i64 k := hq 1 _ (by kernel_rfl) rfl
        clear hp hq
        go_simp
        refine (t_has P k (x.cores : Int) false (decide_eq_false HK.out) W2 (HLA.out.below hB).c0).mono ?_
        rintro e w2 ⟨rfl, rfl⟩
        exact hK _ _ (RelB.refl _) rfl
      · refine opR_mk rfl fun aa W2 hB hp hq K hK => ?_
        have e13 : aa.tmps[13]?.getD undef = .bool false := hq 2 _ (by kernel_rfl) rfl
        clear hp hq
        go_simp
        exact hK _ _ (RelB.refl _) rfl
      · refine opR_mk rfl fun aa W2 hB hp hq K hK => ?_
        have e14 : aa.tmps[14]?.getD undef = .bool true := hq 3 _ (by kernel_rfl) rfl
        clear hp hq
        go_simp
        exact hK _ _ (RelB.refl _) rfl
      · exact opR_guard (j := 4) (d := 15) (c := true) rfl rfl (by kernel_rfl) rfl rfl (fun v W h => h) (fun _ => RelB.refl _) (fun _ _ => trivial) (fun hc => absurd hc (by decide))
      · exact opR_guard (j := 4) (d := 15) (c := true) rfl rfl (by kernel_rfl) rfl rfl (fun v W h => h) (fun _ => RelB.refl _) (fun _ _ => trivial) (fun hc => absurd hc (by decide))
      · exact opR_guard (j := 4) (d := 15) (c := true) rfl rfl (by kernel_rfl) rfl rfl (fun v W h => h) (fun _ => RelB.refl _) (fun _ _ => trivial) (fun hc => absurd hc (by decide))
      · refine opR_mk rfl fun aa W2 hB hp hq K hK => ?_
        have e15 : aa.tmps[15]?.getD undef = .bool true := hq 4 _ (by kernel_rfl) rfl
        clear hp hq
        go_simp
        exact hK _ _ (RelB.refl _) rfl
      · refine opR_mk rfl fun aa W2 hB hp hq K hK => ?_
        have e19 : aa.tmps[19]?.getD undef = .bool true := hq 8 _ (by kernel_rfl) rfl
        clear hp hq
        go_simp
        exact hK _ _ (RelB.refl _) rfl
      · exact opR_guard (j := 9) (d := 20) (c := true) rfl rfl (by kernel_rfl) rfl rfl (fun v W h => h) (fun _ => RelB.refl _) (fun _ _ => trivial) (fun hc => absurd hc (by decide))
      · exact opR_guard (j := 9) (d := 20) (c := true) rfl rfl (by kernel_rfl) rfl rfl (fun v W h => h) (fun _ => RelB.refl _) (fun _ _ => trivial) (fun hc => absurd hc (by decide))
      · exact opR_guard (j := 9) (d := 20) (c := true) rfl rfl (by kernel_rfl) rfl rfl (fun v W h => h) (fun _ => RelB.refl _) (fun _ _ => trivial) (fun hc => absurd hc (by decide))
      · exact opR_guard (j := 9) (d := 20) (c := true) rfl rfl (by kernel_rfl) rfl rfl (fun v W h => h) (fun _ => RelB.refl _) (fun _ _ => trivial) (fun hc => absurd hc (by decide))
      · exact opR_guard (j := 9) (d := 20) (c := true) rfl rfl (by kernel_rfl) rfl rfl (fun v W h => h) (fun _ => RelB.refl _) (fun _ _ => trivial) (fun hc => absurd hc (by decide))
      · exact opR_guard (j := 9) (d := 20) (c := true) rfl rfl (by kernel_rfl) rfl rfl (fun v W h => h) (fun _ => RelB.refl _) (fun _ _ => trivial) (fun hc => absurd hc (by decide))
      · exact opR_guard (j := 9) (d := 20) (c := true) rfl rfl (by kernel_rfl) rfl rfl (fun v W h => h) (fun _ => RelB.refl _) (fun _ _ => trivial) (fun hc => absurd hc (by decide))
      · exact opR_guard (j := 9) (d := 20) (c := true) rfl rfl (by kernel_rfl) rfl rfl (fun v W h => h) (fun _ => RelB.refl _) (fun _ _ => trivial) (fun hc => absurd hc (by decide))
      · exact opR_guard (j := 9) (d := 20) (c := true) rfl rfl (by kernel_rfl) rfl rfl (fun v W h => h) (fun _ => RelB.refl _) (fun _ _ => trivial) (fun hc => absurd hc (by decide))
      · refine opR_mk rfl fun aa W2 hB hp hq K hK => ?_
        have e20 : aa.tmps[20]?.getD undef = .bool true := hq 9 _ (by kernel_rfl) rfl
        clear hp hq
        go_simp
        exact hK _ _ (RelB.refl _) rfl
      · refine opR_mk rfl fun aa W2 hB hp hq K hK => ?_
        have e30 : aa.tmps[30]?.getD undef = .bool true := hq 19 _ (by kernel_rfl) rfl
        clear hp hq
        go_simp
        exact hK _ _ (RelB.refl _) rfl
    · intro vs W3 hB3 hv3 _
      have v20 : vs 20 = .bool true := hv3 20 _ rfl rfl
      have HB3 := Lib.hid (ptrans (below_a1' w _) hB3)
      have HL3 := Lib.hid (HLA.out.below hB3)
      clear hB3 hv3
      simp only [List.take_succ_cons, List.take_zero, putAll, Act.put, List.setIfInBounds_toArray, List.set_cons_succ, List.set_cons_zero, Nat.zero_add, Nat.reduceAdd, v20]
      go_wp2
      go_ret
      refine ⟨by rw [HPE.out]; rfl, ls, ?_, Turn.of_below _ HB3.out, fun _ => HB3.out⟩
      rw [HPL.out]
      exact HL3.out
end Go.Proofs.YtehckjkihaalfaaGreat
