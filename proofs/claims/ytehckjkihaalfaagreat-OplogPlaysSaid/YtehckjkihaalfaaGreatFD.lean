/- The document's log, walked: Put. -/
import Derived.Test.YtehckjkihaalfaaGreatFA
namespace Go.Proofs.YtehckjkihaalfaaGreat
open Go.RowKit Go.Maps

theorem flat_at {w : World} {b o : Nat} {l : List R} (h : ∀ (k : Nat) (r : R), l[k]? = some r → ∀ (i : Nat) (v : Value), (cellsR r)[i]? = some v → w.cell? ⟨b, o + k * 12 + i, none⟩ = some v) {j : Nat} {u : Value} (hu : (flatR l)[j]? = some u) : w.cell? ⟨b, o + j, none⟩ = some u := by
  have hj := (List.getElem?_eq_some_iff.1 hu).1
  rw [flatR_len'] at hj
  have hk : j / 12 < l.length := by omega
  have hi : j % 12 < 12 := Nat.mod_lt _ (by decide)
  have hr := rAt_get2 hk
  have hv : (cellsR (rAt l (j / 12)))[j % 12]? = some ((cellsR (rAt l (j / 12)))[j % 12]'hi) := Array.getElem?_eq_getElem hi
  have h1 := flatR_get hr hv
  rw [show j / 12 * 12 + j % 12 = j by omega, hu] at h1
  have h2 := h _ _ hr _ _ hv
  rw [show o + j / 12 * 12 + j % 12 = o + j by omega] at h2
  rw [h2, Option.some.inj h1]
theorem run_append_nilR (w : World) (A : Option Addr) (cap : Nat) (l : List R) (m : Nat) (hm : l.length = m) (h : RecsAt w A l) (hm2 : m ≤ 100000) (ty : TypeId) :
    ∃ v w', (Builtin.append_ #[37, 37] ty #[.slice none 0 0, .slice A m cap]).run Tryz.prog w = .ok v w' ∧ w'.ownsRow w.heap.size 34 12 v m (flatR l) ∧ Below w.heap.size w w' := by
  obtain ⟨i0, hi, hz0, hz1, hz2⟩ := infoRec
  cases A with
  | none =>
    have hl : l = [] := by
      cases l with
      | nil => rfl
      | cons a l =>
        obtain ⟨b, o, h1, _⟩ := h.at_ (by simp)
        simp at h1
    subst hl
    obtain rfl : m = 0 := hm.symm
    refine ⟨.slice none 0 0, w, ?_, World.ownsRow_nil _ _ _ _, Below.refl _ _⟩
    simp [Builtin.append_, run_underlying Tryz.underlying37, sizeOf, typeInfo, hi, Builtin.lenOf, Builtin.firstCells]
  | some a =>
    obtain ⟨v', w', hrun, h2, h3, _, _⟩ := run_append_own_at (P := Tryz.prog) w w.heap.size 37 ty 34 i0 _ 12 96 Tryz.underlying37 hi hz0 hz1 hz2 rfl (by decide) (.slice none 0 0) 0 [] (World.ownsRow_nil _ _ _ _) a m cap (flatR l)
      (by rw [flatR_len', hm]) (fun j u hu => by
        have hne : l ≠ [] := fun e => by rw [e] at hu; simp [flatR] at hu
        obtain ⟨b, o, h1, _, h3⟩ := h.at_ hne
        obtain rfl := Option.some.inj h1
        rw [add_flat]
        exact flat_at h3 hu) (flatR_one l) (by unfold maxLen; omega) (by omega) (Nat.le_refl _)
    rw [Nat.zero_add, List.nil_append] at h2
    exact ⟨v', w', hrun, h2, below_none h3⟩
theorem grown_q {w w1 w2 : World} {Q : Nat} (h : Below w.heap.size w w1) (hg : w1.grownBy w2 (some Q)) : w.grownBy w2 (some Q) :=
  ⟨hg.os.trans h.os, hg.tape.trans h.tape, hg.output.trans h.output, Nat.le_trans h.size hg.size, fun b hb hne => (hg.block b (by have := h.size; omega) hne).trans (h.block b hb)⟩
theorem grown_two {w w1 w2 : World} {o : Option Nat} (h : w.grownBy w1 o) (hg : w1.grownBy w2 o) : w.grownBy w2 o :=
  ⟨hg.os.trans h.os, hg.tape.trans h.tape, hg.output.trans h.output, Nat.le_trans h.size hg.size, fun b hb hne => (hg.block b (by have := h.size; omega) hne).trans (h.block b hb hne)⟩
theorem below_grownO {W W' : World} {base : Nat} {o : Option Nat} (hg : W.grownBy W' o) (hs : base ≤ W.heap.size) (ho : ∀ q, o = some q → base ≤ q) : Below base W W' :=
  ⟨hg.os, hg.tape, hg.output, hg.size, fun b hb => hg.block b (by omega) (fun e => by have := ho b e.symm; omega)⟩
theorem own_zero {w : World} {base size n c b o : Nat} {e : TypeId} {A : Option Addr} {xs : List Value} (h : w.ownsRow base e size (.slice A n c) n xs) (hA : A = some ⟨b, o, none⟩) : A = some ⟨b, 0, none⟩ := by
  rcases h.2 with ⟨h1, _⟩ | ⟨g, cap, cur, h1, _⟩
  · simp only [Value.slice.injEq] at h1
    rw [hA] at h1
    simp at h1
  · simp only [Value.slice.injEq] at h1
    rw [hA] at h1 ⊢
    have h2 := Option.some.inj h1.1
    rw [Addr.mk.injEq] at h2
    rw [h2.2.1]
theorem DocAt.grown {w W : World} {Q : Nat} {D : DD} {G : Nat → Prop} {x : PLog} (h : DocAt w Q D G x) (hg : w.grownBy W none) : DocAt W Q D G x := h.below (below_none hg)
/-- A core's last stamp is another one: a new row of stamps. -/
theorem DocAt.setT {w w1 : World} {Q k g c1 : Nat} {D : DD} {G : Nat → Prop} {x : PLog} (h : DocAt w Q D G x) (ho : w1.ownsRow w.heap.size 31 1 (.slice (some ⟨g, 0, none⟩) x.cores c1) x.cores (rowV x.cores fun j => .int .u64 (x.last j))) (hg : w.grownBy w1 none) (s : Int) :
    DocAt ((w1.setCell ⟨g, k, none⟩ (.int .u64 s)).setCell ⟨Q, 2, none⟩ (.slice (some ⟨g, 0, none⟩) x.cores c1)) Q ⟨D.bL, D.cL, g, c1, D.vs⟩ (fun b => G b ∨ b = g) { x with last := setF x.last k s } ∧
      w.grownBy ((w1.setCell ⟨g, k, none⟩ (.int .u64 s)).setCell ⟨Q, 2, none⟩ (.slice (some ⟨g, 0, none⟩) x.cores c1)) (some Q) := by
  have hgl := ho.lt g rfl
  have hQl := h.lt Q h.gQ
  have hw1 : ∀ b, b < w.heap.size → w1.heap[b]? = w.heap[b]? := fun b hb => hg.block b hb (by simp)
  have hold : ∀ b, b < w.heap.size → b ≠ Q → ((w1.setCell ⟨g, k, none⟩ (.int .u64 s)).setCell ⟨Q, 2, none⟩ (.slice (some ⟨g, 0, none⟩) x.cores c1)).heap[b]? = w.heap[b]? := fun b hb hne => by
    rw [heap_set_ne _ _ _ _ _ hne, heap_set_ne _ _ _ _ _ (by omega)]
    exact hw1 b hb
  have hsz : w.heap.size ≤ ((w1.setCell ⟨g, k, none⟩ (.int .u64 s)).setCell ⟨Q, 2, none⟩ (.slice (some ⟨g, 0, none⟩) x.cores c1)).heap.size := by simpa using hg.size
  refine ⟨⟨?_, own_block h.rowL fun q hq => ?_, ?_, .inl h.gQ, ⟨.inl h.gL.1, h.gL.2⟩, ⟨.inr rfl, by show g ≠ Q; omega⟩, fun b hb => ?_, fun j hj => ?_, h.cores8, h.len, h.most256⟩, hg.os, hg.tape, hg.output, hsz, fun b hb hne => hold b hb (fun e => hne (by rw [e]))⟩
  · have h1 : (w1.setCell ⟨g, k, none⟩ (.int .u64 s)).heap[Q]? = some (.cells #[.int .i64 (x.most : Int), .slice (some ⟨D.bL, 0, none⟩) x.cores D.cL, .slice (some ⟨D.bT, 0, none⟩) x.cores D.cT] 99 (0, 0)) := by
      rw [heap_set_ne _ _ _ _ _ (by omega)]
      exact (hw1 Q hQl).trans h.blk
    exact pheap_set _ Q 2 _ _ _ h1
  · have e : D.bL = q := Option.some.inj hq
    subst e
    exact hold _ (h.lt _ h.gL.1) h.gL.2
  · have h1 := (ho.stored k (.int .u64 s)).1
    rw [rowV_set] at h1
    have h2 : rowV x.cores (setF (fun j => Value.int .u64 (x.last j)) k (.int .u64 s)) = rowV x.cores fun j => .int .u64 (setF x.last k s j) := by
      unfold rowV setF
      refine List.map_congr_left fun j _ => ?_
      by_cases e : j = k
      · rw [if_pos e, if_pos e]
      · rw [if_neg e, if_neg e]
    rw [h2] at h1
    exact own_low (own_block h1 fun q hq => heap_set_ne _ _ _ _ _ (by have e : g = q := Option.some.inj hq; omega)) (Nat.zero_le _)
  · rcases hb with hb | rfl
    · exact Nat.lt_of_lt_of_le (h.lt b hb) hsz
    · simpa using hgl.2
  · obtain ⟨A', c', h1, h2, h3⟩ := h.row j hj
    exact ⟨A', c', h1, recs_same h2 hsz fun hne b o hb => hold b (h.lt b (h3 hne b o hb).1) (h3 hne b o hb).2, fun hne b o hb => ⟨.inl (h3 hne b o hb).1, (h3 hne b o hb).2⟩⟩
set_option maxRecDepth 100000 in
set_option maxHeartbeats 16000000 in
theorem t_docPut (Q : Nat) (D : DD) (G : Nat → Prop) (x : PLog) (k : Int) (r : R) (w : World) (h : DocAt w Q D G x) (hr : RecOk r) :
    Calls Tryz.prog 25 #[.pointer (some ⟨Q, 0, none⟩), .int .i64 k, r.val] w fun e w' => e = .returned (.int .i64 (putE x k r)) ∧ ∃ D' G', DocAt w' Q D' G' (putL x k r) ∧ w.grownBy w' (some Q) ∧ (∀ b, G' b → G b ∨ w.heap.size ≤ b) := by
  have hmay := fun W => t_may r W hr.2.1 hr.2.2.1 hr.2.2.2
  rw [may_check] at hmay
  unfold R.val at hmay ⊢
  have HMAY := Lib.hid hmay
  clear hmay
  have hst : putE x k r ≠ 0 → putL x k r = x := fun h0 => by unfold putL; rw [if_neg h0]
  have HST := Lib.hid hst
  have HRA : Hid ((w.alloc (.cells (cellsR r) 34)).heap[w.heap.size]? = some (.cells (cellsR r) 34 (0, 0))) := heap_alloc_new _ _
  have HLA := Lib.hid (h.below (below_a1' w (.cells (cellsR r) 34)))
  have h8 := h.cores8
  have HRK := Lib.hid hr
  have hrow := fun j (hj : j < x.cores) => (h.row j hj)
  have HROK0 : Hid (∀ j, j < x.cores → ∀ s ∈ x.rows j ++ [r], RecOk s) := fun j hj s hs => by
    obtain ⟨_, _, _, h2, _⟩ := h.row j hj
    rcases List.mem_append.1 hs with hs | hs
    · exact h2.ok s hs
    · rw [List.mem_singleton] at hs
      rw [hs]
      exact HRK.out
  have HQ0 := Lib.hid (h.lt Q h.gQ)
  clear hst h hrow
  by_cases hk : 0 ≤ k ∧ k < x.cores
  · obtain ⟨j, rfl⟩ : ∃ j : Nat, k = (j : Int) := ⟨k.toNat, by omega⟩
    have hjc : j < x.cores := by omega
    have hjc' : (j : Int) < (x.cores : Int) := by omega
    have HK := Lib.hid hk
    have HROK := Lib.hid (HROK0.out j hjc)
    clear hk HROK0
    cases hck : checkB r
    · have hpe : putE x (j : Int) r = 2 := by unfold putE; rw [if_neg (by rw [hck]; simp)]
      have HPE := Lib.hid hpe
      have HPL := Lib.hid (HST.out (by rw [hpe]; decide))
      have HCE : Hid (checkB r = false) := hck
      clear hpe hck
      go_enter Tryz.func25, Tryz.ntmps25
      go_upto_region 1 with fail
      refine wp_region_rel RelB (phi [isV (.pointer (some ⟨Q, 0, none⟩)), isV (.int .i64 (j : Int)), isV (.bool true), isV (.bool false), isV (.bool false), isV (.agg #[.int .u64 r.stamp, .int .u8 r.act, .int .u32 r.dir, .string r.name, .int .u32 r.ino, .int .u8 r.kind, .int .u32 r.dir2, .string r.name2, .int .u32 r.old, .int .u32 r.size, .int .i64 r.page, .string r.data]), isV (.bool false), isV (.bool true), isV (.bool true), isV (.bool true), (fun _ _ => True), (fun _ _ => True), (fun _ _ => True), (fun _ _ => True), (fun _ _ => True), (fun _ _ => True), (fun _ _ => True), (fun _ _ => True), (fun _ _ => True), (fun _ _ => True), isV (.bool true)]) (by kernel_rfl) (by kernel_rfl) (by kernel_rfl) (RelB.of (below_drew _)) (fun _ _ _ a b => a.trans b) ?_ ?_ ?_
      · refine stays_phiR ?_
        simp only [List.forall_mem_cons]
        exact ⟨fun _ _ _ h _ => h, fun _ _ _ h _ => h, fun _ _ _ h _ => h, fun _ _ _ h _ => h, fun _ _ _ h _ => h, fun _ _ _ h _ => h, fun _ _ _ h _ => h, fun _ _ _ h _ => h, fun _ _ _ h _ => h, fun _ _ _ h _ => h, fun _ _ _ _ _ => trivial, fun _ _ _ _ _ => trivial, fun _ _ _ _ _ => trivial, fun _ _ _ _ _ => trivial, fun _ _ _ _ _ => trivial, fun _ _ _ _ _ => trivial, fun _ _ _ _ _ => trivial, fun _ _ _ _ _ => trivial, fun _ _ _ _ _ => trivial, fun _ _ _ _ _ => trivial, fun _ _ _ h _ => h, fun _ h => absurd h (by simp)⟩
      · refine ⟨?_, ?_, ?_, ?_, ?_, ?_, ?_, ?_, ?_, ?_, ?_, ?_, ?_, ?_, ?_, ?_, ?_, ?_, ?_, ?_, ?_, trivial⟩
        · refine opR_mk rfl fun aa W2 hB hp hq K hK => ?_
          have e0 : aa.tmps[0]?.getD undef = .pointer (some ⟨Q, 0, none⟩) := hp 0 (by kernel_rfl)
          clear hp hq
          go_simp
          exact hK _ _ (RelB.refl _) rfl
        · refine opR_mk rfl fun aa W2 hB hp hq K hK => ?_
          have e1 : aa.tmps[1]?.getD undef = .int .i64 (j : Int) := hp 1 (by kernel_rfl)
          clear hp hq
          go_simp
          exact hK _ _ (RelB.refl _) rfl
        · refine opR_mk rfl fun aa W2 hB hp hq K hK => ?_
          have e8 : aa.tmps[8]?.getD undef = .pointer (some ⟨Q, 0, none⟩) := hq 0 _ (by kernel_rfl) rfl
          have e9 : aa.tmps[9]?.getD undef = .int .i64 (j : Int) := hq 1 _ (by kernel_rfl) rfl
          clear hp hq
          go_simp
          refine (t_docHas Q D G x (j : Int) true (decide_eq_true HK.out) W2 (HLA.out.below hB)).mono ?_
          rintro e w2 ⟨rfl, rfl⟩
          exact hK _ _ (RelB.refl _) rfl
        · refine opR_mk rfl fun aa W2 hB hp hq K hK => ?_
          have e10 : aa.tmps[10]?.getD undef = .bool true := hq 2 _ (by kernel_rfl) rfl
          clear hp hq
          go_simp
          exact hK _ _ (RelB.refl _) rfl
        · refine opR_mk rfl fun aa W2 hB hp hq K hK => ?_
          have e11 : aa.tmps[11]?.getD undef = .bool false := hq 3 _ (by kernel_rfl) rfl
          clear hp hq
          go_simp
          exact hK _ _ (RelB.refl _) rfl
        · refine opR_guard (j := 4) (d := 12) (c := false) rfl rfl (by kernel_rfl) rfl rfl (fun v W h => h) (fun _ => RelB.refl _) (fun hne => absurd rfl hne) fun hc aa W2 hB hp hq K hK => ?_
          have e5 : aa.tmps[5]?.getD undef = .pointer (some ⟨w.heap.size, 0, none⟩) := hp 5 (by kernel_rfl)
          have r0 := rec_cell0 (RelB.rec hB HRA.out) 0 _ rfl
          have r1 := rec_cell0 (RelB.rec hB HRA.out) 1 _ rfl
          have r2 := rec_cell0 (RelB.rec hB HRA.out) 2 _ rfl
          have r3 := rec_cell0 (RelB.rec hB HRA.out) 3 _ rfl
          have r4 := rec_cell0 (RelB.rec hB HRA.out) 4 _ rfl
          have r5 := rec_cell0 (RelB.rec hB HRA.out) 5 _ rfl
          have r6 := rec_cell0 (RelB.rec hB HRA.out) 6 _ rfl
          have r7 := rec_cell0 (RelB.rec hB HRA.out) 7 _ rfl
          have r8 := rec_cell0 (RelB.rec hB HRA.out) 8 _ rfl
          have r9 := rec_cell0 (RelB.rec hB HRA.out) 9 _ rfl
          have r10 := rec_cell0 (RelB.rec hB HRA.out) 10 _ rfl
          have r11 := rec_cell0 (RelB.rec hB HRA.out) 11 _ rfl
          clear hp hq
          go_simp
          exact hK _ _ (RelB.refl _) rfl
        · refine opR_guard (j := 4) (d := 12) (c := false) rfl rfl (by kernel_rfl) rfl rfl (fun v W h => h) (fun _ => RelB.refl _) (fun hne => absurd rfl hne) fun hc aa W2 hB hp hq K hK => ?_
          have e13 : aa.tmps[13]?.getD undef = .agg #[.int .u64 r.stamp, .int .u8 r.act, .int .u32 r.dir, .string r.name, .int .u32 r.ino, .int .u8 r.kind, .int .u32 r.dir2, .string r.name2, .int .u32 r.old, .int .u32 r.size, .int .i64 r.page, .string r.data] := hq 5 _ (by kernel_rfl) rfl
          clear hp hq
          go_simp
          refine (HMAY.out W2).mono ?_
          rintro e w2 ⟨rfl, hb2⟩
          exact hK _ _ (RelB.of hb2) (by show Value.bool (checkB r) = _; rw [HCE.out])
        · refine opR_guard (j := 4) (d := 12) (c := false) rfl rfl (by kernel_rfl) rfl rfl (fun v W h => h) (fun _ => RelB.refl _) (fun hne => absurd rfl hne) fun hc aa W2 hB hp hq K hK => ?_
          have e14 : aa.tmps[14]?.getD undef = .bool false := hq 6 _ (by kernel_rfl) rfl
          clear hp hq
          go_simp
          exact hK _ _ (RelB.refl _) rfl
        · refine opR_mk rfl fun aa W2 hB hp hq K hK => ?_
          have e12 : aa.tmps[12]?.getD undef = .bool false := hq 4 _ (by kernel_rfl) rfl
          have e15 : aa.tmps[15]?.getD undef = .bool true := hq 7 _ (by kernel_rfl) rfl
          clear hp hq
          go_simp
          exact hK _ _ (RelB.refl _) rfl
        · refine opR_mk rfl fun aa W2 hB hp hq K hK => ?_
          have e16 : aa.tmps[16]?.getD undef = .bool true := hq 8 _ (by kernel_rfl) rfl
          clear hp hq
          go_simp
          exact hK _ _ (RelB.refl _) rfl
        · exact opR_guard (j := 9) (d := 17) (c := true) rfl rfl (by kernel_rfl) rfl rfl (fun v W h => h) (fun _ => RelB.refl _) (fun _ _ => trivial) (fun hc => absurd hc (by decide))
        · exact opR_guard (j := 9) (d := 17) (c := true) rfl rfl (by kernel_rfl) rfl rfl (fun v W h => h) (fun _ => RelB.refl _) (fun _ _ => trivial) (fun hc => absurd hc (by decide))
        · exact opR_guard (j := 9) (d := 17) (c := true) rfl rfl (by kernel_rfl) rfl rfl (fun v W h => h) (fun _ => RelB.refl _) (fun _ _ => trivial) (fun hc => absurd hc (by decide))
        · exact opR_guard (j := 9) (d := 17) (c := true) rfl rfl (by kernel_rfl) rfl rfl (fun v W h => h) (fun _ => RelB.refl _) (fun _ _ => trivial) (fun hc => absurd hc (by decide))
        · exact opR_guard (j := 9) (d := 17) (c := true) rfl rfl (by kernel_rfl) rfl rfl (fun v W h => h) (fun _ => RelB.refl _) (fun _ _ => trivial) (fun hc => absurd hc (by decide))
        · exact opR_guard (j := 9) (d := 17) (c := true) rfl rfl (by kernel_rfl) rfl rfl (fun v W h => h) (fun _ => RelB.refl _) (fun _ _ => trivial) (fun hc => absurd hc (by decide))
        · exact opR_guard (j := 9) (d := 17) (c := true) rfl rfl (by kernel_rfl) rfl rfl (fun v W h => h) (fun _ => RelB.refl _) (fun _ _ => trivial) (fun hc => absurd hc (by decide))
        · exact opR_guard (j := 9) (d := 17) (c := true) rfl rfl (by kernel_rfl) rfl rfl (fun v W h => h) (fun _ => RelB.refl _) (fun _ _ => trivial) (fun hc => absurd hc (by decide))
        · exact opR_guard (j := 9) (d := 17) (c := true) rfl rfl (by kernel_rfl) rfl rfl (fun v W h => h) (fun _ => RelB.refl _) (fun _ _ => trivial) (fun hc => absurd hc (by decide))
        · exact opR_guard (j := 9) (d := 17) (c := true) rfl rfl (by kernel_rfl) rfl rfl (fun v W h => h) (fun _ => RelB.refl _) (fun _ _ => trivial) (fun hc => absurd hc (by decide))
        · refine opR_mk rfl fun aa W2 hB hp hq K hK => ?_
          have e17 : aa.tmps[17]?.getD undef = .bool true := hq 9 _ (by kernel_rfl) rfl
          clear hp hq
          go_simp
          exact hK _ _ (RelB.refl _) rfl
      · intro vs W3 hB3 hv3 _
        have v20 : vs 20 = .bool true := hv3 20 _ rfl rfl
        have HB3 := Lib.hid (ptrans (below_a1' w _) hB3)
        have HL3 := Lib.hid (HLA.out.below hB3)
        clear hB3 hv3
        simp only [List.take_succ_cons, List.take_zero, putAll, Act.put, List.setIfInBounds_toArray, List.set_cons_succ, List.set_cons_zero, Nat.zero_add, Nat.reduceAdd, v20]
        go_wp2
        go_ret
        refine ⟨by rw [HPE.out]; rfl, D, G, ?_, grown_below HB3.out, fun b hb => .inl hb⟩
        rw [HPL.out]
        exact HL3.out
    · have HCE : Hid (checkB r = true) := hck
      by_cases hls : r.stamp ≤ x.last j
      · have hpe : putE x (j : Int) r = 2 := by unfold putE; rw [if_neg (by rintro ⟨_, _, _, h4⟩; have h5 : x.last j < r.stamp := h4; omega)]
        have HPE := Lib.hid hpe
        have HPL := Lib.hid (HST.out (by rw [hpe]; decide))
        have hld : decide (r.stamp ≤ x.last j) = true := decide_eq_true hls
        clear hpe hck hls
        go_enter Tryz.func25, Tryz.ntmps25
        go_upto_region 1 with fail
        refine wp_region_rel RelB (phi [isV (.pointer (some ⟨Q, 0, none⟩)), isV (.int .i64 (j : Int)), isV (.bool true), isV (.bool false), isV (.bool false), isV (.agg #[.int .u64 r.stamp, .int .u8 r.act, .int .u32 r.dir, .string r.name, .int .u32 r.ino, .int .u8 r.kind, .int .u32 r.dir2, .string r.name2, .int .u32 r.old, .int .u32 r.size, .int .i64 r.page, .string r.data]), isV (.bool true), isV (.bool false), isV (.bool false), isV (.bool false), isV (.pointer (some ⟨w.heap.size, 0, none⟩)), isV (.int .u64 r.stamp), isV (.pointer (some ⟨Q, 0, none⟩)), isV (.pointer (some ⟨Q, 0, none⟩)), isV (.pointer (some ⟨Q, 2, none⟩)), isV (.slice (some ⟨D.bT, 0, none⟩) x.cores D.cT), isV (.int .i64 (j : Int)), isV (.pointer (some ⟨D.bT, j, none⟩)), isV (.int .u64 (x.last j)), isV (.bool true), isV (.bool true)]) (by kernel_rfl) (by kernel_rfl) (by kernel_rfl) (RelB.of (below_drew _)) (fun _ _ _ a b => a.trans b) ?_ ?_ ?_
        · refine stays_phiR ?_
          simp only [List.forall_mem_cons]
          exact ⟨fun _ _ _ h _ => h, fun _ _ _ h _ => h, fun _ _ _ h _ => h, fun _ _ _ h _ => h, fun _ _ _ h _ => h, fun _ _ _ h _ => h, fun _ _ _ h _ => h, fun _ _ _ h _ => h, fun _ _ _ h _ => h, fun _ _ _ h _ => h, fun _ _ _ h _ => h, fun _ _ _ h _ => h, fun _ _ _ h _ => h, fun _ _ _ h _ => h, fun _ _ _ h _ => h, fun _ _ _ h _ => h, fun _ _ _ h _ => h, fun _ _ _ h _ => h, fun _ _ _ h _ => h, fun _ _ _ h _ => h, fun _ _ _ h _ => h, fun _ h => absurd h (by simp)⟩
        · refine ⟨?_, ?_, ?_, ?_, ?_, ?_, ?_, ?_, ?_, ?_, ?_, ?_, ?_, ?_, ?_, ?_, ?_, ?_, ?_, ?_, ?_, trivial⟩
          · refine opR_mk rfl fun aa W2 hB hp hq K hK => ?_
            have e0 : aa.tmps[0]?.getD undef = .pointer (some ⟨Q, 0, none⟩) := hp 0 (by kernel_rfl)
            clear hp hq
            go_simp
            exact hK _ _ (RelB.refl _) rfl
          · refine opR_mk rfl fun aa W2 hB hp hq K hK => ?_
            have e1 : aa.tmps[1]?.getD undef = .int .i64 (j : Int) := hp 1 (by kernel_rfl)
            clear hp hq
            go_simp
            exact hK _ _ (RelB.refl _) rfl
          · refine opR_mk rfl fun aa W2 hB hp hq K hK => ?_
            have e8 : aa.tmps[8]?.getD undef = .pointer (some ⟨Q, 0, none⟩) := hq 0 _ (by kernel_rfl) rfl
            have e9 : aa.tmps[9]?.getD undef = .int .i64 (j : Int) := hq 1 _ (by kernel_rfl) rfl
            clear hp hq
            go_simp
            refine (t_docHas Q D G x (j : Int) true (decide_eq_true HK.out) W2 (HLA.out.below hB)).mono ?_
            rintro e w2 ⟨rfl, rfl⟩
            exact hK _ _ (RelB.refl _) rfl
          · refine opR_mk rfl fun aa W2 hB hp hq K hK => ?_
            have e10 : aa.tmps[10]?.getD undef = .bool true := hq 2 _ (by kernel_rfl) rfl
            clear hp hq
            go_simp
            exact hK _ _ (RelB.refl _) rfl
          · refine opR_mk rfl fun aa W2 hB hp hq K hK => ?_
            have e11 : aa.tmps[11]?.getD undef = .bool false := hq 3 _ (by kernel_rfl) rfl
            clear hp hq
            go_simp
            exact hK _ _ (RelB.refl _) rfl
          · refine opR_guard (j := 4) (d := 12) (c := false) rfl rfl (by kernel_rfl) rfl rfl (fun v W h => h) (fun _ => RelB.refl _) (fun hne => absurd rfl hne) fun hc aa W2 hB hp hq K hK => ?_
            have e5 : aa.tmps[5]?.getD undef = .pointer (some ⟨w.heap.size, 0, none⟩) := hp 5 (by kernel_rfl)
            have r0 := rec_cell0 (RelB.rec hB HRA.out) 0 _ rfl
            have r1 := rec_cell0 (RelB.rec hB HRA.out) 1 _ rfl
            have r2 := rec_cell0 (RelB.rec hB HRA.out) 2 _ rfl
            have r3 := rec_cell0 (RelB.rec hB HRA.out) 3 _ rfl
            have r4 := rec_cell0 (RelB.rec hB HRA.out) 4 _ rfl
            have r5 := rec_cell0 (RelB.rec hB HRA.out) 5 _ rfl
            have r6 := rec_cell0 (RelB.rec hB HRA.out) 6 _ rfl
            have r7 := rec_cell0 (RelB.rec hB HRA.out) 7 _ rfl
            have r8 := rec_cell0 (RelB.rec hB HRA.out) 8 _ rfl
            have r9 := rec_cell0 (RelB.rec hB HRA.out) 9 _ rfl
            have r10 := rec_cell0 (RelB.rec hB HRA.out) 10 _ rfl
            have r11 := rec_cell0 (RelB.rec hB HRA.out) 11 _ rfl
            clear hp hq
            go_simp
            exact hK _ _ (RelB.refl _) rfl
          · refine opR_guard (j := 4) (d := 12) (c := false) rfl rfl (by kernel_rfl) rfl rfl (fun v W h => h) (fun _ => RelB.refl _) (fun hne => absurd rfl hne) fun hc aa W2 hB hp hq K hK => ?_
            have e13 : aa.tmps[13]?.getD undef = .agg #[.int .u64 r.stamp, .int .u8 r.act, .int .u32 r.dir, .string r.name, .int .u32 r.ino, .int .u8 r.kind, .int .u32 r.dir2, .string r.name2, .int .u32 r.old, .int .u32 r.size, .int .i64 r.page, .string r.data] := hq 5 _ (by kernel_rfl) rfl
            clear hp hq
            go_simp
            refine (HMAY.out W2).mono ?_
            rintro e w2 ⟨rfl, hb2⟩
            exact hK _ _ (RelB.of hb2) (by show Value.bool (checkB r) = _; rw [HCE.out])
          · refine opR_guard (j := 4) (d := 12) (c := false) rfl rfl (by kernel_rfl) rfl rfl (fun v W h => h) (fun _ => RelB.refl _) (fun hne => absurd rfl hne) fun hc aa W2 hB hp hq K hK => ?_
            have e14 : aa.tmps[14]?.getD undef = .bool true := hq 6 _ (by kernel_rfl) rfl
            clear hp hq
            go_simp
            exact hK _ _ (RelB.refl _) rfl
          · refine opR_mk rfl fun aa W2 hB hp hq K hK => ?_
            have e12 : aa.tmps[12]?.getD undef = .bool false := hq 4 _ (by kernel_rfl) rfl
            have e15 : aa.tmps[15]?.getD undef = .bool false := hq 7 _ (by kernel_rfl) rfl
            clear hp hq
            go_simp
            exact hK _ _ (RelB.refl _) rfl
          · refine opR_mk rfl fun aa W2 hB hp hq K hK => ?_
            have e16 : aa.tmps[16]?.getD undef = .bool false := hq 8 _ (by kernel_rfl) rfl
            clear hp hq
            go_simp
            exact hK _ _ (RelB.refl _) rfl
          · refine opR_guard (j := 9) (d := 17) (c := false) rfl rfl (by kernel_rfl) rfl rfl (fun v W h => h) (fun _ => RelB.refl _) (fun hne => absurd rfl hne) fun hc aa W2 hB hp hq K hK => ?_
            have e5 : aa.tmps[5]?.getD undef = .pointer (some ⟨w.heap.size, 0, none⟩) := hp 5 (by kernel_rfl)
            clear hp hq
            go_simp
            exact hK _ _ (RelB.refl _) rfl
          · refine opR_guard (j := 9) (d := 17) (c := false) rfl rfl (by kernel_rfl) rfl rfl (fun v W h => h) (fun _ => RelB.refl _) (fun hne => absurd rfl hne) fun hc aa W2 hB hp hq K hK => ?_
            have e18 : aa.tmps[18]?.getD undef = .pointer (some ⟨w.heap.size, 0, none⟩) := hq 10 _ (by kernel_rfl) rfl
            have r0 := rec_cell0 (RelB.rec hB HRA.out) 0 _ rfl
            clear hp hq
            go_simp
            exact hK _ _ (RelB.refl _) rfl
          · refine opR_guard (j := 9) (d := 17) (c := false) rfl rfl (by kernel_rfl) rfl rfl (fun v W h => h) (fun _ => RelB.refl _) (fun hne => absurd rfl hne) fun hc aa W2 hB hp hq K hK => ?_
            have e0 : aa.tmps[0]?.getD undef = .pointer (some ⟨Q, 0, none⟩) := hp 0 (by kernel_rfl)
            clear hp hq
            go_simp
            exact hK _ _ (RelB.refl _) rfl
          · refine opR_guard (j := 9) (d := 17) (c := false) rfl rfl (by kernel_rfl) rfl rfl (fun v W h => h) (fun _ => RelB.refl _) (fun hne => absurd rfl hne) fun hc aa W2 hB hp hq K hK => ?_
            have e20 : aa.tmps[20]?.getD undef = .pointer (some ⟨Q, 0, none⟩) := hq 12 _ (by kernel_rfl) rfl
            clear hp hq
            go_simp
            exact hK _ _ (RelB.refl _) rfl
          · refine opR_guard (j := 9) (d := 17) (c := false) rfl rfl (by kernel_rfl) rfl rfl (fun v W h => h) (fun _ => RelB.refl _) (fun hne => absurd rfl hne) fun hc aa W2 hB hp hq K hK => ?_
            have e21 : aa.tmps[21]?.getD undef = .pointer (some ⟨Q, 0, none⟩) := hq 13 _ (by kernel_rfl) rfl
            clear hp hq
            go_simp
            exact hK _ _ (RelB.refl _) rfl
          · refine opR_guard (j := 9) (d := 17) (c := false) rfl rfl (by kernel_rfl) rfl rfl (fun v W h => h) (fun _ => RelB.refl _) (fun hne => absurd rfl hne) fun hc aa W2 hB hp hq K hK => ?_
            have e22 : aa.tmps[22]?.getD undef = .pointer (some ⟨Q, 2, none⟩) := hq 14 _ (by kernel_rfl) rfl
            have cc := (HLA.out.below hB).c2
            clear hp hq
            go_simp
            exact hK _ _ (RelB.refl _) rfl
          · refine opR_guard (j := 9) (d := 17) (c := false) rfl rfl (by kernel_rfl) rfl rfl (fun v W h => h) (fun _ => RelB.refl _) (fun hne => absurd rfl hne) fun hc aa W2 hB hp hq K hK => ?_
            have e1 : aa.tmps[1]?.getD undef = .int .i64 (j : Int) := hp 1 (by kernel_rfl)
            clear hp hq
            go_simp
            exact hK _ _ (RelB.refl _) rfl
          · refine opR_guard (j := 9) (d := 17) (c := false) rfl rfl (by kernel_rfl) rfl rfl (fun v W h => h) (fun _ => RelB.refl _) (fun hne => absurd rfl hne) fun hc aa W2 hB hp hq K hK => ?_
            have e23 : aa.tmps[23]?.getD undef = .slice (some ⟨D.bT, 0, none⟩) x.cores D.cT := hq 15 _ (by kernel_rfl) rfl
            have e24 : aa.tmps[24]?.getD undef = .int .i64 (j : Int) := hq 16 _ (by kernel_rfl) rfl
            clear hp hq
            go_simp
            exact hK _ _ (RelB.refl _) rfl
          · refine opR_guard (j := 9) (d := 17) (c := false) rfl rfl (by kernel_rfl) rfl rfl (fun v W h => h) (fun _ => RelB.refl _) (fun hne => absurd rfl hne) fun hc aa W2 hB hp hq K hK => ?_
            have e25 : aa.tmps[25]?.getD undef = .pointer (some ⟨D.bT, j, none⟩) := hq 17 _ (by kernel_rfl) rfl
            have cc := (HLA.out.below hB).cT hjc
            clear hp hq
            go_simp
            exact hK _ _ (RelB.refl _) rfl
          · refine opR_guard (j := 9) (d := 17) (c := false) rfl rfl (by kernel_rfl) rfl rfl (fun v W h => h) (fun _ => RelB.refl _) (fun hne => absurd rfl hne) fun hc aa W2 hB hp hq K hK => ?_
            have e19 : aa.tmps[19]?.getD undef = .int .u64 r.stamp := hq 11 _ (by kernel_rfl) rfl
            have e26 : aa.tmps[26]?.getD undef = .int .u64 (x.last j) := hq 18 _ (by kernel_rfl) rfl
            clear hp hq
            go_simp
            exact hK _ _ (RelB.refl _) rfl
          · refine opR_mk rfl fun aa W2 hB hp hq K hK => ?_
            have e17 : aa.tmps[17]?.getD undef = .bool false := hq 9 _ (by kernel_rfl) rfl
            have e27 : aa.tmps[27]?.getD undef = .bool true := hq 19 _ (by kernel_rfl) rfl
            clear hp hq
            go_simp
            exact hK _ _ (RelB.refl _) rfl
        · intro vs W3 hB3 hv3 _
          have v20 : vs 20 = .bool true := hv3 20 _ rfl rfl
          have HB3 := Lib.hid (ptrans (below_a1' w _) hB3)
          have HL3 := Lib.hid (HLA.out.below hB3)
          clear hB3 hv3
          simp only [List.take_succ_cons, List.take_zero, putAll, Act.put, List.setIfInBounds_toArray, List.set_cons_succ, List.set_cons_zero, Nat.zero_add, Nat.reduceAdd, v20]
          go_wp2
          go_ret
          refine ⟨by rw [HPE.out]; rfl, D, G, ?_, grown_below HB3.out, fun b hb => .inl hb⟩
          rw [HPL.out]
          exact HL3.out
      · have hpe : putE x (j : Int) r = if (x.rows j).length < x.most then 0 else 4 := by
          unfold putE
          rw [if_pos ⟨HK.out.1, HK.out.2, hck, by show x.last j < r.stamp; omega⟩]
          rfl
        have HPE := Lib.hid hpe
        have hld : decide (r.stamp ≤ x.last j) = false := decide_eq_false hls
        clear hpe hck hls
        go_enter Tryz.func25, Tryz.ntmps25
        go_upto_region 1 with fail
        refine wp_region_rel RelB (phi [isV (.pointer (some ⟨Q, 0, none⟩)), isV (.int .i64 (j : Int)), isV (.bool true), isV (.bool false), isV (.bool false), isV (.agg #[.int .u64 r.stamp, .int .u8 r.act, .int .u32 r.dir, .string r.name, .int .u32 r.ino, .int .u8 r.kind, .int .u32 r.dir2, .string r.name2, .int .u32 r.old, .int .u32 r.size, .int .i64 r.page, .string r.data]), isV (.bool true), isV (.bool false), isV (.bool false), isV (.bool false), isV (.pointer (some ⟨w.heap.size, 0, none⟩)), isV (.int .u64 r.stamp), isV (.pointer (some ⟨Q, 0, none⟩)), isV (.pointer (some ⟨Q, 0, none⟩)), isV (.pointer (some ⟨Q, 2, none⟩)), isV (.slice (some ⟨D.bT, 0, none⟩) x.cores D.cT), isV (.int .i64 (j : Int)), isV (.pointer (some ⟨D.bT, j, none⟩)), isV (.int .u64 (x.last j)), isV (.bool false), isV (.bool false)]) (by kernel_rfl) (by kernel_rfl) (by kernel_rfl) (RelB.of (below_drew _)) (fun _ _ _ a b => a.trans b) ?_ ?_ ?_
        · refine stays_phiR ?_
          simp only [List.forall_mem_cons]
          exact ⟨fun _ _ _ h _ => h, fun _ _ _ h _ => h, fun _ _ _ h _ => h, fun _ _ _ h _ => h, fun _ _ _ h _ => h, fun _ _ _ h _ => h, fun _ _ _ h _ => h, fun _ _ _ h _ => h, fun _ _ _ h _ => h, fun _ _ _ h _ => h, fun _ _ _ h _ => h, fun _ _ _ h _ => h, fun _ _ _ h _ => h, fun _ _ _ h _ => h, fun _ _ _ h _ => h, fun _ _ _ h _ => h, fun _ _ _ h _ => h, fun _ _ _ h _ => h, fun _ _ _ h _ => h, fun _ _ _ h _ => h, fun _ _ _ h _ => h, fun _ h => absurd h (by simp)⟩
        · refine ⟨?_, ?_, ?_, ?_, ?_, ?_, ?_, ?_, ?_, ?_, ?_, ?_, ?_, ?_, ?_, ?_, ?_, ?_, ?_, ?_, ?_, trivial⟩
          · refine opR_mk rfl fun aa W2 hB hp hq K hK => ?_
            have e0 : aa.tmps[0]?.getD undef = .pointer (some ⟨Q, 0, none⟩) := hp 0 (by kernel_rfl)
            clear hp hq
            go_simp
            exact hK _ _ (RelB.refl _) rfl
          · refine opR_mk rfl fun aa W2 hB hp hq K hK => ?_
            have e1 : aa.tmps[1]?.getD undef = .int .i64 (j : Int) := hp 1 (by kernel_rfl)
            clear hp hq
            go_simp
            exact hK _ _ (RelB.refl _) rfl
          · refine opR_mk rfl fun aa W2 hB hp hq K hK => ?_
            have e8 : aa.tmps[8]?.getD undef = .pointer (some ⟨Q, 0, none⟩) := hq 0 _ (by kernel_rfl) rfl
            have e9 : aa.tmps[9]?.getD undef = .int .i64 (j : Int) := hq 1 _ (by kernel_rfl) rfl
            clear hp hq
            go_simp
            refine (t_docHas Q D G x (j : Int) true (decide_eq_true HK.out) W2 (HLA.out.below hB)).mono ?_
            rintro e w2 ⟨rfl, rfl⟩
            exact hK _ _ (RelB.refl _) rfl
          · refine opR_mk rfl fun aa W2 hB hp hq K hK => ?_
            have e10 : aa.tmps[10]?.getD undef = .bool true := hq 2 _ (by kernel_rfl) rfl
            clear hp hq
            go_simp
            exact hK _ _ (RelB.refl _) rfl
          · refine opR_mk rfl fun aa W2 hB hp hq K hK => ?_
            have e11 : aa.tmps[11]?.getD undef = .bool false := hq 3 _ (by kernel_rfl) rfl
            clear hp hq
            go_simp
            exact hK _ _ (RelB.refl _) rfl
          · refine opR_guard (j := 4) (d := 12) (c := false) rfl rfl (by kernel_rfl) rfl rfl (fun v W h => h) (fun _ => RelB.refl _) (fun hne => absurd rfl hne) fun hc aa W2 hB hp hq K hK => ?_
            have e5 : aa.tmps[5]?.getD undef = .pointer (some ⟨w.heap.size, 0, none⟩) := hp 5 (by kernel_rfl)
            have r0 := rec_cell0 (RelB.rec hB HRA.out) 0 _ rfl
            have r1 := rec_cell0 (RelB.rec hB HRA.out) 1 _ rfl
            have r2 := rec_cell0 (RelB.rec hB HRA.out) 2 _ rfl
            have r3 := rec_cell0 (RelB.rec hB HRA.out) 3 _ rfl
            have r4 := rec_cell0 (RelB.rec hB HRA.out) 4 _ rfl
            have r5 := rec_cell0 (RelB.rec hB HRA.out) 5 _ rfl
            have r6 := rec_cell0 (RelB.rec hB HRA.out) 6 _ rfl
            have r7 := rec_cell0 (RelB.rec hB HRA.out) 7 _ rfl
            have r8 := rec_cell0 (RelB.rec hB HRA.out) 8 _ rfl
            have r9 := rec_cell0 (RelB.rec hB HRA.out) 9 _ rfl
            have r10 := rec_cell0 (RelB.rec hB HRA.out) 10 _ rfl
            have r11 := rec_cell0 (RelB.rec hB HRA.out) 11 _ rfl
            clear hp hq
            go_simp
            exact hK _ _ (RelB.refl _) rfl
          · refine opR_guard (j := 4) (d := 12) (c := false) rfl rfl (by kernel_rfl) rfl rfl (fun v W h => h) (fun _ => RelB.refl _) (fun hne => absurd rfl hne) fun hc aa W2 hB hp hq K hK => ?_
            have e13 : aa.tmps[13]?.getD undef = .agg #[.int .u64 r.stamp, .int .u8 r.act, .int .u32 r.dir, .string r.name, .int .u32 r.ino, .int .u8 r.kind, .int .u32 r.dir2, .string r.name2, .int .u32 r.old, .int .u32 r.size, .int .i64 r.page, .string r.data] := hq 5 _ (by kernel_rfl) rfl
            clear hp hq
            go_simp
            refine (HMAY.out W2).mono ?_
            rintro e w2 ⟨rfl, hb2⟩
            exact hK _ _ (RelB.of hb2) (by show Value.bool (checkB r) = _; rw [HCE.out])
          · refine opR_guard (j := 4) (d := 12) (c := false) rfl rfl (by kernel_rfl) rfl rfl (fun v W h => h) (fun _ => RelB.refl _) (fun hne => absurd rfl hne) fun hc aa W2 hB hp hq K hK => ?_
            have e14 : aa.tmps[14]?.getD undef = .bool true := hq 6 _ (by kernel_rfl) rfl
            clear hp hq
            go_simp
            exact hK _ _ (RelB.refl _) rfl
          · refine opR_mk rfl fun aa W2 hB hp hq K hK => ?_
            have e12 : aa.tmps[12]?.getD undef = .bool false := hq 4 _ (by kernel_rfl) rfl
            have e15 : aa.tmps[15]?.getD undef = .bool false := hq 7 _ (by kernel_rfl) rfl
            clear hp hq
            go_simp
            exact hK _ _ (RelB.refl _) rfl
          · refine opR_mk rfl fun aa W2 hB hp hq K hK => ?_
            have e16 : aa.tmps[16]?.getD undef = .bool false := hq 8 _ (by kernel_rfl) rfl
            clear hp hq
            go_simp
            exact hK _ _ (RelB.refl _) rfl
          · refine opR_guard (j := 9) (d := 17) (c := false) rfl rfl (by kernel_rfl) rfl rfl (fun v W h => h) (fun _ => RelB.refl _) (fun hne => absurd rfl hne) fun hc aa W2 hB hp hq K hK => ?_
            have e5 : aa.tmps[5]?.getD undef = .pointer (some ⟨w.heap.size, 0, none⟩) := hp 5 (by kernel_rfl)
            clear hp hq
            go_simp
            exact hK _ _ (RelB.refl _) rfl
          · refine opR_guard (j := 9) (d := 17) (c := false) rfl rfl (by kernel_rfl) rfl rfl (fun v W h => h) (fun _ => RelB.refl _) (fun hne => absurd rfl hne) fun hc aa W2 hB hp hq K hK => ?_
            have e18 : aa.tmps[18]?.getD undef = .pointer (some ⟨w.heap.size, 0, none⟩) := hq 10 _ (by kernel_rfl) rfl
            have r0 := rec_cell0 (RelB.rec hB HRA.out) 0 _ rfl
            clear hp hq
            go_simp
            exact hK _ _ (RelB.refl _) rfl
          · refine opR_guard (j := 9) (d := 17) (c := false) rfl rfl (by kernel_rfl) rfl rfl (fun v W h => h) (fun _ => RelB.refl _) (fun hne => absurd rfl hne) fun hc aa W2 hB hp hq K hK => ?_
            have e0 : aa.tmps[0]?.getD undef = .pointer (some ⟨Q, 0, none⟩) := hp 0 (by kernel_rfl)
            clear hp hq
            go_simp
            exact hK _ _ (RelB.refl _) rfl
          · refine opR_guard (j := 9) (d := 17) (c := false) rfl rfl (by kernel_rfl) rfl rfl (fun v W h => h) (fun _ => RelB.refl _) (fun hne => absurd rfl hne) fun hc aa W2 hB hp hq K hK => ?_
            have e20 : aa.tmps[20]?.getD undef = .pointer (some ⟨Q, 0, none⟩) := hq 12 _ (by kernel_rfl) rfl
            clear hp hq
            go_simp
            exact hK _ _ (RelB.refl _) rfl
          · refine opR_guard (j := 9) (d := 17) (c := false) rfl rfl (by kernel_rfl) rfl rfl (fun v W h => h) (fun _ => RelB.refl _) (fun hne => absurd rfl hne) fun hc aa W2 hB hp hq K hK => ?_
            have e21 : aa.tmps[21]?.getD undef = .pointer (some ⟨Q, 0, none⟩) := hq 13 _ (by kernel_rfl) rfl
            clear hp hq
            go_simp
            exact hK _ _ (RelB.refl _) rfl
          · refine opR_guard (j := 9) (d := 17) (c := false) rfl rfl (by kernel_rfl) rfl rfl (fun v W h => h) (fun _ => RelB.refl _) (fun hne => absurd rfl hne) fun hc aa W2 hB hp hq K hK => ?_
            have e22 : aa.tmps[22]?.getD undef = .pointer (some ⟨Q, 2, none⟩) := hq 14 _ (by kernel_rfl) rfl
            have cc := (HLA.out.below hB).c2
            clear hp hq
            go_simp
            exact hK _ _ (RelB.refl _) rfl
          · refine opR_guard (j := 9) (d := 17) (c := false) rfl rfl (by kernel_rfl) rfl rfl (fun v W h => h) (fun _ => RelB.refl _) (fun hne => absurd rfl hne) fun hc aa W2 hB hp hq K hK => ?_
            have e1 : aa.tmps[1]?.getD undef = .int .i64 (j : Int) := hp 1 (by kernel_rfl)
            clear hp hq
            go_simp
            exact hK _ _ (RelB.refl _) rfl
          · refine opR_guard (j := 9) (d := 17) (c := false) rfl rfl (by kernel_rfl) rfl rfl (fun v W h => h) (fun _ => RelB.refl _) (fun hne => absurd rfl hne) fun hc aa W2 hB hp hq K hK => ?_
            have e23 : aa.tmps[23]?.getD undef = .slice (some ⟨D.bT, 0, none⟩) x.cores D.cT := hq 15 _ (by kernel_rfl) rfl
            have e24 : aa.tmps[24]?.getD undef = .int .i64 (j : Int) := hq 16 _ (by kernel_rfl) rfl
            clear hp hq
            go_simp
            exact hK _ _ (RelB.refl _) rfl
          · refine opR_guard (j := 9) (d := 17) (c := false) rfl rfl (by kernel_rfl) rfl rfl (fun v W h => h) (fun _ => RelB.refl _) (fun hne => absurd rfl hne) fun hc aa W2 hB hp hq K hK => ?_
            have e25 : aa.tmps[25]?.getD undef = .pointer (some ⟨D.bT, j, none⟩) := hq 17 _ (by kernel_rfl) rfl
            have cc := (HLA.out.below hB).cT hjc
            clear hp hq
            go_simp
            exact hK _ _ (RelB.refl _) rfl
          · refine opR_guard (j := 9) (d := 17) (c := false) rfl rfl (by kernel_rfl) rfl rfl (fun v W h => h) (fun _ => RelB.refl _) (fun hne => absurd rfl hne) fun hc aa W2 hB hp hq K hK => ?_
            have e19 : aa.tmps[19]?.getD undef = .int .u64 r.stamp := hq 11 _ (by kernel_rfl) rfl
            have e26 : aa.tmps[26]?.getD undef = .int .u64 (x.last j) := hq 18 _ (by kernel_rfl) rfl
            clear hp hq
            go_simp
            exact hK _ _ (RelB.refl _) rfl
          · refine opR_mk rfl fun aa W2 hB hp hq K hK => ?_
            have e17 : aa.tmps[17]?.getD undef = .bool false := hq 9 _ (by kernel_rfl) rfl
            have e27 : aa.tmps[27]?.getD undef = .bool false := hq 19 _ (by kernel_rfl) rfl
            clear hp hq
            go_simp
            exact hK _ _ (RelB.refl _) rfl
        · intro vs W3 hB3 hv3 _
          have v20 : vs 20 = .bool false := hv3 20 _ rfl rfl
          have HB3 := Lib.hid (ptrans (below_a1' w _) hB3)
          have HL3 := Lib.hid (HLA.out.below hB3)
          have HR3 := Lib.hid (RelB.rec hB3 HRA.out)
          clear hB3 hv3
          simp only [List.take_succ_cons, List.take_zero, putAll, Act.put, List.setIfInBounds_toArray, List.set_cons_succ, List.set_cons_zero, Nat.zero_add, Nat.reduceAdd, v20]
          obtain ⟨A, cap, hsl, hrec, hrne⟩ := HL3.out.row j hjc
          obtain ⟨m, hm⟩ : ∃ m, m = (x.rows j).length := ⟨_, rfl⟩
          rw [← hm] at hsl
          have HSL := Lib.hid hsl
          have HREC := Lib.hid hrec
          have HM := Lib.hid hm
          clear hsl hrec hm
          by_cases hfull : m < x.most
          · have hfi : (m : Int) < (x.most : Int) := by omega
            go_upto_region 3 with fail
            refine wp_region_rel RelB (phi [isV (.pointer (some ⟨Q, 0, none⟩)), isV (.pointer (some ⟨Q, 0, none⟩)), isV (.pointer (some ⟨Q, 1, none⟩)), isV (.slice (some ⟨D.bL, 0, none⟩) x.cores D.cL), isV (.int .i64 (j : Int)), isV (.pointer (some ⟨D.bL, j, none⟩)), isV (.slice A m cap), isV (.int .i64 (m : Int)), isV (.pointer (some ⟨Q, 0, none⟩)), isV (.pointer (some ⟨Q, 0, none⟩)), isV (.pointer (some ⟨Q, 0, none⟩)), isV (.int .i64 (x.most : Int)), isV (.bool false)]) (by kernel_rfl) (by kernel_rfl) (by kernel_rfl) (RelB.of (below_drew _)) (fun _ _ _ a b => a.trans b) ?_ ?_ ?_
            · refine stays_phiR ?_
              simp only [List.forall_mem_cons]
              exact ⟨fun _ _ _ h _ => h, fun _ _ _ h _ => h, fun _ _ _ h _ => h, fun _ _ _ h _ => h, fun _ _ _ h _ => h, fun _ _ _ h _ => h, fun _ _ _ h _ => h, fun _ _ _ h _ => h, fun _ _ _ h _ => h, fun _ _ _ h _ => h, fun _ _ _ h _ => h, fun _ _ _ h _ => h, fun _ _ _ h _ => h, fun _ h => absurd h (by simp)⟩
            · refine ⟨?_, ?_, ?_, ?_, ?_, ?_, ?_, ?_, ?_, ?_, ?_, ?_, ?_, trivial⟩
              · refine opR_mk rfl fun aa W2 hB hp hq K hK => ?_
                have e0 : aa.tmps[0]?.getD undef = .pointer (some ⟨Q, 0, none⟩) := hp 0 (by kernel_rfl)
                clear hp hq
                go_simp
                exact hK _ _ (RelB.refl _) rfl
              · refine opR_mk rfl fun aa W2 hB hp hq K hK => ?_
                have e29 : aa.tmps[29]?.getD undef = .pointer (some ⟨Q, 0, none⟩) := hq 0 _ (by kernel_rfl) rfl
                clear hp hq
                go_simp
                exact hK _ _ (RelB.refl _) rfl
              · refine opR_mk rfl fun aa W2 hB hp hq K hK => ?_
                have e30 : aa.tmps[30]?.getD undef = .pointer (some ⟨Q, 0, none⟩) := hq 1 _ (by kernel_rfl) rfl
                clear hp hq
                go_simp
                exact hK _ _ (RelB.refl _) rfl
              · refine opR_mk rfl fun aa W2 hB hp hq K hK => ?_
                have e31 : aa.tmps[31]?.getD undef = .pointer (some ⟨Q, 1, none⟩) := hq 2 _ (by kernel_rfl) rfl
                have cc := (HL3.out.below hB).c1
                clear hp hq
                go_simp
                exact hK _ _ (RelB.refl _) rfl
              · refine opR_mk rfl fun aa W2 hB hp hq K hK => ?_
                have e1 : aa.tmps[1]?.getD undef = .int .i64 (j : Int) := hp 1 (by kernel_rfl)
                clear hp hq
                go_simp
                exact hK _ _ (RelB.refl _) rfl
              · refine opR_mk rfl fun aa W2 hB hp hq K hK => ?_
                have e32 : aa.tmps[32]?.getD undef = .slice (some ⟨D.bL, 0, none⟩) x.cores D.cL := hq 3 _ (by kernel_rfl) rfl
                have e33 : aa.tmps[33]?.getD undef = .int .i64 (j : Int) := hq 4 _ (by kernel_rfl) rfl
                clear hp hq
                go_simp
                exact hK _ _ (RelB.refl _) rfl
              · refine opR_mk rfl fun aa W2 hB hp hq K hK => ?_
                have e34 : aa.tmps[34]?.getD undef = .pointer (some ⟨D.bL, j, none⟩) := hq 5 _ (by kernel_rfl) rfl
                have cc := (HL3.out.below hB).cL hjc
                rw [HSL.out] at cc
                clear hp hq
                go_simp
                exact hK _ _ (RelB.refl _) rfl
              · refine opR_mk rfl fun aa W2 hB hp hq K hK => ?_
                have e35 : aa.tmps[35]?.getD undef = .slice A m cap := hq 6 _ (by kernel_rfl) rfl
                clear hp hq
                go_simp
                exact hK _ _ (RelB.refl _) rfl
              · refine opR_mk rfl fun aa W2 hB hp hq K hK => ?_
                have e0 : aa.tmps[0]?.getD undef = .pointer (some ⟨Q, 0, none⟩) := hp 0 (by kernel_rfl)
                clear hp hq
                go_simp
                exact hK _ _ (RelB.refl _) rfl
              · refine opR_mk rfl fun aa W2 hB hp hq K hK => ?_
                have e37 : aa.tmps[37]?.getD undef = .pointer (some ⟨Q, 0, none⟩) := hq 8 _ (by kernel_rfl) rfl
                clear hp hq
                go_simp
                exact hK _ _ (RelB.refl _) rfl
              · refine opR_mk rfl fun aa W2 hB hp hq K hK => ?_
                have e38 : aa.tmps[38]?.getD undef = .pointer (some ⟨Q, 0, none⟩) := hq 9 _ (by kernel_rfl) rfl
                clear hp hq
                go_simp
                exact hK _ _ (RelB.refl _) rfl
              · refine opR_mk rfl fun aa W2 hB hp hq K hK => ?_
                have e39 : aa.tmps[39]?.getD undef = .pointer (some ⟨Q, 0, none⟩) := hq 10 _ (by kernel_rfl) rfl
                have cc := (HL3.out.below hB).c0
                clear hp hq
                go_simp
                exact hK _ _ (RelB.refl _) rfl
              · refine opR_mk rfl fun aa W2 hB hp hq K hK => ?_
                have e36 : aa.tmps[36]?.getD undef = .int .i64 (m : Int) := hq 7 _ (by kernel_rfl) rfl
                have e40 : aa.tmps[40]?.getD undef = .int .i64 (x.most : Int) := hq 11 _ (by kernel_rfl) rfl
                clear hp hq
                go_simp
                exact hK _ _ (RelB.refl _) (by first | rfl | exact congrArg Value.bool (decide_eq_false (by omega)))
            · intro vs W3 hB3 hv3 _
              have v12 : vs 12 = .bool false := hv3 12 _ rfl rfl
              have HB5 := Lib.hid (ptrans HB3.out hB3)
              have HL5 := Lib.hid (HL3.out.below hB3)
              have HR5 := Lib.hid (RelB.rec hB3 HR3.out)
              have HREC5 := Lib.hid (HREC.out.below hB3)
              clear hB3 hv3 HL3 HR3 HREC HB3
              obtain ⟨w5, rfl⟩ : ∃ w5, w5 = W3 := ⟨_, rfl⟩
              simp only [List.take_succ_cons, List.take_zero, putAll, Act.put, List.setIfInBounds_toArray, List.set_cons_succ, List.set_cons_zero, Nat.zero_add, Nat.reduceAdd, v12]
              go_upto_region 5 with fail
              refine wp_region_midC 13 12 (fun j => j == 9 || j == 11) RelB (fun W W' => w5.heap.size ≤ W.heap.size → Below w5.heap.size W W') (fun W W' => w5.heap.size ≤ W.heap.size → Below w5.heap.size W W') (phi [isV (.pointer (some ⟨Q, 0, none⟩)), isV (.int .i64 (j : Int)), isV (.pointer (some ⟨Q, 0, none⟩)), isV (.pointer (some ⟨Q, 0, none⟩)), isV (.pointer (some ⟨Q, 1, none⟩)), isV (.slice (some ⟨D.bL, 0, none⟩) x.cores D.cL), isV (.int .i64 (j : Int)), isV (.pointer (some ⟨D.bL, j, none⟩)), isV (.slice A m cap), (fun v W => ∃ A1 c1, v = .slice A1 m c1 ∧ W.ownsRow w5.heap.size 34 12 (.slice A1 m c1) m (flatR (x.rows j))), isV (.agg #[.int .u64 r.stamp, .int .u8 r.act, .int .u32 r.dir, .string r.name, .int .u32 r.ino, .int .u8 r.kind, .int .u32 r.dir2, .string r.name2, .int .u32 r.old, .int .u32 r.size, .int .i64 r.page, .string r.data]), (fun v W => ∃ q, v = .slice (some ⟨q, 0, none⟩) 1 1 ∧ W.heap[q]? = some (.cells (cellsR r) 34 (0, 0))), (fun v W => ∃ A1 c1, v = .slice A1 (m + 1) c1 ∧ W.ownsRow w5.heap.size 34 12 (.slice A1 (m + 1) c1) (m + 1) (flatR (x.rows j ++ [r])))]) (fun v W => v = .tuple #[] ∧ ∃ D9 G9, DocAt W Q D9 G9 { x with rows := setF x.rows j (x.rows j ++ [r]) } ∧ w5.grownBy W (some Q) ∧ ∀ b, G9 b → G b ∨ w5.heap.size ≤ b) (by kernel_rfl) (by kernel_rfl) (by kernel_rfl) (by decide) (RelB.of (below_drew _)) (fun _ _ _ a b => a.trans b) (fun _ _ h hs => Below.mono h hs) (fun _ _ h => h) (fun _ _ _ a b hs => (a hs).trans (b (Nat.le_trans hs (a hs).size))) ?_ ?_ ?_ ?_ ?_
              · refine stays_phiR ?_
                simp only [List.forall_mem_cons]
                exact ⟨fun _ _ _ h _ => h, fun _ _ _ h _ => h, fun _ _ _ h _ => h, fun _ _ _ h _ => h, fun _ _ _ h _ => h, fun _ _ _ h _ => h, fun _ _ _ h _ => h, fun _ _ _ h _ => h, fun _ _ _ h _ => h, fun _ _ _ h hb => by obtain ⟨A1, c1, h1, h2⟩ := h; exact ⟨A1, c1, h1, row_below h2 hb⟩, fun _ _ _ h _ => h, fun _ _ _ h hb => by obtain ⟨q, h1, h2⟩ := h; exact ⟨q, h1, (Below.block hb _ (lt_heap h2)).trans h2⟩, fun _ _ _ h hb => by obtain ⟨A1, c1, h1, h2⟩ := h; exact ⟨A1, c1, h1, row_below h2 hb⟩, fun _ h => absurd h (by simp)⟩
              · intro i v W W3 hne hD hph hPP
                rcases i with _ | _ | _ | _ | _ | _ | _ | _ | _ | _ | _ | _ | _ | i
                · exact hph
                · exact hph
                · exact hph
                · exact hph
                · exact hph
                · exact hph
                · exact hph
                · exact hph
                · exact hph
                · exact absurd hD (by decide)
                · exact hph
                · exact absurd hD (by decide)
                · exact absurd rfl hne
                · trivial
              · refine ⟨?_, ?_, ?_, ?_, ?_, ?_, ?_, ?_, ?_, ?_, ?_, ?_, ?_, trivial⟩
                · refine opA_mkD (by decide) rfl fun aa W2 hB hp hq K hK => ?_
                  have e0 : aa.tmps[0]?.getD undef = .pointer (some ⟨Q, 0, none⟩) := hp 0 (by kernel_rfl)
                  clear hp hq
                  go_simp
                  exact hK _ _ (RelB.refl _) rfl
                · refine opA_mkD (by decide) rfl fun aa W2 hB hp hq K hK => ?_
                  have e1 : aa.tmps[1]?.getD undef = .int .i64 (j : Int) := hp 1 (by kernel_rfl)
                  clear hp hq
                  go_simp
                  exact hK _ _ (RelB.refl _) rfl
                · refine opA_mkD (by decide) rfl fun aa W2 hB hp hq K hK => ?_
                  have e0 : aa.tmps[0]?.getD undef = .pointer (some ⟨Q, 0, none⟩) := hp 0 (by kernel_rfl)
                  clear hp hq
                  go_simp
                  exact hK _ _ (RelB.refl _) rfl
                · refine opA_mkD (by decide) rfl fun aa W2 hB hp hq K hK => ?_
                  have e44 : aa.tmps[44]?.getD undef = .pointer (some ⟨Q, 0, none⟩) := hq 2 _ (by kernel_rfl) rfl
                  clear hp hq
                  go_simp
                  exact hK _ _ (RelB.refl _) rfl
                · refine opA_mkD (by decide) rfl fun aa W2 hB hp hq K hK => ?_
                  have e45 : aa.tmps[45]?.getD undef = .pointer (some ⟨Q, 0, none⟩) := hq 3 _ (by kernel_rfl) rfl
                  clear hp hq
                  go_simp
                  exact hK _ _ (RelB.refl _) rfl
                · refine opA_mkD (by decide) rfl fun aa W2 hB hp hq K hK => ?_
                  have e46 : aa.tmps[46]?.getD undef = .pointer (some ⟨Q, 1, none⟩) := hq 4 _ (by kernel_rfl) rfl
                  have hB := hB (Nat.le_refl _)
                  have cc := (HL5.out.below hB).c1
                  clear hp hq
                  go_simp
                  exact hK _ _ (RelB.refl _) rfl
                · refine opA_mkD (by decide) rfl fun aa W2 hB hp hq K hK => ?_
                  have e1 : aa.tmps[1]?.getD undef = .int .i64 (j : Int) := hp 1 (by kernel_rfl)
                  clear hp hq
                  go_simp
                  exact hK _ _ (RelB.refl _) rfl
                · refine opA_mkD (by decide) rfl fun aa W2 hB hp hq K hK => ?_
                  have e47 : aa.tmps[47]?.getD undef = .slice (some ⟨D.bL, 0, none⟩) x.cores D.cL := hq 5 _ (by kernel_rfl) rfl
                  have e48 : aa.tmps[48]?.getD undef = .int .i64 (j : Int) := hq 6 _ (by kernel_rfl) rfl
                  clear hp hq
                  go_simp
                  exact hK _ _ (RelB.refl _) rfl
                · refine opA_mkD (by decide) rfl fun aa W2 hB hp hq K hK => ?_
                  have e49 : aa.tmps[49]?.getD undef = .pointer (some ⟨D.bL, j, none⟩) := hq 7 _ (by kernel_rfl) rfl
                  have hB := hB (Nat.le_refl _)
                  have cc := (HL5.out.below hB).cL hjc
                  rw [HSL.out] at cc
                  clear hp hq
                  go_simp
                  exact hK _ _ (RelB.refl _) rfl
                · refine opA_mkD (by decide) rfl fun aa W2 hB hp hq K hK => ?_
                  have e50 : aa.tmps[50]?.getD undef = .slice A m cap := hq 8 _ (by kernel_rfl) rfl
                  have hB5 := hB (Nat.le_refl _)
                  have hrw := HREC5.out.below hB5
                  obtain ⟨v1, w8, hrun, hg1, hg2⟩ := run_append_nilR W2 A cap (x.rows j) m HM.out.symm hrw (by have := HL5.out.len j; rw [← HM.out] at this; omega) 37
                  obtain ⟨A1, c1, rfl⟩ := row_slice hg1
                  have hs : aa.eval (.tmp 50) = .slice A m cap := by simpa [Act.eval] using e50
                  have hz : aa.eval (.const (.slice none 0 0)) = .slice none 0 0 := rfl
                  have hsz := Below.size hB5
                  clear hp hq
                  unfold Oper.wp execOp
                  simp only [resolve, invoke, builtin, Sem.run_bind, Sem.run_pure, Result.andThen_ok, List.map_toArray, List.map_cons, List.map_nil, hz, hs, hrun]
                  exact hK _ _ (RelB.of hg2) ⟨A1, c1, rfl, own_low hg1 hsz⟩
                · refine opA_mkD (by decide) rfl fun aa W2 hB hp hq K hK => ?_
                  have e5 : aa.tmps[5]?.getD undef = .pointer (some ⟨w.heap.size, 0, none⟩) := hp 5 (by kernel_rfl)
                  have hB := hB (Nat.le_refl _)
                  have r0 := rec_cell0 (RelB.rec hB HR5.out) 0 _ rfl
                  have r1 := rec_cell0 (RelB.rec hB HR5.out) 1 _ rfl
                  have r2 := rec_cell0 (RelB.rec hB HR5.out) 2 _ rfl
                  have r3 := rec_cell0 (RelB.rec hB HR5.out) 3 _ rfl
                  have r4 := rec_cell0 (RelB.rec hB HR5.out) 4 _ rfl
                  have r5 := rec_cell0 (RelB.rec hB HR5.out) 5 _ rfl
                  have r6 := rec_cell0 (RelB.rec hB HR5.out) 6 _ rfl
                  have r7 := rec_cell0 (RelB.rec hB HR5.out) 7 _ rfl
                  have r8 := rec_cell0 (RelB.rec hB HR5.out) 8 _ rfl
                  have r9 := rec_cell0 (RelB.rec hB HR5.out) 9 _ rfl
                  have r10 := rec_cell0 (RelB.rec hB HR5.out) 10 _ rfl
                  have r11 := rec_cell0 (RelB.rec hB HR5.out) 11 _ rfl
                  clear hp hq
                  go_simp
                  exact hK _ _ (RelB.refl _) rfl
                · refine opA_mkD (by decide) rfl fun aa W2 hB hp hq K hK => ?_
                  have e52 : aa.tmps[52]?.getD undef = .agg #[.int .u64 r.stamp, .int .u8 r.act, .int .u32 r.dir, .string r.name, .int .u32 r.ino, .int .u8 r.kind, .int .u32 r.dir2, .string r.name2, .int .u32 r.old, .int .u32 r.size, .int .i64 r.page, .string r.data] := hq 10 _ (by kernel_rfl) rfl
                  clear hp hq
                  go_simp
                  exact hK _ _ (RelB.of (below_a1' W2 _)) ⟨W2.heap.size, rfl, heap_alloc_new _ _⟩
                · refine opP_mkD rfl rfl fun aa W2 hB hp hq K hK => ?_
                  obtain ⟨A1, c1, e51, hr9⟩ := hq 9 _ (by kernel_rfl) rfl
                  have e51 : aa.tmps[51]?.getD undef = .slice A1 m c1 := e51
                  obtain ⟨q, e53, hq2⟩ := hq 11 _ (by kernel_rfl) rfl
                  have e53 : aa.tmps[53]?.getD undef = .slice (some ⟨q, 0, none⟩) 1 1 := e53
                  obtain ⟨v1, w8, hrun, hg2, hg3, hg4⟩ := run_append_rec2 w5.heap.size 37 W2 (.slice A1 m c1) (x.rows j) m HM.out.symm hr9 q r hq2 (by have := HL5.out.len j; rw [← HM.out] at this; omega) (Below.size hB)
                  obtain ⟨A2, c2, rfl⟩ := row_slice hg2
                  have hs : aa.eval (.tmp 51) = .slice A1 m c1 := by simpa [Act.eval] using e51
                  have hx : aa.eval (.tmp 53) = .slice (some ⟨q, 0, none⟩) 1 1 := by simpa [Act.eval] using e53
                  clear hp hq
                  unfold Oper.wp execOp
                  simp only [resolve, invoke, builtin, Sem.run_bind, Sem.run_pure, Result.andThen_ok, List.map_toArray, List.map_cons, List.map_nil, hs, hx, hrun]
                  exact hK _ _ (fun _ => below_grownO hg3 (Below.size hB) (fun q hq => (hr9.lt q hq).1)) ⟨A2, c2, rfl, hg2⟩
              · intro oN hoN aa W2 hB hp hq K hK
                obtain rfl := Option.some.inj hoN
                have hB5 := hB (Nat.le_refl _)
                have e42 : aa.tmps[42]?.getD undef = .pointer (some ⟨Q, 0, none⟩) := hq 0 _ (by decide) (by decide) rfl
                have e43 : aa.tmps[43]?.getD undef = .int .i64 (j : Int) := hq 1 _ (by decide) (by decide) rfl
                obtain ⟨A2, c2, e54, hr2⟩ := hq 12 _ (by decide) (by decide) rfl
                have e54 : aa.tmps[54]?.getD undef = .slice A2 (m + 1) c2 := e54
                have hlr : (x.rows j ++ [r]).length = m + 1 := by rw [List.length_append, ← HM.out]; rfl
                clear hp hq
                go_simp
                refine (t_docSet Q D G x j hjc A2 (m + 1) c2 (x.rows j ++ [r]) W2 (HL5.out.below hB5) (recs_of_row hr2 hlr HROK.out) hlr (by have := HL5.out.most256; omega) (fun _ b o e => by have h1 := hr2.lt b (by rw [own_zero hr2 e]; rfl); have h2 := HL5.out.lt Q HL5.out.gQ; exact ⟨by omega, h1.2⟩)).mono ?_
                rintro e w9 ⟨rfl, D9, G9, hd9, hg9, hG9⟩
                exact hK _ _ ⟨rfl, D9, G9, hd9, grown_q hB5 hg9, fun b hb => (hG9 b hb).elim .inl fun h => .inr (h.elim (fun h => Nat.le_trans hB5.size h) fun ⟨_, o, e⟩ => (hr2.lt b (by rw [own_zero hr2 e]; rfl)).1)⟩
              · intro vs3 W3 hF hv
                obtain ⟨v13, D9, G9, hd9, hg9, hG9⟩ := hF
                have v13 : vs3 13 = .tuple #[] := v13
                have HD9 := Lib.hid hd9
                have HG9 := Lib.hid hg9
                have HGG := Lib.hid hG9
                clear hd9 hg9 hG9 hv
                simp only [List.take_succ_cons, List.take_zero, putAll, Act.put, List.setIfInBounds_toArray, List.set_cons_succ, List.set_cons_zero, Nat.zero_add, Nat.reduceAdd, v13]
                obtain ⟨wA, rfl⟩ : ∃ wA, wA = W3 := ⟨_, rfl⟩
                have hRQ : w.heap.size ≠ Q := fun e => by have h1 := HQ0.out; omega
                have HRA9 : Hid (wA.heap[w.heap.size]? = some (.cells (cellsR r) 34 (0, 0))) := (HG9.out.block _ (lt_heap HR5.out) (fun e => hRQ (Option.some.inj e))).trans HR5.out
                obtain ⟨i1, hi1, hy0, hy1, hy2⟩ := infoU
                have c2A : wA.cell? ⟨Q, 2, none⟩ = some (.slice (some ⟨D9.bT, 0, none⟩) x.cores D9.cT) := HD9.out.c2
                go_wp2_with (at_builtin; refine wpList_append_own _ rfl _ _ 23 rfl wA.heap.size 31 i1 (.int .u64 0) 1 8 Tryz.underlying23 hi1 hy0 hy1 hy2 rfl (by decide) (.slice none 0 0) 0 [] rfl (World.ownsRow_nil _ _ _ _) ⟨D9.bT, 0, none⟩ x.cores D9.cT (rowV x.cores fun k => .int .u64 (x.last k)) rfl (by rw [rowV_len]; omega) (fun i u hu => by rw [Addr.add_mid, Nat.zero_add]; have hi : i < x.cores := (by have := (List.getElem?_eq_some_iff.1 hu).1; rw [rowV_len] at this; exact this); rw [rowV_get (fun k => Value.int .u64 (x.last k)) hi] at hu; rw [← Option.some.inj hu]; exact HD9.out.cT hi) (fun u hu => by obtain ⟨i, _, rfl⟩ := List.mem_map.1 hu; rfl) (by unfold maxLen; omega) (by omega) (Nat.le_refl _) ?_; intro v1 w1 h2 h3 h4; replace h3 : wA.grownBy w1 none := h3; obtain ⟨g, c1, rfl, hgl⟩ := own_some h2 (by omega); rw [Nat.zero_add, List.nil_append] at h2; have HO := Lib.hid h2; have HG := Lib.hid h3; have hQg : ¬ Q = g := (by have := HD9.out.lt Q HD9.out.gQ; omega); have hgQ : ¬ g = Q := (fun e => hQg e.symm); have cg := h2.cellAt j (by omega); rw [rowV_get (fun k => Value.int .u64 (x.last k)) hjc] at cg; have fg := h2.frozenAt j; have cq := (grown_cell (j := 2) h3 (HD9.out.lt Q HD9.out.gQ) (by simp)).trans c2A; have fq : w1.frozen? ⟨Q, 2, none⟩ = false := (World.frozen?_of_block (a := ⟨Q, 2, none⟩) (h3.block Q (HD9.out.lt Q HD9.out.gQ) (by simp))).trans (HD9.out.frozen 2); have r0 := rec_cell0 ((h3.block _ (lt_heap HRA9.out) (by simp)).trans HRA9.out) 0 _ rfl; clear h2 h3 h4)
                go_ret
                have hset := DocAt.setT HD9.out (k := j) HO.out HG.out r.stamp
                have hp0 : putE x (j : Int) r = 0 := by rw [HPE.out, if_pos (by rw [← HM.out]; exact hfull)]
                have hpl : putL x (j : Int) r = { x with rows := setF x.rows j (x.rows j ++ [r]), last := setF x.last j r.stamp } := by
                  unfold putL
                  rw [if_pos hp0]
                  rfl
                rw [hpl]
                refine ⟨by rw [hp0]; rfl, _, _, hset.1, grown_two (grown_two (grown_below HB5.out) HG9.out) hset.2, fun b hb => ?_⟩
                · rcases hb with hb | rfl
                  · exact (HGG.out b hb).elim .inl fun h => .inr (by have := HB5.out.size; omega)
                  · exact .inr (by have h1 := HG9.out.size; have h2 := HB5.out.size; omega)
          · have hfi : (x.most : Int) ≤ (m : Int) := by omega
            go_upto_region 3 with fail
            refine wp_region_rel RelB (phi [isV (.pointer (some ⟨Q, 0, none⟩)), isV (.pointer (some ⟨Q, 0, none⟩)), isV (.pointer (some ⟨Q, 1, none⟩)), isV (.slice (some ⟨D.bL, 0, none⟩) x.cores D.cL), isV (.int .i64 (j : Int)), isV (.pointer (some ⟨D.bL, j, none⟩)), isV (.slice A m cap), isV (.int .i64 (m : Int)), isV (.pointer (some ⟨Q, 0, none⟩)), isV (.pointer (some ⟨Q, 0, none⟩)), isV (.pointer (some ⟨Q, 0, none⟩)), isV (.int .i64 (x.most : Int)), isV (.bool true)]) (by kernel_rfl) (by kernel_rfl) (by kernel_rfl) (RelB.of (below_drew _)) (fun _ _ _ a b => a.trans b) ?_ ?_ ?_
            · refine stays_phiR ?_
              simp only [List.forall_mem_cons]
              exact ⟨fun _ _ _ h _ => h, fun _ _ _ h _ => h, fun _ _ _ h _ => h, fun _ _ _ h _ => h, fun _ _ _ h _ => h, fun _ _ _ h _ => h, fun _ _ _ h _ => h, fun _ _ _ h _ => h, fun _ _ _ h _ => h, fun _ _ _ h _ => h, fun _ _ _ h _ => h, fun _ _ _ h _ => h, fun _ _ _ h _ => h, fun _ h => absurd h (by simp)⟩
            · refine ⟨?_, ?_, ?_, ?_, ?_, ?_, ?_, ?_, ?_, ?_, ?_, ?_, ?_, trivial⟩
              · refine opR_mk rfl fun aa W2 hB hp hq K hK => ?_
                have e0 : aa.tmps[0]?.getD undef = .pointer (some ⟨Q, 0, none⟩) := hp 0 (by kernel_rfl)
                clear hp hq
                go_simp
                exact hK _ _ (RelB.refl _) rfl
              · refine opR_mk rfl fun aa W2 hB hp hq K hK => ?_
                have e29 : aa.tmps[29]?.getD undef = .pointer (some ⟨Q, 0, none⟩) := hq 0 _ (by kernel_rfl) rfl
                clear hp hq
                go_simp
                exact hK _ _ (RelB.refl _) rfl
              · refine opR_mk rfl fun aa W2 hB hp hq K hK => ?_
                have e30 : aa.tmps[30]?.getD undef = .pointer (some ⟨Q, 0, none⟩) := hq 1 _ (by kernel_rfl) rfl
                clear hp hq
                go_simp
                exact hK _ _ (RelB.refl _) rfl
              · refine opR_mk rfl fun aa W2 hB hp hq K hK => ?_
                have e31 : aa.tmps[31]?.getD undef = .pointer (some ⟨Q, 1, none⟩) := hq 2 _ (by kernel_rfl) rfl
                have cc := (HL3.out.below hB).c1
                clear hp hq
                go_simp
                exact hK _ _ (RelB.refl _) rfl
              · refine opR_mk rfl fun aa W2 hB hp hq K hK => ?_
                have e1 : aa.tmps[1]?.getD undef = .int .i64 (j : Int) := hp 1 (by kernel_rfl)
                clear hp hq
                go_simp
                exact hK _ _ (RelB.refl _) rfl
              · refine opR_mk rfl fun aa W2 hB hp hq K hK => ?_
                have e32 : aa.tmps[32]?.getD undef = .slice (some ⟨D.bL, 0, none⟩) x.cores D.cL := hq 3 _ (by kernel_rfl) rfl
                have e33 : aa.tmps[33]?.getD undef = .int .i64 (j : Int) := hq 4 _ (by kernel_rfl) rfl
                clear hp hq
                go_simp
                exact hK _ _ (RelB.refl _) rfl
              · refine opR_mk rfl fun aa W2 hB hp hq K hK => ?_
                have e34 : aa.tmps[34]?.getD undef = .pointer (some ⟨D.bL, j, none⟩) := hq 5 _ (by kernel_rfl) rfl
                have cc := (HL3.out.below hB).cL hjc
                rw [HSL.out] at cc
                clear hp hq
                go_simp
                exact hK _ _ (RelB.refl _) rfl
              · refine opR_mk rfl fun aa W2 hB hp hq K hK => ?_
                have e35 : aa.tmps[35]?.getD undef = .slice A m cap := hq 6 _ (by kernel_rfl) rfl
                clear hp hq
                go_simp
                exact hK _ _ (RelB.refl _) rfl
              · refine opR_mk rfl fun aa W2 hB hp hq K hK => ?_
                have e0 : aa.tmps[0]?.getD undef = .pointer (some ⟨Q, 0, none⟩) := hp 0 (by kernel_rfl)
                clear hp hq
                go_simp
                exact hK _ _ (RelB.refl _) rfl
              · refine opR_mk rfl fun aa W2 hB hp hq K hK => ?_
                have e37 : aa.tmps[37]?.getD undef = .pointer (some ⟨Q, 0, none⟩) := hq 8 _ (by kernel_rfl) rfl
                clear hp hq
                go_simp
                exact hK _ _ (RelB.refl _) rfl
              · refine opR_mk rfl fun aa W2 hB hp hq K hK => ?_
                have e38 : aa.tmps[38]?.getD undef = .pointer (some ⟨Q, 0, none⟩) := hq 9 _ (by kernel_rfl) rfl
                clear hp hq
                go_simp
                exact hK _ _ (RelB.refl _) rfl
              · refine opR_mk rfl fun aa W2 hB hp hq K hK => ?_
                have e39 : aa.tmps[39]?.getD undef = .pointer (some ⟨Q, 0, none⟩) := hq 10 _ (by kernel_rfl) rfl
                have cc := (HL3.out.below hB).c0
                clear hp hq
                go_simp
                exact hK _ _ (RelB.refl _) rfl
              · refine opR_mk rfl fun aa W2 hB hp hq K hK => ?_
                have e36 : aa.tmps[36]?.getD undef = .int .i64 (m : Int) := hq 7 _ (by kernel_rfl) rfl
                have e40 : aa.tmps[40]?.getD undef = .int .i64 (x.most : Int) := hq 11 _ (by kernel_rfl) rfl
                clear hp hq
                go_simp
                exact hK _ _ (RelB.refl _) (by first | rfl | exact congrArg Value.bool (decide_eq_true (by omega)))
            · intro vs W3 hB3 hv3 _
              have v12 : vs 12 = .bool true := hv3 12 _ rfl rfl
              have HB5 := Lib.hid (ptrans HB3.out hB3)
              have HL5 := Lib.hid (HL3.out.below hB3)
              clear hB3 hv3
              simp only [List.take_succ_cons, List.take_zero, putAll, Act.put, List.setIfInBounds_toArray, List.set_cons_succ, List.set_cons_zero, Nat.zero_add, Nat.reduceAdd, v12]
              go_wp2
              go_ret
              refine ⟨by rw [HPE.out, if_neg (by rw [← HM.out]; exact hfull)]; rfl, D, G, ?_, grown_below HB5.out, fun b hb => .inl hb⟩
              rw [HST.out (by rw [HPE.out, if_neg (by rw [← HM.out]; exact hfull)]; decide)]
              exact HL5.out
  · have hpe : putE x k r = 2 := by unfold putE; rw [if_neg (by rintro ⟨h1, h2, _⟩; exact hk ⟨h1, h2⟩)]
    have HPE := Lib.hid hpe
    have HPL := Lib.hid (HST.out (by rw [hpe]; decide))
    have HK := Lib.hid hk
    clear hpe hk
    go_enter Tryz.func25, Tryz.ntmps25
    go_upto_region 1 with fail
    refine wp_region_rel RelB (phi [isV (.pointer (some ⟨Q, 0, none⟩)), isV (.int .i64 k), isV (.bool false), isV (.bool true), isV (.bool true), (fun _ _ => True), (fun _ _ => True), (fun _ _ => True), isV (.bool true), isV (.bool true), (fun _ _ => True), (fun _ _ => True), (fun _ _ => True), (fun _ _ => True), (fun _ _ => True), (fun _ _ => True), (fun _ _ => True), (fun _ _ => True), (fun _ _ => True), (fun _ _ => True), isV (.bool true)]) (by kernel_rfl) (by kernel_rfl) (by kernel_rfl) (RelB.of (below_drew _)) (fun _ _ _ a b => a.trans b) ?_ ?_ ?_
    · refine stays_phiR ?_
      simp only [List.forall_mem_cons]
      exact ⟨fun _ _ _ h _ => h, fun _ _ _ h _ => h, fun _ _ _ h _ => h, fun _ _ _ h _ => h, fun _ _ _ h _ => h, fun _ _ _ _ _ => trivial, fun _ _ _ _ _ => trivial, fun _ _ _ _ _ => trivial, fun _ _ _ h _ => h, fun _ _ _ h _ => h, fun _ _ _ _ _ => trivial, fun _ _ _ _ _ => trivial, fun _ _ _ _ _ => trivial, fun _ _ _ _ _ => trivial, fun _ _ _ _ _ => trivial, fun _ _ _ _ _ => trivial, fun _ _ _ _ _ => trivial, fun _ _ _ _ _ => trivial, fun _ _ _ _ _ => trivial, fun _ _ _ _ _ => trivial, fun _ _ _ h _ => h, fun _ h => absurd h (by simp)⟩
    · refine ⟨?_, ?_, ?_, ?_, ?_, ?_, ?_, ?_, ?_, ?_, ?_, ?_, ?_, ?_, ?_, ?_, ?_, ?_, ?_, ?_, ?_, trivial⟩
      · refine opR_mk rfl fun aa W2 hB hp hq K hK => ?_
        have e0 : aa.tmps[0]?.getD undef = .pointer (some ⟨Q, 0, none⟩) := hp 0 (by kernel_rfl)
        clear hp hq
        go_simp
        exact hK _ _ (RelB.refl _) rfl
      · refine opR_mk rfl fun aa W2 hB hp hq K hK => ?_
        have e1 : aa.tmps[1]?.getD undef = .int .i64 k := hp 1 (by kernel_rfl)
        clear hp hq
        go_simp
        exact hK _ _ (RelB.refl _) rfl
      · refine opR_mk rfl fun aa W2 hB hp hq K hK => ?_
        have e8 : aa.tmps[8]?.getD undef = .pointer (some ⟨Q, 0, none⟩) := hq 0 _ (by kernel_rfl) rfl
        have e9 : aa.tmps[9]?.getD undef = .int .i64 k := hq 1 _ (by kernel_rfl) rfl
        clear hp hq
        go_simp
        refine (t_docHas Q D G x k false (decide_eq_false HK.out) W2 (HLA.out.below hB)).mono ?_
        rintro e w2 ⟨rfl, rfl⟩
        exact hK _ _ (RelB.refl _) rfl
      · refine opR_mk rfl fun aa W2 hB hp hq K hK => ?_
        have e10 : aa.tmps[10]?.getD undef = .bool false := hq 2 _ (by kernel_rfl) rfl
        clear hp hq
        go_simp
        exact hK _ _ (RelB.refl _) rfl
      · refine opR_mk rfl fun aa W2 hB hp hq K hK => ?_
        have e11 : aa.tmps[11]?.getD undef = .bool true := hq 3 _ (by kernel_rfl) rfl
        clear hp hq
        go_simp
        exact hK _ _ (RelB.refl _) rfl
      · exact opR_guard (j := 4) (d := 12) (c := true) rfl rfl (by kernel_rfl) rfl rfl (fun v W h => h) (fun _ => RelB.refl _) (fun _ _ => trivial) (fun hc => absurd hc (by decide))
      · exact opR_guard (j := 4) (d := 12) (c := true) rfl rfl (by kernel_rfl) rfl rfl (fun v W h => h) (fun _ => RelB.refl _) (fun _ _ => trivial) (fun hc => absurd hc (by decide))
      · exact opR_guard (j := 4) (d := 12) (c := true) rfl rfl (by kernel_rfl) rfl rfl (fun v W h => h) (fun _ => RelB.refl _) (fun _ _ => trivial) (fun hc => absurd hc (by decide))
      · refine opR_mk rfl fun aa W2 hB hp hq K hK => ?_
        have e12 : aa.tmps[12]?.getD undef = .bool true := hq 4 _ (by kernel_rfl) rfl
        clear hp hq
        go_simp
        exact hK _ _ (RelB.refl _) rfl
      · refine opR_mk rfl fun aa W2 hB hp hq K hK => ?_
        have e16 : aa.tmps[16]?.getD undef = .bool true := hq 8 _ (by kernel_rfl) rfl
        clear hp hq
        go_simp
        exact hK _ _ (RelB.refl _) rfl
      · exact opR_guard (j := 9) (d := 17) (c := true) rfl rfl (by kernel_rfl) rfl rfl (fun v W h => h) (fun _ => RelB.refl _) (fun _ _ => trivial) (fun hc => absurd hc (by decide))
      · exact opR_guard (j := 9) (d := 17) (c := true) rfl rfl (by kernel_rfl) rfl rfl (fun v W h => h) (fun _ => RelB.refl _) (fun _ _ => trivial) (fun hc => absurd hc (by decide))
      · exact opR_guard (j := 9) (d := 17) (c := true) rfl rfl (by kernel_rfl) rfl rfl (fun v W h => h) (fun _ => RelB.refl _) (fun _ _ => trivial) (fun hc => absurd hc (by decide))
      · exact opR_guard (j := 9) (d := 17) (c := true) rfl rfl (by kernel_rfl) rfl rfl (fun v W h => h) (fun _ => RelB.refl _) (fun _ _ => trivial) (fun hc => absurd hc (by decide))
      · exact opR_guard (j := 9) (d := 17) (c := true) rfl rfl (by kernel_rfl) rfl rfl (fun v W h => h) (fun _ => RelB.refl _) (fun _ _ => trivial) (fun hc => absurd hc (by decide))
      · exact opR_guard (j := 9) (d := 17) (c := true) rfl rfl (by kernel_rfl) rfl rfl (fun v W h => h) (fun _ => RelB.refl _) (fun _ _ => trivial) (fun hc => absurd hc (by decide))
      · exact opR_guard (j := 9) (d := 17) (c := true) rfl rfl (by kernel_rfl) rfl rfl (fun v W h => h) (fun _ => RelB.refl _) (fun _ _ => trivial) (fun hc => absurd hc (by decide))
      · exact opR_guard (j := 9) (d := 17) (c := true) rfl rfl (by kernel_rfl) rfl rfl (fun v W h => h) (fun _ => RelB.refl _) (fun _ _ => trivial) (fun hc => absurd hc (by decide))
      · exact opR_guard (j := 9) (d := 17) (c := true) rfl rfl (by kernel_rfl) rfl rfl (fun v W h => h) (fun _ => RelB.refl _) (fun _ _ => trivial) (fun hc => absurd hc (by decide))
      · exact opR_guard (j := 9) (d := 17) (c := true) rfl rfl (by kernel_rfl) rfl rfl (fun v W h => h) (fun _ => RelB.refl _) (fun _ _ => trivial) (fun hc => absurd hc (by decide))
      · refine opR_mk rfl fun aa W2 hB hp hq K hK => ?_
        have e17 : aa.tmps[17]?.getD undef = .bool true := hq 9 _ (by kernel_rfl) rfl
        clear hp hq
        go_simp
        exact hK _ _ (RelB.refl _) rfl
    · intro vs W3 hB3 hv3 _
      have v20 : vs 20 = .bool true := hv3 20 _ rfl rfl
      have HB3 := Lib.hid (ptrans (below_a1' w _) hB3)
      have HL3 := Lib.hid (HLA.out.below hB3)
      clear hB3 hv3
      simp only [List.take_succ_cons, List.take_zero, putAll, Act.put, List.setIfInBounds_toArray, List.set_cons_succ, List.set_cons_zero, Nat.zero_add, Nat.reduceAdd, v20]
      go_wp2
      go_ret
      refine ⟨by rw [HPE.out]; rfl, D, G, ?_, grown_below HB3.out, fun b hb => .inl hb⟩
      rw [HPL.out]
      exact HL3.out
end Go.Proofs.YtehckjkihaalfaaGreat

/- The document's log, walked: Merge. -/
namespace Go.Proofs.YtehckjkihaalfaaGreat
open Go.RowKit Go.Maps

theorem drop_rAt' {l : List R} {k : Nat} (h : k < l.length) : l.drop k = rAt l k :: l.drop (k + 1) := by
  rw [List.drop_eq_getElem_cons h]
  congr 1
  unfold rAt
  rw [List.getD_eq_getElem?_getD, List.getElem?_eq_getElem h]
  rfl
theorem aheadR_step {x : R} {L : List R} {k : Nat} (hk : k < L.length) (h : (rAt L k).stamp ≤ x.stamp) : aheadR x (L.drop k) = aheadR x (L.drop (k + 1)) + 1 := by
  rw [drop_rAt' hk]
  show (if (rAt L k).stamp ≤ x.stamp then _ else _) = _
  rw [if_pos h]
theorem aheadR_stop {x : R} {L : List R} {k : Nat} (hk : k < L.length) (h : ¬ (rAt L k).stamp ≤ x.stamp) : aheadR x (L.drop k) = 0 := by
  rw [drop_rAt' hk]
  show (if (rAt L k).stamp ≤ x.stamp then _ else _) = _
  rw [if_neg h]
theorem insTo_mem {x : PLog} {c : Nat} {T : List (Nat × R)} {a : Nat × R} : ∀ {i}, i ≤ (x.rows c).length → a ∈ insTo x c T i → a ∈ T ∨ a.2 ∈ x.rows c
  | 0, _, h => .inl h
  | i + 1, hi, h => by
    rcases insR_mem.1 h with rfl | h
    · exact .inr (rAt_mem (by omega))
    · exact insTo_mem (by omega) h
theorem mergeTo_mem {x : PLog} {a : Nat × R} : ∀ {c}, a ∈ mergeTo x c → ∃ j, j < c ∧ a.2 ∈ x.rows j
  | 0, h => by simp [mergeTo] at h
  | c + 1, h => by
    rcases insTo_mem (Nat.le_refl _) h with h | h
    · obtain ⟨j, hj, h2⟩ := mergeTo_mem h
      exact ⟨j, by omega, h2⟩
    · exact ⟨c, Nat.lt_succ_self _, h⟩
theorem merged_okT {x : PLog} (hok : ∀ j, j < x.cores → ∀ s ∈ x.rows j, RecOk s) {c i : Nat} (hc : c < x.cores) (hi : i ≤ (x.rows c).length) : ∀ s ∈ (insTo x c (mergeTo x c) i).map Prod.snd, RecOk s := fun s hs => by
  obtain ⟨a, ha, rfl⟩ := List.mem_map.1 hs
  rcases insTo_mem hi ha with h | h
  · obtain ⟨j, hj, h2⟩ := mergeTo_mem h
    exact hok j (by omega) _ h2
  · exact hok c hc _ h
theorem run_append_recs (base ty : Nat) (w : World) (v : Value) (l1 : List R) (n1 : Nat) (hown : w.ownsRow base 34 12 v n1 (flatR l1)) (A : Option Addr) (m c : Nat) (l2 : List R) (hs : (∃ a, A = some a ∧ RecsAt w A l2) ∨ (A = none ∧ c = 0 ∧ l2 = [])) (hm : l2.length = m) (hl : n1 + m ≤ 100000) (hbase : base ≤ w.heap.size) :
    ∃ v' w', (Builtin.append_ #[37, 37] ty #[v, .slice A m c]).run Tryz.prog w = .ok v' w' ∧ w'.ownsRow base 34 12 v' (n1 + m) (flatR (l1 ++ l2)) ∧ w.grownBy w' v.ownBlock := by
  obtain ⟨i0, hi, hz0, hz1, hz2⟩ := infoRec
  rcases hs with ⟨a, rfl, hr⟩ | ⟨rfl, rfl, rfl⟩
  · obtain ⟨v', w', hrun, h2, h3, _, _⟩ := run_append_own_at (P := Tryz.prog) w base 37 ty 34 i0 _ 12 96 Tryz.underlying37 hi hz0 hz1 hz2 rfl (by decide) v n1 (flatR l1) hown a m c (flatR l2)
      (by rw [flatR_len', hm]) (fun j u hu => by
        have hne : l2 ≠ [] := fun e => by rw [e] at hu; simp [flatR] at hu
        obtain ⟨b, o, h1, _, h3⟩ := hr.at_ hne
        obtain rfl := Option.some.inj h1
        rw [add_flat]
        exact flat_at h3 hu) (flatR_one l2) (by unfold maxLen; omega) (by omega) hbase
    rw [← flatR_append] at h2
    exact ⟨v', w', hrun, h2, h3⟩
  · obtain rfl : m = 0 := hm.symm
    refine ⟨v, w, run_append_owned_none (P := Tryz.prog) w base 37 ty 34 i0 12 Tryz.underlying37 hi v n1 (flatR l1) hown, by rw [List.append_nil]; exact hown, ⟨rfl, rfl, rfl, Nat.le_refl _, fun _ _ _ => rfl⟩⟩
theorem wpList_append_recs {ops : Array Oper} {rest : List Oper} {o : Oper} {a : Act} {Q : Exit → Act → World → Prop} {w : World} (hgd : o.guard = none) (s x : Operand)
    (ho : o.op = .call { callee := .builtin .append, args := #[s, x], argTypes := #[37, 37] })
    (base : Nat) (v : Value) (l1 : List R) (n1 n2 : Nat) (hs : a.eval s = v) (hown : w.ownsRow base 34 12 v n1 (flatR l1)) (A : Option Addr) (m c : Nat) (l2 : List R) (hx : a.eval x = .slice A m c) (hsrc : (∃ a, A = some a ∧ RecsAt w A l2) ∨ (A = none ∧ c = 0 ∧ l2 = [])) (hm : l2.length = m) (h12 : n1 + m = n2) (hl : n1 + m ≤ 100000) (hbase : base ≤ w.heap.size)
    (h : ∀ A1 c1 w', w'.ownsRow base 34 12 (.slice A1 n2 c1) n2 (flatR (l1 ++ l2)) → w.grownBy w' v.ownBlock → wpList Tryz.prog ops Q rest (a.put o.dst (.slice A1 n2 c1)) w') : wpList Tryz.prog ops Q (o :: rest) a w :=
  wpList_plain hgd fun _ hK => by
    subst h12
    obtain ⟨v', w', hrun, h2, h3⟩ := run_append_recs base o.type w v l1 n1 hown A m c l2 hsrc hm hl hbase
    unfold Oper.wp execOp
    simp only [ho, resolve, invoke, builtin, Sem.run_bind, Sem.run_pure, Result.andThen_ok, List.map_toArray, List.map_cons, List.map_nil, hs, hx, hrun]
    obtain ⟨A1, c1, rfl⟩ := row_slice h2
    exact hK _ _ (h A1 c1 w' h2 h3)
theorem recs_taken {w : World} {A : Option Addr} {l : List R} (h : RecsAt w A l) (m : Nat) : RecsAt w A (l.take m) := ⟨fun hn => by
  obtain ⟨b, o, h1, h2, h3⟩ := h.at_ (fun e => by rw [e] at hn; simp at hn)
  exact ⟨b, o, h1, h2, fun k r hk i v hv => h3 k r (by
    have hlt := (List.getElem?_eq_some_iff.1 hk).1
    rw [List.length_take] at hlt
    rw [List.getElem?_take_of_lt (by omega)] at hk
    exact hk) i v hv⟩, fun r hr => h.ok r (List.mem_of_mem_take hr)⟩
theorem recs_drop {w : World} {g : Nat} {l : List R} (h : RecsAt w (some ⟨g, 0, none⟩) l) (k : Nat) : RecsAt w (some ⟨g, k * 12, none⟩) (l.drop k) := ⟨fun hn => by
  obtain ⟨b, o, h1, h2, h3⟩ := h.at_ (fun e => by rw [e] at hn; simp at hn)
  have e := Option.some.inj h1
  rw [Addr.mk.injEq] at e
  obtain ⟨rfl, rfl, _⟩ := e
  exact ⟨g, k * 12, rfl, h2, fun j r hj i v hv => by
    rw [List.getElem?_drop] at hj
    have := h3 (k + j) r hj i v hv
    rw [show 0 + (k + j) * 12 + i = k * 12 + j * 12 + i by omega] at this
    exact this⟩, fun r hr => h.ok r (List.mem_of_mem_drop hr)⟩
theorem recs_nothing {w : World} {A A' : Option Addr} {l : List R} (h : RecsAt w A l) {k : Nat} (hk : l.length ≤ k) : RecsAt w A' (l.drop k) := ⟨fun hne => absurd (List.drop_of_length_le hk) hne, fun r hr => h.ok r (List.mem_of_mem_drop hr)⟩
theorem src_any {w : World} {A : Option Addr} {p : Prop} [Decidable p] {a b : Addr} {q : Prop} {L : List R} (h : RecsAt w A L) {k : Nat} (hk : L.length ≤ k) :
    (∃ a', (if p then some a else some b) = some a' ∧ RecsAt w (if p then some a else some b) (L.drop k)) ∨ q := by
  by_cases hp : p
  · rw [if_pos hp]
    exact .inl ⟨_, rfl, recs_nothing h hk⟩
  · rw [if_neg hp]
    exact .inl ⟨_, rfl, recs_nothing h hk⟩
set_option maxRecDepth 100000 in
set_option maxHeartbeats 16000000 in
theorem t_docMerge (Q : Nat) (D : DD) (G : Nat → Prop) (x : PLog) (w : World) (h : DocAt w Q D G x) :
    Calls Tryz.prog 66 #[.pointer (some ⟨Q, 0, none⟩)] w fun e w' => ∃ A n c, e = .returned (.slice A n c) ∧ ((mergeTo x x.cores).map Prod.snd).length = n ∧ w'.ownsRow w.heap.size 34 12 (.slice A n c) n (flatR ((mergeTo x x.cores).map Prod.snd)) ∧ Below w.heap.size w w' := by
  have c1 := h.c1
  have h8 := h.cores8
  have HH := Lib.hid h
  have HOKT : Hid (∀ c i, c < x.cores → i ≤ (x.rows c).length → ∀ s ∈ (insTo x c (mergeTo x c) i).map Prod.snd, RecOk s) := fun c i hc hi s hs => merged_okT (fun j hj s hs => by obtain ⟨_, _, _, h2, _⟩ := h.row j hj; exact h2.ok s hs) hc hi s hs
  clear h
  go_enter Tryz.func66, Tryz.ntmps66
  go_wp2
  go_loopw [3, 4] (fun u v wr => ∃ (c n : Nat) (A : Option Addr) (cO : Nat), u = .slice A n cO ∧ v = .int .i64 (c : Int) ∧ c ≤ x.cores ∧ n ≤ 256 * c ∧ Hid (((mergeTo x c).map Prod.snd).length = n ∧ wr.ownsRow w.heap.size 34 12 (.slice A n cO) n (flatR ((mergeTo x c).map Prod.snd)) ∧ Below w.heap.size w wr)) (fun _ v _ => x.cores - (intOf v).toNat)
  case atStart => exact ⟨0, 0, none, 0, rfl, rfl, Nat.zero_le _, Nat.le_refl _, rfl, World.ownsRow_nil _ _ _ _, Below.refl _ _⟩
  case round =>
    obtain ⟨c, n, A, cO, rfl, rfl, hc, hn, HI⟩ := hrel
    have HHr := Lib.hid (HH.out.below HI.out.2.2)
    have c1r := HHr.out.c1
    by_cases hcc : c < x.cores
    · have hcc' : (c : Int) < (x.cores : Int) := by omega
      obtain ⟨A1, cp1, hsl, hrec, _⟩ := HHr.out.row c hcc
      have cL := HHr.out.cL hcc
      obtain ⟨m, hm⟩ : ∃ m, m = (x.rows c).length := ⟨_, rfl⟩
      rw [← hm] at hsl
      rw [hsl] at cL
      have hm2 : m ≤ 256 := by rw [hm]; exact HH.out.len c
      have HM := Lib.hid hm.symm
      have HSL := Lib.hid hsl
      clear hm hsl
      go_wp2
      go_loopw [3, 5] (fun u v wr => ∃ (i n : Nat) (A : Option Addr) (cO : Nat), u = .slice A n cO ∧ v = .int .i64 (i : Int) ∧ i ≤ m ∧ n ≤ 256 * c + i ∧ Hid (((insTo x c (mergeTo x c) i).map Prod.snd).length = n ∧ wr.ownsRow w.heap.size 34 12 (.slice A n cO) n (flatR ((insTo x c (mergeTo x c) i).map Prod.snd)) ∧ Below w.heap.size w wr)) (fun _ v _ => m - (intOf v).toNat)
      case atStart => exact ⟨0, n, A, cO, rfl, rfl, Nat.zero_le _, hn, HI.out⟩
      case round =>
        clear HI HHr c1r cL hrec
        obtain ⟨i, n, A, cO, rfl, rfl, hi, hn, HI⟩ := hrel
        have HHr := Lib.hid (HH.out.below HI.out.2.2)
        have c1r := HHr.out.c1
        have cL := HHr.out.cL hcc
        rw [HSL.out] at cL
        by_cases him : i < m
        · have him' : (i : Int) < (m : Int) := by omega
          obtain ⟨A2, cp2, hsl, hrec, _⟩ := HHr.out.row c hcc
          rw [HSL.out] at hsl
          have e1 : A1 = A2 := (Value.slice.inj hsl).1
          have e3 : cp1 = cp2 := (Value.slice.inj hsl).2.2
          subst e1
          subst e3
          have hx := rAt_get2 (l := x.rows c) (k := i) (by rw [HM.out]; exact him)
          obtain ⟨r, hr⟩ : ∃ r, r = rAt (x.rows c) i := ⟨_, rfl⟩
          rw [← hr] at hx
          obtain ⟨b, o, rfl, hb, hc6⟩ := hrec.at_ (fun e => by rw [e] at hx; simp at hx)
          have f6 := hc6 i r hx
          have r0 := f6 0 _ rfl
          rw [Nat.add_zero] at r0
          have r1 := f6 1 _ rfl
          have r2 := f6 2 _ rfl
          have r3 := f6 3 _ rfl
          have r4 := f6 4 _ rfl
          have r5 := f6 5 _ rfl
          have r6 := f6 6 _ rfl
          have r7 := f6 7 _ rfl
          have r8 := f6 8 _ rfl
          have r9 := f6 9 _ rfl
          have r10 := f6 10 _ rfl
          have r11 := f6 11 _ rfl
          have HR := Lib.hid hr
          have hrok : RecOk r := by rw [hr]; exact hrec.ok _ (rAt_mem (by rw [HM.out]; exact him))
          have HROK := Lib.hid hrok
          have HSUC : Hid (insTo x c (mergeTo x c) (i + 1) = insR (c, r) (insTo x c (mergeTo x c) i)) := by show insR (c, rAt (x.rows c) i) _ = _; rw [hr]
          clear hx hr hc6 f6 hb hrec hsl hrok
          go_wp2
          have hb5 : Below w.heap.size w (wr.alloc (.cells (cellsR r) 34)) := HI.out.2.2.trans ((below_a1' wr _).mono HI.out.2.2.size)
          have hx5 : (wr.alloc (.cells (cellsR r) 34)).heap[wr.heap.size]? = some (.cells (cellsR r) 34 (0, 0)) := heap_alloc_new _ _
          have ho5 := HI.out.2.1.alloc (.cells (cellsR r) 34)
          have hokL : ∀ s ∈ (insTo x c (mergeTo x c) i).map Prod.snd, RecOk s := fun s hs => HOKT.out c i hcc (by rw [HM.out]; omega) s hs
          unfold cellsR at hb5 hx5 ho5
          obtain ⟨xb, hxb⟩ : ∃ xb, xb = wr.heap.size := ⟨_, rfl⟩
          rw [← hxb] at hx5 ⊢
          obtain ⟨T, hT⟩ : ∃ T, T = insTo x c (mergeTo x c) i := ⟨_, rfl⟩
          obtain ⟨L, hL⟩ : ∃ L, L = T.map Prod.snd := ⟨_, rfl⟩
          have hlen := HI.out.1
          rw [← hT, ← hL] at hlen ho5 hokL
          have HTL := Lib.hid (And.intro hT hL)
          have HLEN := Lib.hid hlen
          have HRO0 := recs_of_row ho5 hlen hokL
          have HDIS : Hid ((∃ g, A = some ⟨g, 0, none⟩ ∧ n ≤ cO) ∨ (A = none ∧ n = 0 ∧ cO = 0)) := by
            rcases ho5.2 with ⟨h', h0⟩ | ⟨g, cap, cur, h', _⟩
            · simp only [Value.slice.injEq] at h'
              exact .inr ⟨h'.1, h0, h'.2.2⟩
            · simp only [Value.slice.injEq] at h'
              exact .inl ⟨g, h'.1, row_cap ho5⟩
          generalize wr.alloc _ = w5 at hb5 hx5 ho5 HRO0 ⊢
          have HB5 := Lib.hid hb5
          have HX5 := Lib.hid (show w5.heap[xb]? = some (.cells (cellsR r) 34 (0, 0)) from hx5)
          have HO5 := Lib.hid ho5
          have HRO := Lib.hid HRO0
          clear hb5 hx5 ho5 hokL hxb hT hL hlen HRO0 HI HHr c1r cL
          go_loopw [7] (fun y W => ∃ k : Nat, y = .int .i64 (k : Int) ∧ k ≤ n ∧ Hid (aheadR r (L.drop k) + k = aheadR r L) ∧ Hid (Below w5.heap.size w5 W)) (fun y _ => n - (intOf y).toNat)
          case atStart => exact ⟨0, rfl, Nat.zero_le _, rfl, Below.refl _ _⟩
          case round =>
            obtain ⟨k, rfl, hk, HK, HW⟩ := hrel
            by_cases hkn : k < n
            · have hkn' : (k : Int) < (n : Int) := by omega
              rcases HDIS.out with ⟨g, rfl, hcap⟩ | ⟨_, h0, _⟩
              · have hx := rAt_get2 (l := L) (k := k) (by rw [HLEN.out]; exact hkn)
                obtain ⟨b3, o3, e3, _, hc3⟩ := (HRO.out.below HW.out).at_ (fun e => by rw [e] at hx; simp at hx)
                obtain ⟨rfl, rfl⟩ : b3 = g ∧ o3 = 0 := by simpa using e3.symm
                have hck := hc3 k _ hx 0 _ rfl
                rw [Nat.zero_add, Nat.add_zero] at hck
                have HXW0 : Hid (xb < w5.heap.size) := lt_heap HX5.out
                have HXR : Hid (wr.heap[xb]? = some (.cells (cellsR r) 34 (0, 0))) := (HW.out.block xb HXW0.out).trans HX5.out
                have HXW : Hid (xb < wr.heap.size) := lt_heap HXR.out
                have HGL : Hid (b3 < wr.heap.size) := Nat.lt_of_lt_of_le (HO5.out.lt b3 rfl).2 HW.out.size
                obtain ⟨g, rfl⟩ : ∃ g, g = b3 := ⟨_, rfl⟩
                clear hx e3 hc3
                by_cases hle : (rAt L k).stamp ≤ r.stamp
                · have HKN : Hid (aheadR r (L.drop (k + 1)) + (k + 1) = aheadR r L) := by
                    show _ = _
                    have h1 := HK.out
                    rw [aheadR_step (by rw [HLEN.out]; exact hkn) hle] at h1
                    omega
                  have hld : decide ((rAt L k).stamp ≤ r.stamp) = true := decide_eq_true hle
                  go_upto_region 10 with fail
                  refine wp_region_rel RelB (phi [isV (.int .i64 (k : Int)), isV (.slice (some ⟨g, 0, none⟩) n cO), isV (.int .i64 (n : Int)), isV (.bool true), isV (.bool true), isV (.slice (some ⟨g, 0, none⟩) n cO), isV (.int .i64 (k : Int)), isV (.pointer (some ⟨g, k * 12, none⟩)), isV (.pointer (some ⟨g, k * 12, none⟩)), isV (.int .u64 (rAt L k).stamp), isV (.pointer (some ⟨xb, 0, none⟩)), isV (.int .u64 r.stamp), isV (.bool true), isV (.bool true)]) (by kernel_rfl) (by kernel_rfl) (by kernel_rfl) (RelB.of (below_drew _)) (fun _ _ _ a b => a.trans b) ?_ ?_ ?_
                  · refine stays_phiR ?_
                    simp only [List.forall_mem_cons]
                    exact ⟨fun _ _ _ h _ => h, fun _ _ _ h _ => h, fun _ _ _ h _ => h, fun _ _ _ h _ => h, fun _ _ _ h _ => h, fun _ _ _ h _ => h, fun _ _ _ h _ => h, fun _ _ _ h _ => h, fun _ _ _ h _ => h, fun _ _ _ h _ => h, fun _ _ _ h _ => h, fun _ _ _ h _ => h, fun _ _ _ h _ => h, fun _ _ _ h _ => h, fun _ h => absurd h (by simp)⟩
                  · refine ⟨?_, ?_, ?_, ?_, ?_, ?_, ?_, ?_, ?_, ?_, ?_, ?_, ?_, ?_, trivial⟩
                    · refine opR_mk rfl fun aa W2 hB hp hq K hK => ?_
                      have e7 : aa.tmps[7]?.getD undef = .int .i64 (k : Int) := hp 7 (by kernel_rfl)
                      clear hp hq
                      go_simp
                      exact hK _ _ (RelB.refl _) rfl
                    · refine opR_mk rfl fun aa W2 hB hp hq K hK => ?_
                      have e3 : aa.tmps[3]?.getD undef = .slice (some ⟨g, 0, none⟩) n cO := hp 3 (by kernel_rfl)
                      clear hp hq
                      go_simp
                      exact hK _ _ (RelB.refl _) rfl
                    · refine opR_mk rfl fun aa W2 hB hp hq K hK => ?_
                      have e41 : aa.tmps[41]?.getD undef = .slice (some ⟨g, 0, none⟩) n cO := hq 1 _ (by kernel_rfl) rfl
                      clear hp hq
                      go_simp
                      exact hK _ _ (RelB.refl _) rfl
                    · refine opR_mk rfl fun aa W2 hB hp hq K hK => ?_
                      have e40 : aa.tmps[40]?.getD undef = .int .i64 (k : Int) := hq 0 _ (by kernel_rfl) rfl
                      have e42 : aa.tmps[42]?.getD undef = .int .i64 (n : Int) := hq 2 _ (by kernel_rfl) rfl
                      clear hp hq
                      go_simp
                      exact hK _ _ (RelB.refl _) rfl
                    · refine opR_mk rfl fun aa W2 hB hp hq K hK => ?_
                      have e43 : aa.tmps[43]?.getD undef = .bool true := hq 3 _ (by kernel_rfl) rfl
                      clear hp hq
                      go_simp
                      exact hK _ _ (RelB.refl _) rfl
                    · refine opR_guard (j := 4) (d := 44) (c := true) rfl rfl (by kernel_rfl) rfl rfl (fun v W h => h) (fun _ => RelB.refl _) (fun hne => absurd rfl hne) fun hc aa W2 hB hp hq K hK => ?_
                      have e3 : aa.tmps[3]?.getD undef = .slice (some ⟨g, 0, none⟩) n cO := hp 3 (by kernel_rfl)
                      clear hp hq
                      go_simp
                      exact hK _ _ (RelB.refl _) rfl
                    · refine opR_guard (j := 4) (d := 44) (c := true) rfl rfl (by kernel_rfl) rfl rfl (fun v W h => h) (fun _ => RelB.refl _) (fun hne => absurd rfl hne) fun hc aa W2 hB hp hq K hK => ?_
                      have e7 : aa.tmps[7]?.getD undef = .int .i64 (k : Int) := hp 7 (by kernel_rfl)
                      clear hp hq
                      go_simp
                      exact hK _ _ (RelB.refl _) rfl
                    · refine opR_guard (j := 4) (d := 44) (c := true) rfl rfl (by kernel_rfl) rfl rfl (fun v W h => h) (fun _ => RelB.refl _) (fun hne => absurd rfl hne) fun hc aa W2 hB hp hq K hK => ?_
                      have e45 : aa.tmps[45]?.getD undef = .slice (some ⟨g, 0, none⟩) n cO := hq 5 _ (by kernel_rfl) rfl
                      have e46 : aa.tmps[46]?.getD undef = .int .i64 (k : Int) := hq 6 _ (by kernel_rfl) rfl
                      clear hp hq
                      go_simp
                      exact hK _ _ (RelB.refl _) rfl
                    · refine opR_guard (j := 4) (d := 44) (c := true) rfl rfl (by kernel_rfl) rfl rfl (fun v W h => h) (fun _ => RelB.refl _) (fun hne => absurd rfl hne) fun hc aa W2 hB hp hq K hK => ?_
                      have e47 : aa.tmps[47]?.getD undef = .pointer (some ⟨g, k * 12, none⟩) := hq 7 _ (by kernel_rfl) rfl
                      clear hp hq
                      go_simp
                      exact hK _ _ (RelB.refl _) rfl
                    · refine opR_guard (j := 4) (d := 44) (c := true) rfl rfl (by kernel_rfl) rfl rfl (fun v W h => h) (fun _ => RelB.refl _) (fun hne => absurd rfl hne) fun hc aa W2 hB hp hq K hK => ?_
                      have e48 : aa.tmps[48]?.getD undef = .pointer (some ⟨g, k * 12, none⟩) := hq 8 _ (by kernel_rfl) rfl
                      have cc := (cell_old hB HGL.out).trans hck
                      clear hp hq
                      go_simp
                      exact hK _ _ (RelB.refl _) rfl
                    · refine opR_guard (j := 4) (d := 44) (c := true) rfl rfl (by kernel_rfl) rfl rfl (fun v W h => h) (fun _ => RelB.refl _) (fun hne => absurd rfl hne) fun hc aa W2 hB hp hq K hK => ?_
                      have e6 : aa.tmps[6]?.getD undef = .pointer (some ⟨xb, 0, none⟩) := hp 6 (by kernel_rfl)
                      clear hp hq
                      go_simp
                      exact hK _ _ (RelB.refl _) rfl
                    · refine opR_guard (j := 4) (d := 44) (c := true) rfl rfl (by kernel_rfl) rfl rfl (fun v W h => h) (fun _ => RelB.refl _) (fun hne => absurd rfl hne) fun hc aa W2 hB hp hq K hK => ?_
                      have e50 : aa.tmps[50]?.getD undef = .pointer (some ⟨xb, 0, none⟩) := hq 10 _ (by kernel_rfl) rfl
                      have cc := rec_cell0 ((Below.block hB xb HXW.out).trans HXR.out) 0 _ rfl
                      clear hp hq
                      go_simp
                      exact hK _ _ (RelB.refl _) rfl
                    · refine opR_guard (j := 4) (d := 44) (c := true) rfl rfl (by kernel_rfl) rfl rfl (fun v W h => h) (fun _ => RelB.refl _) (fun hne => absurd rfl hne) fun hc aa W2 hB hp hq K hK => ?_
                      have e49 : aa.tmps[49]?.getD undef = .int .u64 (rAt L k).stamp := hq 9 _ (by kernel_rfl) rfl
                      have e51 : aa.tmps[51]?.getD undef = .int .u64 r.stamp := hq 11 _ (by kernel_rfl) rfl
                      clear hp hq
                      go_simp
                      exact hK _ _ (RelB.refl _) rfl
                    · refine opR_mk rfl fun aa W2 hB hp hq K hK => ?_
                      have e44 : aa.tmps[44]?.getD undef = .bool true := hq 4 _ (by kernel_rfl) rfl
                      have e52 : aa.tmps[52]?.getD undef = .bool true := hq 12 _ (by kernel_rfl) rfl
                      clear hp hq
                      go_simp
                      exact hK _ _ (RelB.refl _) rfl
                  · intro vs W3 hB3 hv3 _
                    have v13 : vs 13 = .bool true := hv3 13 _ rfl rfl
                    have HW3 := Lib.hid (HW.out.trans (Below.mono hB3 HW.out.size))
                    clear hB3 hv3
                    simp only [List.take_succ_cons, List.take_zero, putAll, Act.put, List.setIfInBounds_toArray, List.set_cons_succ, List.set_cons_zero, Nat.zero_add, Nat.reduceAdd, v13]
                    go_wp2
                    go_roundw
                    case rel => exact ⟨k + 1, rfl, hkn, HKN, HW3⟩
                    case measure => simp only [intOf]; omega
                · have HKE : Hid (aheadR r L = k) := by
                    show _ = _
                    have h1 := HK.out
                    rw [aheadR_stop (by rw [HLEN.out]; exact hkn) hle] at h1
                    omega
                  have hld : decide ((rAt L k).stamp ≤ r.stamp) = false := decide_eq_false hle
                  have hki : (k : Int) ≤ (n : Int) := by omega
                  have hkc : (k : Int) ≤ (cO : Int) := by omega
                  have hnc : (n : Int) ≤ (cO : Int) := by omega
                  go_upto_region 10 with fail
                  refine wp_region_rel RelB (phi [isV (.int .i64 (k : Int)), isV (.slice (some ⟨g, 0, none⟩) n cO), isV (.int .i64 (n : Int)), isV (.bool true), isV (.bool true), isV (.slice (some ⟨g, 0, none⟩) n cO), isV (.int .i64 (k : Int)), isV (.pointer (some ⟨g, k * 12, none⟩)), isV (.pointer (some ⟨g, k * 12, none⟩)), isV (.int .u64 (rAt L k).stamp), isV (.pointer (some ⟨xb, 0, none⟩)), isV (.int .u64 r.stamp), isV (.bool false), isV (.bool false)]) (by kernel_rfl) (by kernel_rfl) (by kernel_rfl) (RelB.of (below_drew _)) (fun _ _ _ a b => a.trans b) ?_ ?_ ?_
                  · refine stays_phiR ?_
                    simp only [List.forall_mem_cons]
                    exact ⟨fun _ _ _ h _ => h, fun _ _ _ h _ => h, fun _ _ _ h _ => h, fun _ _ _ h _ => h, fun _ _ _ h _ => h, fun _ _ _ h _ => h, fun _ _ _ h _ => h, fun _ _ _ h _ => h, fun _ _ _ h _ => h, fun _ _ _ h _ => h, fun _ _ _ h _ => h, fun _ _ _ h _ => h, fun _ _ _ h _ => h, fun _ _ _ h _ => h, fun _ h => absurd h (by simp)⟩
                  · refine ⟨?_, ?_, ?_, ?_, ?_, ?_, ?_, ?_, ?_, ?_, ?_, ?_, ?_, ?_, trivial⟩
                    · refine opR_mk rfl fun aa W2 hB hp hq K hK => ?_
                      have e7 : aa.tmps[7]?.getD undef = .int .i64 (k : Int) := hp 7 (by kernel_rfl)
                      clear hp hq
                      go_simp
                      exact hK _ _ (RelB.refl _) rfl
                    · refine opR_mk rfl fun aa W2 hB hp hq K hK => ?_
                      have e3 : aa.tmps[3]?.getD undef = .slice (some ⟨g, 0, none⟩) n cO := hp 3 (by kernel_rfl)
                      clear hp hq
                      go_simp
                      exact hK _ _ (RelB.refl _) rfl
                    · refine opR_mk rfl fun aa W2 hB hp hq K hK => ?_
                      have e41 : aa.tmps[41]?.getD undef = .slice (some ⟨g, 0, none⟩) n cO := hq 1 _ (by kernel_rfl) rfl
                      clear hp hq
                      go_simp
                      exact hK _ _ (RelB.refl _) rfl
                    · refine opR_mk rfl fun aa W2 hB hp hq K hK => ?_
                      have e40 : aa.tmps[40]?.getD undef = .int .i64 (k : Int) := hq 0 _ (by kernel_rfl) rfl
                      have e42 : aa.tmps[42]?.getD undef = .int .i64 (n : Int) := hq 2 _ (by kernel_rfl) rfl
                      clear hp hq
                      go_simp
                      exact hK _ _ (RelB.refl _) rfl
                    · refine opR_mk rfl fun aa W2 hB hp hq K hK => ?_
                      have e43 : aa.tmps[43]?.getD undef = .bool true := hq 3 _ (by kernel_rfl) rfl
                      clear hp hq
                      go_simp
                      exact hK _ _ (RelB.refl _) rfl
                    · refine opR_guard (j := 4) (d := 44) (c := true) rfl rfl (by kernel_rfl) rfl rfl (fun v W h => h) (fun _ => RelB.refl _) (fun hne => absurd rfl hne) fun hc aa W2 hB hp hq K hK => ?_
                      have e3 : aa.tmps[3]?.getD undef = .slice (some ⟨g, 0, none⟩) n cO := hp 3 (by kernel_rfl)
                      clear hp hq
                      go_simp
                      exact hK _ _ (RelB.refl _) rfl
                    · refine opR_guard (j := 4) (d := 44) (c := true) rfl rfl (by kernel_rfl) rfl rfl (fun v W h => h) (fun _ => RelB.refl _) (fun hne => absurd rfl hne) fun hc aa W2 hB hp hq K hK => ?_
                      have e7 : aa.tmps[7]?.getD undef = .int .i64 (k : Int) := hp 7 (by kernel_rfl)
                      clear hp hq
                      go_simp
                      exact hK _ _ (RelB.refl _) rfl
                    · refine opR_guard (j := 4) (d := 44) (c := true) rfl rfl (by kernel_rfl) rfl rfl (fun v W h => h) (fun _ => RelB.refl _) (fun hne => absurd rfl hne) fun hc aa W2 hB hp hq K hK => ?_
                      have e45 : aa.tmps[45]?.getD undef = .slice (some ⟨g, 0, none⟩) n cO := hq 5 _ (by kernel_rfl) rfl
                      have e46 : aa.tmps[46]?.getD undef = .int .i64 (k : Int) := hq 6 _ (by kernel_rfl) rfl
                      clear hp hq
                      go_simp
                      exact hK _ _ (RelB.refl _) rfl
                    · refine opR_guard (j := 4) (d := 44) (c := true) rfl rfl (by kernel_rfl) rfl rfl (fun v W h => h) (fun _ => RelB.refl _) (fun hne => absurd rfl hne) fun hc aa W2 hB hp hq K hK => ?_
                      have e47 : aa.tmps[47]?.getD undef = .pointer (some ⟨g, k * 12, none⟩) := hq 7 _ (by kernel_rfl) rfl
                      clear hp hq
                      go_simp
                      exact hK _ _ (RelB.refl _) rfl
                    · refine opR_guard (j := 4) (d := 44) (c := true) rfl rfl (by kernel_rfl) rfl rfl (fun v W h => h) (fun _ => RelB.refl _) (fun hne => absurd rfl hne) fun hc aa W2 hB hp hq K hK => ?_
                      have e48 : aa.tmps[48]?.getD undef = .pointer (some ⟨g, k * 12, none⟩) := hq 8 _ (by kernel_rfl) rfl
                      have cc := (cell_old hB HGL.out).trans hck
                      clear hp hq
                      go_simp
                      exact hK _ _ (RelB.refl _) rfl
                    · refine opR_guard (j := 4) (d := 44) (c := true) rfl rfl (by kernel_rfl) rfl rfl (fun v W h => h) (fun _ => RelB.refl _) (fun hne => absurd rfl hne) fun hc aa W2 hB hp hq K hK => ?_
                      have e6 : aa.tmps[6]?.getD undef = .pointer (some ⟨xb, 0, none⟩) := hp 6 (by kernel_rfl)
                      clear hp hq
                      go_simp
                      exact hK _ _ (RelB.refl _) rfl
                    · refine opR_guard (j := 4) (d := 44) (c := true) rfl rfl (by kernel_rfl) rfl rfl (fun v W h => h) (fun _ => RelB.refl _) (fun hne => absurd rfl hne) fun hc aa W2 hB hp hq K hK => ?_
                      have e50 : aa.tmps[50]?.getD undef = .pointer (some ⟨xb, 0, none⟩) := hq 10 _ (by kernel_rfl) rfl
                      have cc := rec_cell0 ((Below.block hB xb HXW.out).trans HXR.out) 0 _ rfl
                      clear hp hq
                      go_simp
                      exact hK _ _ (RelB.refl _) rfl
                    · refine opR_guard (j := 4) (d := 44) (c := true) rfl rfl (by kernel_rfl) rfl rfl (fun v W h => h) (fun _ => RelB.refl _) (fun hne => absurd rfl hne) fun hc aa W2 hB hp hq K hK => ?_
                      have e49 : aa.tmps[49]?.getD undef = .int .u64 (rAt L k).stamp := hq 9 _ (by kernel_rfl) rfl
                      have e51 : aa.tmps[51]?.getD undef = .int .u64 r.stamp := hq 11 _ (by kernel_rfl) rfl
                      clear hp hq
                      go_simp
                      exact hK _ _ (RelB.refl _) rfl
                    · refine opR_mk rfl fun aa W2 hB hp hq K hK => ?_
                      have e44 : aa.tmps[44]?.getD undef = .bool true := hq 4 _ (by kernel_rfl) rfl
                      have e52 : aa.tmps[52]?.getD undef = .bool false := hq 12 _ (by kernel_rfl) rfl
                      clear hp hq
                      go_simp
                      exact hK _ _ (RelB.refl _) rfl
                  · intro vs W3 hB3 hv3 _
                    have v13 : vs 13 = .bool false := hv3 13 _ rfl rfl
                    have HW3 := Lib.hid (HW.out.trans (Below.mono hB3 HW.out.size))
                    clear hB3 hv3
                    simp only [List.take_succ_cons, List.take_zero, putAll, Act.put, List.setIfInBounds_toArray, List.set_cons_succ, List.set_cons_zero, Nat.zero_add, Nat.reduceAdd, v13]
                    have HROW := Lib.hid (HRO.out.below HW3.out)
                    have hn100 : n ≤ 60000 := by omega
                    go_wp2_with (first
                      | (at_builtin; refine wpList_append_recs rfl _ _ rfl w5.heap.size (.slice none 0 0) [] 0 k rfl (World.ownsRow_nil _ _ _ _) (some ⟨g, 0, none⟩) k cO (L.take k) rfl (.inl ⟨_, rfl, recs_taken HROW.out k⟩) (by rw [List.length_take, HLEN.out]; omega) (by omega) (by omega) HW3.out.size ?_; intro A6 c6 w6 h2 h3; rw [List.nil_append] at h2; have hb6 := HW3.out.trans (below_grownO h3 HW3.out.size (fun q hq => by cases hq)); have H6 := Lib.hid (And.intro h2 hb6); have hcw := rec_cell0 ((hb6.block xb HXW0.out).trans HX5.out); have q0 := hcw 0 _ rfl; have q1 := hcw 1 _ rfl; have q2 := hcw 2 _ rfl; have q3 := hcw 3 _ rfl; have q4 := hcw 4 _ rfl; have q5 := hcw 5 _ rfl; have q6 := hcw 6 _ rfl; have q7 := hcw 7 _ rfl; have q8 := hcw 8 _ rfl; have q9 := hcw 9 _ rfl; have q10 := hcw 10 _ rfl; have q11 := hcw 11 _ rfl; clear h2 h3 hb6 hcw)
                      | (at_builtin; refine wpList_append_rec2 rfl _ _ rfl w5.heap.size _ (L.take k) k (k + 1) (by rw [List.length_take, HLEN.out]; omega) rfl rfl (H6.out.1.alloc _) w6.heap.size r rfl (heap_alloc_new _ _) (by omega) (by rw [World.alloc_size']; have := H6.out.2.size; omega) ?_; intro A7 d7 w7 g4 g5 g6; have H7 := Lib.hid (And.intro g4 (below_own (Nat.le_refl _) H6.out.2 H6.out.1 g5)); clear g4 g5 g6)
                      | (at_builtin; refine wpList_append_recs rfl _ _ rfl w5.heap.size _ (L.take k ++ [r]) (k + 1) (n + 1) rfl H7.out.1 _ _ _ (L.drop k) rfl (by first | exact .inl ⟨_, rfl, recs_drop (HRO.out.below H7.out.2) _⟩ | exact .inl ⟨_, rfl, recs_nothing (HRO.out.below H7.out.2) (by rw [HLEN.out]; exact Nat.le_refl _)⟩ | exact src_any (HRO.out.below H7.out.2) (by rw [HLEN.out]; exact Nat.le_refl _)) (by rw [List.length_drop, HLEN.out]; try omega) (by omega) (by omega) H7.out.2.size ?_; intro A8 c8 w8 h2 h3; have H8 := Lib.hid (And.intro h2 (H7.out.2.trans (below_grownO h3 H7.out.2.size (fun q hq => (H7.out.1.lt q hq).1)))); clear h2 h3))
                    have hins : (insTo x c (mergeTo x c) (i + 1)).map Prod.snd = L.take k ++ [r] ++ L.drop k := by
                      rw [HSUC.out, ← HTL.out.1, insR_eq, ← HTL.out.2]
                      show L.take (aheadR r L) ++ [r] ++ L.drop (aheadR r L) = _
                      rw [HKE.out]
                    have HINS := Lib.hid hins
                    clear hins
                    go_roundw
                    case rel =>
                      refine ⟨i + 1, n + 1, A8, c8, rfl, rfl, him, by omega, ?_, ?_, HB5.out.trans (H8.out.2.mono HB5.out.size)⟩
                      · rw [HINS.out]
                        simp only [List.length_append, List.length_take, List.length_drop, List.length_singleton, HLEN.out]
                        omega
                      · rw [HINS.out]
                        exact own_low H8.out.1 HB5.out.size
                    case measure => simp only [intOf]; omega
              · omega
            · obtain rfl : n = k := by omega
              have HKE : Hid (aheadR r L = n) := by
                show _ = _
                have h1 := HK.out
                rw [List.drop_of_length_le (by rw [HLEN.out]; exact Nat.le_refl _)] at h1
                have h2 : aheadR r [] = 0 := rfl
                omega
              have HXW0 : Hid (xb < w5.heap.size) := lt_heap HX5.out
              have HXR : Hid (wr.heap[xb]? = some (.cells (cellsR r) 34 (0, 0))) := (HW.out.block xb HXW0.out).trans HX5.out
              have HXW : Hid (xb < wr.heap.size) := lt_heap HXR.out
              rcases HDIS.out with ⟨g, rfl, hcap⟩ | ⟨rfl, rfl, rfl⟩
              · have hnc : (n : Int) ≤ (cO : Int) := by omega
                go_upto_region 10 with fail
                refine wp_region_rel RelB (phi [isV (.int .i64 (n : Int)), isV (.slice (some ⟨g, 0, none⟩) n cO), isV (.int .i64 (n : Int)), isV (.bool false), isV (.bool false), (fun _ _ => True), (fun _ _ => True), (fun _ _ => True), (fun _ _ => True), (fun _ _ => True), (fun _ _ => True), (fun _ _ => True), (fun _ _ => True), isV (.bool false)]) (by kernel_rfl) (by kernel_rfl) (by kernel_rfl) (RelB.of (below_drew _)) (fun _ _ _ a b => a.trans b) ?_ ?_ ?_
                · refine stays_phiR ?_
                  simp only [List.forall_mem_cons]
                  exact ⟨fun _ _ _ h _ => h, fun _ _ _ h _ => h, fun _ _ _ h _ => h, fun _ _ _ h _ => h, fun _ _ _ h _ => h, fun _ _ _ _ _ => trivial, fun _ _ _ _ _ => trivial, fun _ _ _ _ _ => trivial, fun _ _ _ _ _ => trivial, fun _ _ _ _ _ => trivial, fun _ _ _ _ _ => trivial, fun _ _ _ _ _ => trivial, fun _ _ _ _ _ => trivial, fun _ _ _ h _ => h, fun _ h => absurd h (by simp)⟩
                · refine ⟨?_, ?_, ?_, ?_, ?_, ?_, ?_, ?_, ?_, ?_, ?_, ?_, ?_, ?_, trivial⟩
                  · refine opR_mk rfl fun aa W2 hB hp hq K hK => ?_
                    have e7 : aa.tmps[7]?.getD undef = .int .i64 (n : Int) := hp 7 (by kernel_rfl)
                    clear hp hq
                    go_simp
                    exact hK _ _ (RelB.refl _) rfl
                  · refine opR_mk rfl fun aa W2 hB hp hq K hK => ?_
                    have e3 : aa.tmps[3]?.getD undef = .slice (some ⟨g, 0, none⟩) n cO := hp 3 (by kernel_rfl)
                    clear hp hq
                    go_simp
                    exact hK _ _ (RelB.refl _) rfl
                  · refine opR_mk rfl fun aa W2 hB hp hq K hK => ?_
                    have e41 : aa.tmps[41]?.getD undef = .slice (some ⟨g, 0, none⟩) n cO := hq 1 _ (by kernel_rfl) rfl
                    clear hp hq
                    go_simp
                    exact hK _ _ (RelB.refl _) rfl
                  · refine opR_mk rfl fun aa W2 hB hp hq K hK => ?_
                    have e40 : aa.tmps[40]?.getD undef = .int .i64 (n : Int) := hq 0 _ (by kernel_rfl) rfl
                    have e42 : aa.tmps[42]?.getD undef = .int .i64 (n : Int) := hq 2 _ (by kernel_rfl) rfl
                    clear hp hq
                    go_simp
                    exact hK _ _ (RelB.refl _) rfl
                  · refine opR_mk rfl fun aa W2 hB hp hq K hK => ?_
                    have e43 : aa.tmps[43]?.getD undef = .bool false := hq 3 _ (by kernel_rfl) rfl
                    clear hp hq
                    go_simp
                    exact hK _ _ (RelB.refl _) rfl
                  · exact opR_guard (j := 4) (d := 44) (c := false) rfl rfl (by kernel_rfl) rfl rfl (fun v W h => h) (fun _ => RelB.refl _) (fun _ _ => trivial) (fun hc => absurd hc (by decide))
                  · exact opR_guard (j := 4) (d := 44) (c := false) rfl rfl (by kernel_rfl) rfl rfl (fun v W h => h) (fun _ => RelB.refl _) (fun _ _ => trivial) (fun hc => absurd hc (by decide))
                  · exact opR_guard (j := 4) (d := 44) (c := false) rfl rfl (by kernel_rfl) rfl rfl (fun v W h => h) (fun _ => RelB.refl _) (fun _ _ => trivial) (fun hc => absurd hc (by decide))
                  · exact opR_guard (j := 4) (d := 44) (c := false) rfl rfl (by kernel_rfl) rfl rfl (fun v W h => h) (fun _ => RelB.refl _) (fun _ _ => trivial) (fun hc => absurd hc (by decide))
                  · exact opR_guard (j := 4) (d := 44) (c := false) rfl rfl (by kernel_rfl) rfl rfl (fun v W h => h) (fun _ => RelB.refl _) (fun _ _ => trivial) (fun hc => absurd hc (by decide))
                  · exact opR_guard (j := 4) (d := 44) (c := false) rfl rfl (by kernel_rfl) rfl rfl (fun v W h => h) (fun _ => RelB.refl _) (fun _ _ => trivial) (fun hc => absurd hc (by decide))
                  · exact opR_guard (j := 4) (d := 44) (c := false) rfl rfl (by kernel_rfl) rfl rfl (fun v W h => h) (fun _ => RelB.refl _) (fun _ _ => trivial) (fun hc => absurd hc (by decide))
                  · exact opR_guard (j := 4) (d := 44) (c := false) rfl rfl (by kernel_rfl) rfl rfl (fun v W h => h) (fun _ => RelB.refl _) (fun _ _ => trivial) (fun hc => absurd hc (by decide))
                  · refine opR_mk rfl fun aa W2 hB hp hq K hK => ?_
                    have e44 : aa.tmps[44]?.getD undef = .bool false := hq 4 _ (by kernel_rfl) rfl
                    clear hp hq
                    go_simp
                    exact hK _ _ (RelB.refl _) rfl
                · intro vs W3 hB3 hv3 _
                  have v13 : vs 13 = .bool false := hv3 13 _ rfl rfl
                  have HW3 := Lib.hid (HW.out.trans (Below.mono hB3 HW.out.size))
                  clear hB3 hv3
                  simp only [List.take_succ_cons, List.take_zero, putAll, Act.put, List.setIfInBounds_toArray, List.set_cons_succ, List.set_cons_zero, Nat.zero_add, Nat.reduceAdd, v13]
                  have HROW := Lib.hid (HRO.out.below HW3.out)
                  have hn100 : n ≤ 60000 := by omega
                  go_wp2_with (first
                    | (at_builtin; refine wpList_append_recs rfl _ _ rfl w5.heap.size (.slice none 0 0) [] 0 n rfl (World.ownsRow_nil _ _ _ _) (some ⟨g, 0, none⟩) n cO (L.take n) rfl (.inl ⟨_, rfl, recs_taken HROW.out n⟩) (by rw [List.length_take, HLEN.out]; omega) (by omega) (by omega) HW3.out.size ?_; intro A6 c6 w6 h2 h3; rw [List.nil_append] at h2; have hb6 := HW3.out.trans (below_grownO h3 HW3.out.size (fun q hq => by cases hq)); have H6 := Lib.hid (And.intro h2 hb6); have hcw := rec_cell0 ((hb6.block xb HXW0.out).trans HX5.out); have q0 := hcw 0 _ rfl; have q1 := hcw 1 _ rfl; have q2 := hcw 2 _ rfl; have q3 := hcw 3 _ rfl; have q4 := hcw 4 _ rfl; have q5 := hcw 5 _ rfl; have q6 := hcw 6 _ rfl; have q7 := hcw 7 _ rfl; have q8 := hcw 8 _ rfl; have q9 := hcw 9 _ rfl; have q10 := hcw 10 _ rfl; have q11 := hcw 11 _ rfl; clear h2 h3 hb6 hcw)
                    | (at_builtin; refine wpList_append_rec2 rfl _ _ rfl w5.heap.size _ (L.take n) n (n + 1) (by rw [List.length_take, HLEN.out]; omega) rfl rfl (H6.out.1.alloc _) w6.heap.size r rfl (heap_alloc_new _ _) (by omega) (by rw [World.alloc_size']; have := H6.out.2.size; omega) ?_; intro A7 d7 w7 g4 g5 g6; have H7 := Lib.hid (And.intro g4 (below_own (Nat.le_refl _) H6.out.2 H6.out.1 g5)); clear g4 g5 g6)
                    | (at_builtin; refine wpList_append_recs rfl _ _ rfl w5.heap.size _ (L.take n ++ [r]) (n + 1) (n + 1) rfl H7.out.1 _ _ _ (L.drop n) rfl (by first | exact .inl ⟨_, rfl, recs_drop (HRO.out.below H7.out.2) _⟩ | exact .inl ⟨_, rfl, recs_nothing (HRO.out.below H7.out.2) (by rw [HLEN.out]; exact Nat.le_refl _)⟩ | exact src_any (HRO.out.below H7.out.2) (by rw [HLEN.out]; exact Nat.le_refl _)) (by rw [List.length_drop, HLEN.out]; try omega) (by omega) (by omega) H7.out.2.size ?_; intro A8 c8 w8 h2 h3; have H8 := Lib.hid (And.intro h2 (H7.out.2.trans (below_grownO h3 H7.out.2.size (fun q hq => (H7.out.1.lt q hq).1)))); clear h2 h3))
                  have hins : (insTo x c (mergeTo x c) (i + 1)).map Prod.snd = L.take n ++ [r] ++ L.drop n := by
                    rw [HSUC.out, ← HTL.out.1, insR_eq, ← HTL.out.2]
                    show L.take (aheadR r L) ++ [r] ++ L.drop (aheadR r L) = _
                    rw [HKE.out]
                  have HINS := Lib.hid hins
                  clear hins
                  go_roundw
                  case rel =>
                    refine ⟨i + 1, n + 1, A8, c8, rfl, rfl, him, by omega, ?_, ?_, HB5.out.trans (H8.out.2.mono HB5.out.size)⟩
                    · rw [HINS.out]
                      simp only [List.length_append, List.length_take, List.length_drop, List.length_singleton, HLEN.out]
                      omega
                    · rw [HINS.out]
                      exact own_low H8.out.1 HB5.out.size
                  case measure => simp only [intOf]; omega
              · go_upto_region 10 with fail
                refine wp_region_rel RelB (phi [isV (.int .i64 0), isV (.slice none 0 0), isV (.int .i64 0), isV (.bool false), isV (.bool false), (fun _ _ => True), (fun _ _ => True), (fun _ _ => True), (fun _ _ => True), (fun _ _ => True), (fun _ _ => True), (fun _ _ => True), (fun _ _ => True), isV (.bool false)]) (by kernel_rfl) (by kernel_rfl) (by kernel_rfl) (RelB.of (below_drew _)) (fun _ _ _ a b => a.trans b) ?_ ?_ ?_
                · refine stays_phiR ?_
                  simp only [List.forall_mem_cons]
                  exact ⟨fun _ _ _ h _ => h, fun _ _ _ h _ => h, fun _ _ _ h _ => h, fun _ _ _ h _ => h, fun _ _ _ h _ => h, fun _ _ _ _ _ => trivial, fun _ _ _ _ _ => trivial, fun _ _ _ _ _ => trivial, fun _ _ _ _ _ => trivial, fun _ _ _ _ _ => trivial, fun _ _ _ _ _ => trivial, fun _ _ _ _ _ => trivial, fun _ _ _ _ _ => trivial, fun _ _ _ h _ => h, fun _ h => absurd h (by simp)⟩
                · refine ⟨?_, ?_, ?_, ?_, ?_, ?_, ?_, ?_, ?_, ?_, ?_, ?_, ?_, ?_, trivial⟩
                  · refine opR_mk rfl fun aa W2 hB hp hq K hK => ?_
                    have e7 : aa.tmps[7]?.getD undef = .int .i64 0 := hp 7 (by kernel_rfl)
                    clear hp hq
                    go_simp
                    exact hK _ _ (RelB.refl _) rfl
                  · refine opR_mk rfl fun aa W2 hB hp hq K hK => ?_
                    have e3 : aa.tmps[3]?.getD undef = .slice none 0 0 := hp 3 (by kernel_rfl)
                    clear hp hq
                    go_simp
                    exact hK _ _ (RelB.refl _) rfl
                  · refine opR_mk rfl fun aa W2 hB hp hq K hK => ?_
                    have e41 : aa.tmps[41]?.getD undef = .slice none 0 0 := hq 1 _ (by kernel_rfl) rfl
                    clear hp hq
                    go_simp
                    exact hK _ _ (RelB.refl _) rfl
                  · refine opR_mk rfl fun aa W2 hB hp hq K hK => ?_
                    have e40 : aa.tmps[40]?.getD undef = .int .i64 0 := hq 0 _ (by kernel_rfl) rfl
                    have e42 : aa.tmps[42]?.getD undef = .int .i64 0 := hq 2 _ (by kernel_rfl) rfl
                    clear hp hq
                    go_simp
                    exact hK _ _ (RelB.refl _) rfl
                  · refine opR_mk rfl fun aa W2 hB hp hq K hK => ?_
                    have e43 : aa.tmps[43]?.getD undef = .bool false := hq 3 _ (by kernel_rfl) rfl
                    clear hp hq
                    go_simp
                    exact hK _ _ (RelB.refl _) rfl
                  · exact opR_guard (j := 4) (d := 44) (c := false) rfl rfl (by kernel_rfl) rfl rfl (fun v W h => h) (fun _ => RelB.refl _) (fun _ _ => trivial) (fun hc => absurd hc (by decide))
                  · exact opR_guard (j := 4) (d := 44) (c := false) rfl rfl (by kernel_rfl) rfl rfl (fun v W h => h) (fun _ => RelB.refl _) (fun _ _ => trivial) (fun hc => absurd hc (by decide))
                  · exact opR_guard (j := 4) (d := 44) (c := false) rfl rfl (by kernel_rfl) rfl rfl (fun v W h => h) (fun _ => RelB.refl _) (fun _ _ => trivial) (fun hc => absurd hc (by decide))
                  · exact opR_guard (j := 4) (d := 44) (c := false) rfl rfl (by kernel_rfl) rfl rfl (fun v W h => h) (fun _ => RelB.refl _) (fun _ _ => trivial) (fun hc => absurd hc (by decide))
                  · exact opR_guard (j := 4) (d := 44) (c := false) rfl rfl (by kernel_rfl) rfl rfl (fun v W h => h) (fun _ => RelB.refl _) (fun _ _ => trivial) (fun hc => absurd hc (by decide))
                  · exact opR_guard (j := 4) (d := 44) (c := false) rfl rfl (by kernel_rfl) rfl rfl (fun v W h => h) (fun _ => RelB.refl _) (fun _ _ => trivial) (fun hc => absurd hc (by decide))
                  · exact opR_guard (j := 4) (d := 44) (c := false) rfl rfl (by kernel_rfl) rfl rfl (fun v W h => h) (fun _ => RelB.refl _) (fun _ _ => trivial) (fun hc => absurd hc (by decide))
                  · exact opR_guard (j := 4) (d := 44) (c := false) rfl rfl (by kernel_rfl) rfl rfl (fun v W h => h) (fun _ => RelB.refl _) (fun _ _ => trivial) (fun hc => absurd hc (by decide))
                  · refine opR_mk rfl fun aa W2 hB hp hq K hK => ?_
                    have e44 : aa.tmps[44]?.getD undef = .bool false := hq 4 _ (by kernel_rfl) rfl
                    clear hp hq
                    go_simp
                    exact hK _ _ (RelB.refl _) rfl
                · intro vs W3 hB3 hv3 _
                  have v13 : vs 13 = .bool false := hv3 13 _ rfl rfl
                  have HW3 := Lib.hid (HW.out.trans (Below.mono hB3 HW.out.size))
                  clear hB3 hv3
                  simp only [List.take_succ_cons, List.take_zero, putAll, Act.put, List.setIfInBounds_toArray, List.set_cons_succ, List.set_cons_zero, Nat.zero_add, Nat.reduceAdd, v13]
                  have HROW := Lib.hid (HRO.out.below HW3.out)
                  have hcw := rec_cell0 ((HW3.out.block xb HXW0.out).trans HX5.out)
                  have q0 := hcw 0 _ rfl
                  have q1 := hcw 1 _ rfl
                  have q2 := hcw 2 _ rfl
                  have q3 := hcw 3 _ rfl
                  have q4 := hcw 4 _ rfl
                  have q5 := hcw 5 _ rfl
                  have q6 := hcw 6 _ rfl
                  have q7 := hcw 7 _ rfl
                  have q8 := hcw 8 _ rfl
                  have q9 := hcw 9 _ rfl
                  have q10 := hcw 10 _ rfl
                  have q11 := hcw 11 _ rfl
                  clear hcw
                  go_wp2_with (first
                    | (at_builtin; refine wpList_append_rec2 rfl _ _ rfl w5.heap.size _ [] 0 1 rfl rfl rfl (World.ownsRow_nil _ _ _ _) W3.heap.size r rfl (heap_alloc_new _ _) (by omega) (by rw [World.alloc_size']; have := HW3.out.size; omega) ?_; intro A7 d7 w7 g4 g5 g6; have H7 := Lib.hid (And.intro g4 (below_own (Nat.le_refl _) HW3.out (World.ownsRow_nil _ _ _ _) g5)); clear g4 g5 g6)
                    | (at_builtin; refine wpList_append_recs rfl _ _ rfl w5.heap.size _ (L.take 0 ++ [r]) (0 + 1) (0 + 1) rfl H7.out.1 _ _ _ (L.drop 0) rfl (.inr ⟨rfl, rfl, by rw [List.drop_zero]; exact List.length_eq_zero_iff.1 HLEN.out⟩) (by rw [List.length_drop, HLEN.out]; try omega) (by omega) (by omega) H7.out.2.size ?_; intro A8 c8 w8 h2 h3; have H8 := Lib.hid (And.intro h2 (H7.out.2.trans (below_grownO h3 H7.out.2.size (fun q hq => (H7.out.1.lt q hq).1)))); clear h2 h3))
                  have hins : (insTo x c (mergeTo x c) (i + 1)).map Prod.snd = L.take 0 ++ [r] ++ L.drop 0 := by
                    rw [HSUC.out, ← HTL.out.1, insR_eq, ← HTL.out.2]
                    show L.take (aheadR r L) ++ [r] ++ L.drop (aheadR r L) = _
                    rw [HKE.out]
                  have HINS := Lib.hid hins
                  clear hins
                  go_roundw
                  case rel =>
                    refine ⟨i + 1, 0 + 1, A8, c8, rfl, rfl, him, by omega, ?_, ?_, HB5.out.trans (H8.out.2.mono HB5.out.size)⟩
                    · rw [HINS.out]
                      simp only [List.length_append, List.length_take, List.length_drop, List.length_singleton, HLEN.out]
                      omega
                    · rw [HINS.out]
                      exact own_low H8.out.1 HB5.out.size
                  case measure => simp only [intOf]; omega
        · obtain rfl : i = m := by omega
          have hrowc : (insTo x c (mergeTo x c) i) = mergeTo x (c + 1) := by show _ = insTo x c (mergeTo x c) (x.rows c).length; rw [HM.out]
          have HRC := Lib.hid hrowc
          clear hrowc
          go_wp2
          go_roundw
          case rel => exact ⟨c + 1, n, A, cO, rfl, rfl, hcc, by omega, HRC.out ▸ HI.out⟩
          case measure => simp only [intOf]; omega
    · obtain rfl : c = x.cores := by omega
      go_wp2
      go_ret
      exact ⟨A, n, cO, rfl, HI.out.1, HI.out.2.1, HI.out.2.2⟩
end Go.Proofs.YtehckjkihaalfaaGreat

/- The document's log, walked: Upto, Take. -/
namespace Go.Proofs.YtehckjkihaalfaaGreat
open Go.RowKit Go.Maps

theorem u64_grown {w W : World} {A : Option Addr} {l : List Int} {Q : Nat} (h : U64At w A l) (hg : w.grownBy W (some Q)) (hA : l ≠ [] → ∀ b o, A = some ⟨b, o, none⟩ → b ≠ Q) : U64At W A l := fun hn => by
  obtain ⟨b, o, h1, h2, h3⟩ := h hn
  exact ⟨b, o, h1, Nat.lt_of_lt_of_le h2 hg.size, fun k x hk => (World.cell?_of_block (a := ⟨b, _, none⟩) (hg.block b h2 (fun e => hA hn b o h1 (Option.some.inj e)))).trans (h3 k x hk)⟩
/-- What is up to a stamp. -/
def uptoR (s : Int) (l : List R) : List R := l.filter fun r => decide (r.stamp ≤ s)
theorem uptoR_next {s : Int} {L : List R} {i : Nat} (h : i < L.length) : uptoR s (L.take (i + 1)) = uptoR s (L.take i) ++ (if (rAt L i).stamp ≤ s then [rAt L i] else []) := by
  rw [take_succ_rAt h]
  unfold uptoR
  rw [List.filter_append]
  congr 1
  by_cases hh : (rAt L i).stamp ≤ s <;> simp [hh]
set_option maxRecDepth 100000 in
set_option maxHeartbeats 16000000 in
theorem t_docUpto (Q : Nat) (D : DD) (G : Nat → Prop) (x : PLog) (s : Int) (w : World) (h : DocAt w Q D G x) (hx : LogOk x) :
    Calls Tryz.prog 30 #[.pointer (some ⟨Q, 0, none⟩), .int .u64 s] w fun e w' => ∃ A n c, e = .returned (.slice A n c) ∧ (uptoR s ((mergeTo x x.cores).map Prod.snd)).length = n ∧ w'.ownsRow w.heap.size 34 12 (.slice A n c) n (flatR (uptoR s ((mergeTo x x.cores).map Prod.snd))) ∧ Below w.heap.size w w' := by
  have h8 := h.cores8
  have hok : ∀ r ∈ (mergeTo x x.cores).map Prod.snd, RecOk r := fun r hr => by
    obtain ⟨a, ha, rfl⟩ := List.mem_map.1 hr
    obtain ⟨j, hj, h2⟩ := mergeTo_mem ha
    obtain ⟨_, _, _, h3, _⟩ := h.row j hj
    exact h3.ok _ h2
  have hlen : ((mergeTo x x.cores).map Prod.snd).length ≤ 2048 := by
    rw [List.length_map, ((mergeTo_tag hx x.cores h8.2).done).len hx h8.2]
    have := lenN_le (fun k _ => h.len k) x.cores h8.2
    omega
  have HOK := Lib.hid hok
  have HLN := Lib.hid hlen
  have HH := Lib.hid h
  clear hok hlen h
  go_enter Tryz.func30, Tryz.ntmps30
  go_wp2_with (go_at_call 66; (with_reducible refine (t_docMerge Q D G x _ HH.out).mono ?_); rintro e w1 ⟨A, n, c, rfl, hn, ho, hb⟩; have HN := Lib.hid hn; have HO := Lib.hid ho; have HB := Lib.hid hb; clear hn ho hb)
  obtain ⟨L, hL⟩ : ∃ L, L = (mergeTo x x.cores).map Prod.snd := ⟨_, rfl⟩
  rw [← hL] at HN HO HOK HLN
  have HLD := Lib.hid hL
  have HRL := Lib.hid (recs_of_row HO.out HN.out HOK.out)
  have hn2 : n ≤ 2048 := by rw [← HN.out]; exact HLN.out
  clear hL
  go_loopw [5, 7] (fun v y wr => ∃ (i m : Nat) (A5 : Option Addr) (c5 : Nat), v = .slice A5 m c5 ∧ y = .int .i64 (i : Int) ∧ i ≤ n ∧ m ≤ i ∧ Hid ((uptoR s (L.take i)).length = m ∧ wr.ownsRow w1.heap.size 34 12 (.slice A5 m c5) m (flatR (uptoR s (L.take i))) ∧ Below w1.heap.size w1 wr)) (fun _ y _ => n - (intOf y).toNat)
  case atStart => exact ⟨0, 0, none, 0, rfl, rfl, Nat.zero_le _, Nat.le_refl _, rfl, World.ownsRow_nil _ _ _ _, Below.refl _ _⟩
  case round =>
    obtain ⟨i, m, A5, c5, rfl, rfl, hi, hmi, HI⟩ := hrel
    by_cases he : i < n
    · have hx := rAt_get2 (l := L) (k := i) (by rw [HN.out]; exact he)
      have hnx := uptoR_next (s := s) (L := L) (i := i) (by rw [HN.out]; exact he)
      obtain ⟨r, hr⟩ : ∃ r, r = rAt L i := ⟨_, rfl⟩
      rw [← hr] at hx hnx
      obtain ⟨b, o, rfl, hbl, hc⟩ := HRL.out.at_ (fun e => by rw [e] at hx; simp at hx)
      have f6 := hc i r hx
      have HNX := Lib.hid hnx
      have HF6 := Lib.hid f6
      have HBL := Lib.hid hbl
      have hcw : ∀ q v, w1.cell? ⟨b, q, none⟩ = some v → wr.cell? ⟨b, q, none⟩ = some v := fun q v h => (World.cell?_of_block (a := ⟨b, q, none⟩) (HI.out.2.2.block b HBL.out)).trans h
      have r0 := hcw _ _ (HF6.out 0 _ rfl)
      rw [Nat.add_zero] at r0
      have r1 := hcw _ _ (HF6.out 1 _ rfl)
      have r2 := hcw _ _ (HF6.out 2 _ rfl)
      have r3 := hcw _ _ (HF6.out 3 _ rfl)
      have r4 := hcw _ _ (HF6.out 4 _ rfl)
      have r5 := hcw _ _ (HF6.out 5 _ rfl)
      have r6 := hcw _ _ (HF6.out 6 _ rfl)
      have r7 := hcw _ _ (HF6.out 7 _ rfl)
      have r8 := hcw _ _ (HF6.out 8 _ rfl)
      have r9 := hcw _ _ (HF6.out 9 _ rfl)
      have r10 := hcw _ _ (HF6.out 10 _ rfl)
      have r11 := hcw _ _ (HF6.out 11 _ rfl)
      clear hx hnx hr hc f6 hbl hcw
      by_cases hv : r.stamp ≤ s
      · have hvd : decide (r.stamp ≤ s) = true := decide_eq_true hv
        have HV := Lib.hid hv
        clear hv
        go_wp2_with (at_builtin; refine wpList_append_rec2 rfl _ _ rfl w1.heap.size _ (uptoR s (L.take i)) m (m + 1) HI.out.1 rfl rfl (HI.out.2.1.alloc _) wr.heap.size r rfl (heap_alloc_new _ _) (by omega) (by rw [World.alloc_size']; have := HI.out.2.2.size; omega) ?_; intro A2 d2 W7 g4 g5 g6; have H7 := Lib.hid (And.intro g4 (below_own (Nat.le_refl _) HI.out.2.2 HI.out.2.1 g5)); clear g4 g5 g6)
        go_roundw
        case rel =>
          refine ⟨i + 1, m + 1, A2, d2, rfl, rfl, he, by omega, ?_, ?_, H7.out.2⟩
          · rw [HNX.out, if_pos HV.out, List.length_append, HI.out.1]
            rfl
          · rw [HNX.out, if_pos HV.out]
            exact H7.out.1
        case measure => simp only [intOf]; omega
      · have hvd : decide (r.stamp ≤ s) = false := decide_eq_false hv
        have HV := Lib.hid hv
        clear hv
        go_wp2
        go_roundw
        case rel =>
          refine ⟨i + 1, m, A5, c5, rfl, rfl, he, by omega, ?_, ?_, HI.out.2.2⟩
          · rw [HNX.out, if_neg HV.out, List.append_nil]
            exact HI.out.1
          · rw [HNX.out, if_neg HV.out, List.append_nil]
            exact HI.out.2.1
        case measure => simp only [intOf]; omega
    · obtain rfl : n = i := by omega
      have hfin := HI.out
      rw [List.take_of_length_le (by rw [HN.out]; exact Nat.le_refl _)] at hfin
      have HFIN := Lib.hid hfin
      clear hfin
      go_wp2
      go_ret
      have hf := HFIN.out
      rw [HLD.out] at hf
      exact ⟨A5, m, c5, rfl, hf.1, own_low hf.2.1 HB.out.size, HB.out.trans (hf.2.2.mono HB.out.size)⟩
set_option maxRecDepth 100000 in
set_option maxHeartbeats 8000000 in
theorem t_docTake (Q : Nat) (D : DD) (G : Nat → Prop) (x : PLog) (w : World) (h : DocAt w Q D G x) (hx : LogOk x) (As : Option Addr) (ns cs : Nat) (st : List Int) (hU : U64At w As st) (hns : st.length = ns) (hns2 : ns ≤ 60000) (hAs : st ≠ [] → ∀ b o, As = some ⟨b, o, none⟩ → b ≠ Q) :
    Calls Tryz.prog 26 #[.pointer (some ⟨Q, 0, none⟩), .slice As ns cs] w fun e w' => e = .returned (.int .i64 (takeN x st x.cores : Nat)) ∧ ∃ D' G', DocAt w' Q D' G' (takeP x st) ∧ w.grownBy w' (some Q) ∧ (∀ b, G' b → G b ∨ w.heap.size ≤ b) := by
  have c1 := h.c1
  have h8 := h.cores8
  have HH := Lib.hid h
  clear h
  go_enter Tryz.func26, Tryz.ntmps26
  go_wp2
  have HU := Lib.hid hU
  have HNS := Lib.hid hns
  have HAS := Lib.hid hAs
  have HXX := Lib.hid hx
  clear hU hns hAs hx c1
  go_loopw [5, 6] (fun u v wr => ∃ c : Nat, u = .int .i64 (takeN x st c : Nat) ∧ v = .int .i64 (c : Int) ∧ c ≤ x.cores ∧ Hid (∃ D' G', DocAt wr Q D' G' (takenTo x st c) ∧ w.grownBy wr (some Q) ∧ ∀ b, G' b → G b ∨ w.heap.size ≤ b)) (fun _ v _ => x.cores - (intOf v).toNat)
  case atStart => exact ⟨0, rfl, rfl, Nat.zero_le _, D, G, by rw [takenTo_zero]; exact HH.out, ⟨rfl, rfl, rfl, Nat.le_refl _, fun _ _ _ => rfl⟩, fun b hb => .inl hb⟩
  case round =>
    obtain ⟨c, rfl, rfl, hc, HI⟩ := hrel
    obtain ⟨D1, G1, hD, hG, hGG⟩ := HI.out
    have c1 : wr.cell? ⟨Q, 1, none⟩ = some (.slice (some ⟨D1.bL, 0, none⟩) x.cores D1.cL) := hD.c1
    by_cases hcc : c < x.cores
    · have hcc' : (c : Int) < (x.cores : Int) := by omega
      have hrowc : (takenTo x st c).rows c = x.rows c := by show (if c < c then _ else x.rows c) = x.rows c; rw [if_neg (by omega)]
      obtain ⟨A1, cp1, hsl, hrec, _⟩ := hD.row c hcc
      rw [hrowc] at hsl hrec
      have cL := hD.cL (k := c) hcc
      obtain ⟨m, hm⟩ : ∃ m, m = (x.rows c).length := ⟨_, rfl⟩
      rw [← hm] at hsl
      rw [hsl] at cL
      have hm2 : m ≤ 256 := by rw [hm]; exact HH.out.len c
      obtain ⟨l, hl⟩ : ∃ l, l = x.rows c := ⟨_, rfl⟩
      rw [← hl] at hrec hm
      have HM : Hid (l.length = m) := hm.symm
      have HSL := Lib.hid hsl
      have HLL := Lib.hid hl
      have HREC := Lib.hid hrec
      have HD := Lib.hid hD
      have HG := Lib.hid hG
      have HGG := Lib.hid hGG
      have HUr := Lib.hid (u64_grown HU.out hG HAS.out)
      have ht : takeN x st c ≤ 2048 := by have := takeN_le st (fun k _ => HH.out.len k) c (by omega); omega
      obtain ⟨t, htt⟩ : ∃ t, t = takeN x st c := ⟨_, rfl⟩
      have HTT := Lib.hid htt
      rw [← htt] at ht ⊢
      clear HI hD hG hGG hsl hrec hrowc hm hl htt
      go_wp2
      obtain ⟨wo, rfl⟩ : ∃ wo, wo = wr := ⟨_, rfl⟩
      go_loopw [5, 7, 8] (fun u rv v W => ∃ (i q : Nat) (A5 : Option Addr) (c5 : Nat), u = .int .i64 ((t + (i - q) : Nat) : Int) ∧ rv = .slice A5 q c5 ∧ v = .int .i64 (i : Int) ∧ i ≤ m ∧ q ≤ i ∧ Hid ((takeR st (l.take i)).length = q ∧ W.ownsRow wo.heap.size 34 12 (.slice A5 q c5) q (flatR (takeR st (l.take i))) ∧ Below wo.heap.size wo W)) (fun _ _ v _ => m - (intOf v).toNat)
      case atStart => exact ⟨0, 0, none, 0, rfl, rfl, rfl, Nat.zero_le _, Nat.le_refl _, rfl, World.ownsRow_nil _ _ _ _, Below.refl _ _⟩
      case round =>
        clear c1 cL
        obtain ⟨i, q, A5, c5, rfl, rfl, rfl, hi, hqi, HI⟩ := hrel
        have HDr := Lib.hid (HD.out.below HI.out.2.2)
        have c1 : wr.cell? ⟨Q, 1, none⟩ = some (.slice (some ⟨D1.bL, 0, none⟩) x.cores D1.cL) := HDr.out.c1
        have cL := HDr.out.cL (k := c) hcc
        rw [HSL.out] at cL
        by_cases him : i < m
        · have him' : (i : Int) < (m : Int) := by omega
          have hx := rAt_get2 (l := l) (k := i) (by rw [HM.out]; exact him)
          have hnx := takeR_next (st := st) (L := l) (i := i) (by rw [HM.out]; exact him)
          obtain ⟨r, hr⟩ : ∃ r, r = rAt l i := ⟨_, rfl⟩
          rw [← hr] at hx hnx
          obtain ⟨b, o, rfl, hbl, hc6⟩ := HREC.out.at_ (fun e => by rw [e] at hx; simp at hx)
          have f6 := hc6 i r hx
          have HNX := Lib.hid hnx
          have HF6 := Lib.hid f6
          have HBL := Lib.hid hbl
          have HUw := Lib.hid (HUr.out.below HI.out.2.2)
          have hcw : ∀ q v, wo.cell? ⟨b, q, none⟩ = some v → wr.cell? ⟨b, q, none⟩ = some v := fun q v h => (World.cell?_of_block (a := ⟨b, q, none⟩) (HI.out.2.2.block b HBL.out)).trans h
          have r0 := hcw _ _ (HF6.out 0 _ rfl)
          rw [Nat.add_zero] at r0
          clear hx hnx hr hc6 f6 hbl hcw
          by_cases hv : hasI st r.stamp = true
          · have HV := Lib.hid hv
            clear hv
            go_wp2_with (go_at_call 15; (with_reducible refine (t_has64 As ns cs st r.stamp _ HUw.out HNS.out hns2).mono ?_); rintro e w6 ⟨rfl, hb⟩; rw [HV.out]; have HB6 := Lib.hid (HI.out.2.2.trans (hb.mono HI.out.2.2.size)); have HO6 := Lib.hid (row_below HI.out.2.1 hb); clear hb)
            go_roundw
            case rel =>
              refine ⟨i + 1, q, A5, c5, ?_, rfl, rfl, him, by omega, ?_, ?_, HB6.out⟩
              · congr 1
                omega
              · rw [HNX.out, if_pos HV.out, List.append_nil]
                exact HI.out.1
              · rw [HNX.out, if_pos HV.out, List.append_nil]
                exact HO6.out
            case measure => simp only [intOf]; omega
          · have HV := Lib.hid hv
            have hvf : hasI st r.stamp = false := by simpa using hv
            clear hv
            go_wp2_with (first
              | (go_at_call 15; (with_reducible refine (t_has64 As ns cs st r.stamp _ HUw.out HNS.out hns2).mono ?_); rintro e w6 ⟨rfl, hb⟩; rw [hvf]; have HB6 := Lib.hid (HI.out.2.2.trans (hb.mono HI.out.2.2.size)); have HO6 := Lib.hid (row_below HI.out.2.1 hb); have c1b : w6.cell? ⟨Q, 1, none⟩ = some (.slice (some ⟨D1.bL, 0, none⟩) x.cores D1.cL) := (HDr.out.below hb).c1; have cLb := (HDr.out.below hb).cL (k := c) hcc; rw [HSL.out] at cLb; clear hb; have hcw : ∀ q v, wo.cell? ⟨b, q, none⟩ = some v → w6.cell? ⟨b, q, none⟩ = some v := fun q v h => (World.cell?_of_block (a := ⟨b, q, none⟩) (HB6.out.block b HBL.out)).trans h; have q0 := hcw _ _ (HF6.out 0 _ rfl); have q1 := hcw _ _ (HF6.out 1 _ rfl); have q2 := hcw _ _ (HF6.out 2 _ rfl); have q3 := hcw _ _ (HF6.out 3 _ rfl); have q4 := hcw _ _ (HF6.out 4 _ rfl); have q5 := hcw _ _ (HF6.out 5 _ rfl); have q6 := hcw _ _ (HF6.out 6 _ rfl); have q7 := hcw _ _ (HF6.out 7 _ rfl); have q8 := hcw _ _ (HF6.out 8 _ rfl); have q9 := hcw _ _ (HF6.out 9 _ rfl); have q10 := hcw _ _ (HF6.out 10 _ rfl); have q11 := hcw _ _ (HF6.out 11 _ rfl); rw [Nat.add_zero] at q0; clear hcw)
              | (at_builtin; refine wpList_append_rec2 rfl _ _ rfl wo.heap.size _ (takeR st (l.take i)) q (q + 1) HI.out.1 rfl rfl (HO6.out.alloc _) w6.heap.size r rfl (heap_alloc_new _ _) (by omega) (by rw [World.alloc_size']; have := HB6.out.size; omega) ?_; intro A2 d2 W7 g4 g5 g6; have H7 := Lib.hid (And.intro g4 (below_own (Nat.le_refl _) HB6.out HO6.out g5)); clear g4 g5 g6))
            go_roundw
            case rel =>
              refine ⟨i + 1, q + 1, A2, d2, ?_, rfl, rfl, him, by omega, ?_, ?_, H7.out.2⟩
              · congr 1
                omega
              · rw [HNX.out, if_neg HV.out, List.length_append, HI.out.1]
                rfl
              · rw [HNX.out, if_neg HV.out]
                exact H7.out.1
            case measure => simp only [intOf]; omega
        · obtain rfl : m = i := by omega
          have hfin := HI.out
          rw [List.take_of_length_le (by rw [HM.out]; exact Nat.le_refl _)] at hfin
          have hset := t_docSet Q D1 G1 (takenTo x st c) c hcc A5 q c5 (takeR st l) wr HDr.out (recs_of_row hfin.2.1 hfin.1 (fun r hr => HREC.out.ok r (takeR_mem hr))) hfin.1 (by omega) (fun _ b o e => by have h1 := hfin.2.1.lt b (by rw [own_zero hfin.2.1 e]; rfl); have h2 := HD.out.lt Q HD.out.gQ; exact ⟨by omega, h1.2⟩)
          rw [show { takenTo x st c with rows := setF (takenTo x st c).rows c (takeR st l) } = takenTo x st (c + 1) by rw [HLL.out]; exact takenTo_succ x st c] at hset
          have HSET := Lib.hid hset
          have HFIN := Lib.hid hfin
          have HTN : Hid (takeN x st (c + 1) = t + (m - q)) := by
            show takeN x st c + ((x.rows c).length - (takeR st (x.rows c)).length) = _
            rw [← HLL.out, HM.out, hfin.1, ← HTT.out]
          clear hset hfin
          go_wp2_with (go_at_call 65; (with_reducible refine HSET.out.mono ?_); rintro e w9 ⟨rfl, D9, G9, hd9, hg9, hG9⟩; have H9 := Lib.hid (And.intro hd9 (And.intro hg9 hG9)); clear hd9 hg9 hG9)
          go_roundw
          case rel =>
            refine ⟨c + 1, by rw [HTN.out]; exact congrArg (Value.int .i64) (by omega), rfl, hcc, D9, G9, H9.out.1, grown_two (grown_two HG.out (grown_below HFIN.out.2.2)) H9.out.2.1, fun b hb => ?_⟩
            have hs1 := HG.out.size
            have hs2 := HFIN.out.2.2.size
            rcases H9.out.2.2 b hb with h1 | h1 | ⟨_, o, e⟩
            · exact HGG.out b h1
            · exact .inr (by omega)
            · exact .inr (by have := (HFIN.out.2.1.lt b (by rw [own_zero HFIN.out.2.1 e]; rfl)).1; omega)
          case measure => simp only [intOf]; omega
    · obtain rfl : c = x.cores := by omega
      go_wp2
      go_ret
      refine ⟨rfl, D1, G1, ?_, hG, hGG⟩
      rw [← takenTo_all HXX.out st]
      exact hD
end Go.Proofs.YtehckjkihaalfaaGreat
