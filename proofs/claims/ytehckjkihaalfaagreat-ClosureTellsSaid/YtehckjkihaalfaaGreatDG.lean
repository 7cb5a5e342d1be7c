/- Whether two records meet, by the document's parts, walked. -/
import Derived.Test.YtehckjkihaalfaaGreatDD
import Derived.Laws.StructEq
namespace Go.Proofs.YtehckjkihaalfaaGreat
open Go.RowKit Go.Maps

/-- An operation whose guard was itself passed over. -/
theorem opR_lost {ops : Array Oper} {a0 : Act} {w0 : World} {Rel : World → World → Prop} {Φ : Nat → Value → World → Prop} {Q : Exit → Act → World → Prop} {i : Nat} {o : Oper} {j d : Nat} {want : Bool} {oj : Oper} (hod : o.dst.isSome = true) (hg : o.guard = some (j, want))
    (haft : (o.after.toList.any fun e => e.on == j && Region.binds .any e) = true) (hj : ops[j]? = some oj) (hjd : oj.dst = some d) (hc : ∀ v W, Φ j v W → v = undef) (hrefl : ∀ W, Rel W W) (hskip : ∀ W, Φ i undef W) : OpDoesR ops a0 w0 Rel Φ Q i o := by
  refine opR_any fun a W h1 h2 h3 K hK => ?_
  have hv := hc _ _ (h3 j oj haft hj)
  have hy : yielded ops a.tmps j = none := by
    unfold dstV keyOf' at hv
    rw [hjd] at hv
    simp only at hv
    unfold yielded
    rw [hj]
    simp only [Option.bind_some, hjd]
    cases ht : a.tmps[d]? with
    | none => rfl
    | some x =>
      rw [ht] at hv
      simp only [Option.getD_some] at hv
      rw [hv]
      rfl
  rw [if_neg (by simp [Region.wanted, hg, hy])]
  refine hK undef W (hrefl W) ?_
  cases hd : o.dst with
  | some d => exact hskip W
  | none => rw [hd] at hod; cases hod
set_option maxRecDepth 100000 in
set_option maxHeartbeats 16000000 in
theorem t_rmeet (a b : R) (ha : RecOk a) (hb : RecOk b) (w : World) : Calls Tryz.prog 92 #[a.val, b.val] w fun e w' => e = .returned (.bool (meetB a b)) ∧ Below w.heap.size w w' := by
  have hpa := fun w => t_rparts a ha.1 ha.2.1 ha.2.2.1 ha.2.2.2 w
  have hpb := fun w => t_rparts b hb.1 hb.2.1 hb.2.2.1 hb.2.2.2 w
  unfold R.val at hpa hpb ⊢
  obtain ⟨res, hres⟩ : ∃ r, meetB a b = r := ⟨_, rfl⟩
  rw [hres]
  unfold meetB at hres
  obtain ⟨la, hla⟩ : ∃ l, partsL a = l := ⟨_, rfl⟩
  obtain ⟨lb, hlb⟩ : ∃ l, partsL b = l := ⟨_, rfl⟩
  have hn9 := partsL_len a
  have hm9 := partsL_len b
  rw [hla, hlb] at hres
  rw [hla] at hpa hn9
  rw [hlb] at hpb hm9
  obtain ⟨n, hn⟩ : ∃ n, la.length = n := ⟨_, rfl⟩
  obtain ⟨m, hm⟩ : ∃ n, lb.length = n := ⟨_, rfl⟩
  rw [hn] at hpa hn9
  rw [hm] at hpb hm9
  have HRES := Lib.hid hres
  have HN := Lib.hid hn
  have HM := Lib.hid hm
  clear hres hla hlb hn hm
  go_enter Tryz.func92, Tryz.ntmps92
  go_wp2
  have HPA := Lib.hid hpa
  have HPB := Lib.hid hpb
  have hra : ((w.alloc (.cells (cellsR a) 34)).alloc (.cells (cellsR b) 34)).heap[w.heap.size]? = some (.cells (cellsR a) 34 (0, 0)) := (heap_alloc_old _ _ (by rw [World.alloc_size']; omega)).trans (heap_alloc_new _ _)
  have hrb : ((w.alloc (.cells (cellsR a) 34)).alloc (.cells (cellsR b) 34)).heap[w.heap.size + 1]? = some (.cells (cellsR b) 34 (0, 0)) := new_at _ _ _ (by rw [World.alloc_size'])
  have HRA := Lib.hid hra
  have HRB := Lib.hid hrb
  have HSZ : Hid (w.heap.size ≤ ((w.alloc (.cells (cellsR a) 34)).alloc (.cells (cellsR b) 34)).heap.size) := by show _ ≤ _; rw [World.alloc_size', World.alloc_size']; omega
  clear hpa hpb hra hrb
  refine wp_region_rel RelB (phi [isV (.agg #[.int .u64 a.stamp, .int .u8 a.act, .int .u32 a.dir, .string a.name, .int .u32 a.ino, .int .u8 a.kind, .int .u32 a.dir2, .string a.name2, .int .u32 a.old, .int .u32 a.size, .int .i64 a.page, .string a.data]), (fun v W => ∃ A c, v = .slice A n c ∧ W.ownsRow w.heap.size 142 4 (.slice A n c) n (flatP la)), isV (.agg #[.int .u64 b.stamp, .int .u8 b.act, .int .u32 b.dir, .string b.name, .int .u32 b.ino, .int .u8 b.kind, .int .u32 b.dir2, .string b.name2, .int .u32 b.old, .int .u32 b.size, .int .i64 b.page, .string b.data]), (fun v W => ∃ A c, v = .slice A m c ∧ W.ownsRow w.heap.size 142 4 (.slice A m c) m (flatP lb)), (fun v W => ∃ A c, v = .slice A n c ∧ W.ownsRow w.heap.size 142 4 (.slice A n c) n (flatP la)), (fun v W => ∃ A c, v = .slice A m c ∧ W.ownsRow w.heap.size 142 4 (.slice A m c) m (flatP lb))]) (by kernel_rfl) (by kernel_rfl) (by kernel_rfl) (RelB.of (below_drew _)) (fun _ _ _ a b => a.trans b) ?_ ?_ ?_
  · refine stays_phiR ?_
    simp only [List.forall_mem_cons]
    exact ⟨fun _ _ _ h _ => h, fun _ _ _ h hb => h.imp fun _ h => h.imp fun _ h => ⟨h.1, row_below h.2 hb⟩, fun _ _ _ h _ => h, fun _ _ _ h hb => h.imp fun _ h => h.imp fun _ h => ⟨h.1, row_below h.2 hb⟩, fun _ _ _ h hb => h.imp fun _ h => h.imp fun _ h => ⟨h.1, row_below h.2 hb⟩, fun _ _ _ h hb => h.imp fun _ h => h.imp fun _ h => ⟨h.1, row_below h.2 hb⟩, fun _ h => absurd h (by simp)⟩
  · refine ⟨?_, ?_, ?_, ?_, ?_, ?_, trivial⟩
    · refine opR_mk rfl fun aa W2 hB hp hq K hK => ?_
      have e2 : aa.tmps[2]?.getD undef = .pointer (some ⟨w.heap.size, 0, none⟩) := hp 2 (by kernel_rfl)
      have c0 := rec_cell0 (RelB.rec hB HRA.out) 0 _ rfl
      have c1 := rec_cell0 (RelB.rec hB HRA.out) 1 _ rfl
      have c2 := rec_cell0 (RelB.rec hB HRA.out) 2 _ rfl
      have c3 := rec_cell0 (RelB.rec hB HRA.out) 3 _ rfl
      have c4 := rec_cell0 (RelB.rec hB HRA.out) 4 _ rfl
      have c5 := rec_cell0 (RelB.rec hB HRA.out) 5 _ rfl
      have c6 := rec_cell0 (RelB.rec hB HRA.out) 6 _ rfl
      have c7 := rec_cell0 (RelB.rec hB HRA.out) 7 _ rfl
      have c8 := rec_cell0 (RelB.rec hB HRA.out) 8 _ rfl
      have c9 := rec_cell0 (RelB.rec hB HRA.out) 9 _ rfl
      have c10 := rec_cell0 (RelB.rec hB HRA.out) 10 _ rfl
      have c11 := rec_cell0 (RelB.rec hB HRA.out) 11 _ rfl
      clear hp hq
      go_simp
      exact hK _ _ (RelB.refl _) rfl
    · refine opR_mk rfl fun aa W2 hB hp hq K hK => ?_
      have e9 : aa.tmps[9]?.getD undef = .agg #[.int .u64 a.stamp, .int .u8 a.act, .int .u32 a.dir, .string a.name, .int .u32 a.ino, .int .u8 a.kind, .int .u32 a.dir2, .string a.name2, .int .u32 a.old, .int .u32 a.size, .int .i64 a.page, .string a.data] := hq 0 _ (by kernel_rfl) rfl
      clear hp hq
      go_simp
      refine (HPA.out W2).mono ?_
      rintro e w2 ⟨v, rfl, ho, hb2⟩
      obtain ⟨A1, q1, rfl⟩ := row_slice ho
      exact hK _ _ (RelB.of hb2) ⟨A1, q1, rfl, own_low ho (Nat.le_trans HSZ.out (Below.size hB))⟩
    · refine opR_mk rfl fun aa W2 hB hp hq K hK => ?_
      have e3 : aa.tmps[3]?.getD undef = .pointer (some ⟨w.heap.size + 1, 0, none⟩) := hp 3 (by kernel_rfl)
      have c0 := rec_cell0 (RelB.rec hB HRB.out) 0 _ rfl
      have c1 := rec_cell0 (RelB.rec hB HRB.out) 1 _ rfl
      have c2 := rec_cell0 (RelB.rec hB HRB.out) 2 _ rfl
      have c3 := rec_cell0 (RelB.rec hB HRB.out) 3 _ rfl
      have c4 := rec_cell0 (RelB.rec hB HRB.out) 4 _ rfl
      have c5 := rec_cell0 (RelB.rec hB HRB.out) 5 _ rfl
      have c6 := rec_cell0 (RelB.rec hB HRB.out) 6 _ rfl
      have c7 := rec_cell0 (RelB.rec hB HRB.out) 7 _ rfl
      have c8 := rec_cell0 (RelB.rec hB HRB.out) 8 _ rfl
      have c9 := rec_cell0 (RelB.rec hB HRB.out) 9 _ rfl
      have c10 := rec_cell0 (RelB.rec hB HRB.out) 10 _ rfl
      have c11 := rec_cell0 (RelB.rec hB HRB.out) 11 _ rfl
      clear hp hq
      go_simp
      exact hK _ _ (RelB.refl _) rfl
    · refine opR_mk rfl fun aa W2 hB hp hq K hK => ?_
      have e11 : aa.tmps[11]?.getD undef = .agg #[.int .u64 b.stamp, .int .u8 b.act, .int .u32 b.dir, .string b.name, .int .u32 b.ino, .int .u8 b.kind, .int .u32 b.dir2, .string b.name2, .int .u32 b.old, .int .u32 b.size, .int .i64 b.page, .string b.data] := hq 2 _ (by kernel_rfl) rfl
      clear hp hq
      go_simp
      refine (HPB.out W2).mono ?_
      rintro e w2 ⟨v, rfl, ho, hb2⟩
      obtain ⟨A1, q1, rfl⟩ := row_slice ho
      exact hK _ _ (RelB.of hb2) ⟨A1, q1, rfl, own_low ho (Nat.le_trans HSZ.out (Below.size hB))⟩
    · refine opR_mk rfl fun aa W2 hB hp hq K hK => ?_
      obtain ⟨A1, q1, e10, h1⟩ := hq 1 _ (by kernel_rfl) rfl
      have e10 : aa.tmps[10]?.getD undef = .slice A1 n q1 := e10
      clear hp hq
      go_simp
      exact hK _ _ (RelB.refl _) ⟨A1, q1, rfl, h1⟩
    · refine opR_mk rfl fun aa W2 hB hp hq K hK => ?_
      obtain ⟨A1, q1, e12, h1⟩ := hq 3 _ (by kernel_rfl) rfl
      have e12 : aa.tmps[12]?.getD undef = .slice A1 m q1 := e12
      clear hp hq
      go_simp
      exact hK _ _ (RelB.refl _) ⟨A1, q1, rfl, h1⟩
  · intro vs W3 hB3 hv3 _
    obtain ⟨A, c, v4, ho1⟩ := hv3 4 _ rfl rfl
    obtain ⟨A2, c2, v5, ho2⟩ := hv3 5 _ rfl rfl
    have HO1 := Lib.hid ho1
    have HO2 := Lib.hid ho2
    have HB2 : Hid (Below w.heap.size w W3) := two_below hB3
    clear hB3 hv3 ho1 ho2
    simp only [List.take_succ_cons, List.take_zero, putAll, Act.put, List.setIfInBounds_toArray, List.set_cons_succ, List.set_cons_zero, Nat.zero_add, Nat.reduceAdd, v4, v5]
    clear v4 v5 HRA HRB HSZ HPA HPB
    obtain ⟨W0, hW0⟩ : ∃ W0 : World, W0 = W3 := ⟨_, rfl⟩
    subst hW0
    go_wp2
    go_loopw [7] (fun x wr => ∃ i : Nat, x = .int .i64 (i : Int) ∧ i ≤ n ∧ Hid (Below W0.heap.size W0 wr) ∧ Hid ((la.take i).any (fun x => lb.any fun y => meetPt x y) = false)) (fun x _ => n - (intOf x).toNat)
    case atStart => exact ⟨0, rfl, Nat.zero_le _, Below.refl _ _, rfl⟩
    case round =>
      obtain ⟨i, rfl, hi, HW, HF⟩ := hrel
      by_cases he : i = n
      · have hf : Hid (false = res) := by
          have := HF.out
          rw [List.take_of_length_le (by rw [HN.out]; omega), HRES.out] at this
          exact this.symm
        have he' : n = i := he.symm
        clear he
        subst he'
        go_wp2
        go_ret
        exact ⟨pret_bool hf.out, ptrans HB2.out HW.out⟩
      · have hi2 : i < n := by omega
        obtain ⟨x, hx⟩ : ∃ x, la[i]? = some x := ⟨la[i]'(by rw [HN.out]; omega), List.getElem?_eq_getElem _⟩
        have HX := Lib.hid hx
        clear hx
        go_wp2
        obtain ⟨w0, rfl⟩ : ∃ w0 : World, w0 = wr := ⟨_, rfl⟩
        go_loopw [8] (fun y wr => ∃ k : Nat, y = .int .i64 (k : Int) ∧ k ≤ m ∧ Hid (Below W0.heap.size W0 wr) ∧ Hid ((lb.take k).any (fun y => meetPt x y) = false)) (fun y _ => m - (intOf y).toNat)
        case atStart => exact ⟨0, rfl, Nat.zero_le _, HW.out, rfl⟩
        case round =>
          obtain ⟨k, rfl, hk, HK, HP⟩ := hrel
          by_cases hkm : k = m
          · have hf : Hid ((la.take (i + 1)).any (fun x => lb.any fun y => meetPt x y) = false) := by
              refine any_take_succ _ _ _ _ HX.out HF.out ?_
              have := HP.out
              rw [List.take_of_length_le (by rw [HM.out]; omega)] at this
              exact this
            have hkm' : m = k := hkm.symm
            clear hkm
            subst hkm'
            go_wp2
            go_roundw
            case rel => exact ⟨i + 1, rfl, hi2, HK, hf⟩
            case measure => simp only [intOf]; omega
          · have hk2 : k < m := by omega
            obtain ⟨g1, hg, hc⟩ := part_cells HO1.out HN.out HK.out hi2
            subst hg
            obtain ⟨c10, c11, c12, c13⟩ := hc x HX.out
            obtain ⟨y, hy⟩ : ∃ y, lb[k]? = some y := ⟨lb[k]'(by rw [HM.out]; omega), List.getElem?_eq_getElem _⟩
            obtain ⟨g2, hg, hd⟩ := part_cells HO2.out HM.out HK.out hk2
            subst hg
            obtain ⟨d10, d11, d12, d13⟩ := hd y hy
            have hg1 : g1 < wr.heap.size := Nat.lt_of_lt_of_le (HO1.out.lt g1 rfl).2 HK.out.size
            have hg2 : g2 < wr.heap.size := Nat.lt_of_lt_of_le (HO2.out.lt g2 rfl).2 HK.out.size
            have HY := Lib.hid hy
            clear hc hd hy
            cases h1 : (x.kind == y.kind)
            · go_wp2
              refine wp_region_rel RelB (phi [isV (.slice (some ⟨g1, 0, none⟩) n c), isV (.int .i64 (i : Int)), isV (.pointer (some ⟨g1, i * 4, none⟩)), isV (.pointer (some ⟨g1, i * 4, none⟩)), isV (.int .u8 x.kind), isV (.slice (some ⟨g2, 0, none⟩) m c2), isV (.int .i64 (k : Int)), isV (.pointer (some ⟨g2, k * 4, none⟩)), isV (.pointer (some ⟨g2, k * 4, none⟩)), isV (.int .u8 y.kind), isV (.bool false), isV (.bool false), (fun _ _ => True), (fun _ _ => True), (fun _ _ => True), (fun _ _ => True), (fun _ _ => True), (fun _ _ => True), (fun _ _ => True), (fun _ _ => True), (fun _ _ => True), (fun _ _ => True), (fun _ _ => True), isV (.bool false), isV (.bool false), (fun _ _ => True), (fun _ _ => True), (fun _ _ => True), (fun _ _ => True), (fun _ _ => True), (fun _ _ => True), (fun _ _ => True), (fun _ _ => True), (fun _ _ => True), (fun _ _ => True), (fun _ _ => True), isV (.bool false), isV (.bool false), (fun _ _ => True), (fun _ _ => True), (fun _ _ => True), (fun _ _ => True), (fun _ _ => True), isV undef, (fun _ _ => True), (fun _ _ => True), (fun _ _ => True), (fun _ _ => True), (fun _ _ => True), (fun _ _ => True), isV (.bool false)]) (by kernel_rfl) (by kernel_rfl) (by kernel_rfl) (RelB.of (below_drew _)) (fun _ _ _ a b => a.trans b) ?_ ?_ ?_
              · refine stays_phiR ?_
                simp only [List.forall_mem_cons]
                exact ⟨fun _ _ _ h _ => h, fun _ _ _ h _ => h, fun _ _ _ h _ => h, fun _ _ _ h _ => h, fun _ _ _ h _ => h, fun _ _ _ h _ => h, fun _ _ _ h _ => h, fun _ _ _ h _ => h, fun _ _ _ h _ => h, fun _ _ _ h _ => h, fun _ _ _ h _ => h, fun _ _ _ h _ => h, fun _ _ _ _ _ => trivial, fun _ _ _ _ _ => trivial, fun _ _ _ _ _ => trivial, fun _ _ _ _ _ => trivial, fun _ _ _ _ _ => trivial, fun _ _ _ _ _ => trivial, fun _ _ _ _ _ => trivial, fun _ _ _ _ _ => trivial, fun _ _ _ _ _ => trivial, fun _ _ _ _ _ => trivial, fun _ _ _ _ _ => trivial, fun _ _ _ h _ => h, fun _ _ _ h _ => h, fun _ _ _ _ _ => trivial, fun _ _ _ _ _ => trivial, fun _ _ _ _ _ => trivial, fun _ _ _ _ _ => trivial, fun _ _ _ _ _ => trivial, fun _ _ _ _ _ => trivial, fun _ _ _ _ _ => trivial, fun _ _ _ _ _ => trivial, fun _ _ _ _ _ => trivial, fun _ _ _ _ _ => trivial, fun _ _ _ _ _ => trivial, fun _ _ _ h _ => h, fun _ _ _ h _ => h, fun _ _ _ _ _ => trivial, fun _ _ _ _ _ => trivial, fun _ _ _ _ _ => trivial, fun _ _ _ _ _ => trivial, fun _ _ _ _ _ => trivial, fun _ _ _ h _ => h, fun _ _ _ _ _ => trivial, fun _ _ _ _ _ => trivial, fun _ _ _ _ _ => trivial, fun _ _ _ _ _ => trivial, fun _ _ _ _ _ => trivial, fun _ _ _ _ _ => trivial, fun _ _ _ h _ => h, fun _ h => absurd h (by simp)⟩
              · refine ⟨?_, ?_, ?_, ?_, ?_, ?_, ?_, ?_, ?_, ?_, ?_, ?_, ?_, ?_, ?_, ?_, ?_, ?_, ?_, ?_, ?_, ?_, ?_, ?_, ?_, ?_, ?_, ?_, ?_, ?_, ?_, ?_, ?_, ?_, ?_, ?_, ?_, ?_, ?_, ?_, ?_, ?_, ?_, ?_, ?_, ?_, ?_, ?_, ?_, ?_, ?_, trivial⟩
                · refine opR_mk rfl fun aa W2 hB hp hq K hK => ?_
                  have e5 : aa.tmps[5]?.getD undef = .slice (some ⟨g1, 0, none⟩) n c := hp 5 (by kernel_rfl)
                  clear hp hq
                  go_simp
                  exact hK _ _ (RelB.refl _) rfl
                · refine opR_mk rfl fun aa W2 hB hp hq K hK => ?_
                  have e7 : aa.tmps[7]?.getD undef = .int .i64 (i : Int) := hp 7 (by kernel_rfl)
                  clear hp hq
                  go_simp
                  exact hK _ _ (RelB.refl _) rfl
                · refine opR_mk rfl fun aa W2 hB hp hq K hK => ?_
                  have e25 : aa.tmps[25]?.getD undef = .slice (some ⟨g1, 0, none⟩) n c := hq 0 _ (by kernel_rfl) rfl
                  have e26 : aa.tmps[26]?.getD undef = .int .i64 (i : Int) := hq 1 _ (by kernel_rfl) rfl
                  clear hp hq
                  go_simp
                  exact hK _ _ (RelB.refl _) rfl
                · refine opR_mk rfl fun aa W2 hB hp hq K hK => ?_
                  have e27 : aa.tmps[27]?.getD undef = .pointer (some ⟨g1, i * 4, none⟩) := hq 2 _ (by kernel_rfl) rfl
                  clear hp hq
                  go_simp
                  exact hK _ _ (RelB.refl _) rfl
                · refine opR_mk rfl fun aa W2 hB hp hq K hK => ?_
                  have e28 : aa.tmps[28]?.getD undef = .pointer (some ⟨g1, i * 4, none⟩) := hq 3 _ (by kernel_rfl) rfl
                  have x0 := (World.cell?_of_block (a := ⟨g1, _, none⟩) (Below.block hB g1 hg1)).trans c10
                  clear hp hq
                  go_simp
                  exact hK _ _ (RelB.refl _) rfl
                · refine opR_mk rfl fun aa W2 hB hp hq K hK => ?_
                  have e6 : aa.tmps[6]?.getD undef = .slice (some ⟨g2, 0, none⟩) m c2 := hp 6 (by kernel_rfl)
                  clear hp hq
                  go_simp
                  exact hK _ _ (RelB.refl _) rfl
                · refine opR_mk rfl fun aa W2 hB hp hq K hK => ?_
                  have e8 : aa.tmps[8]?.getD undef = .int .i64 (k : Int) := hp 8 (by kernel_rfl)
                  clear hp hq
                  go_simp
                  exact hK _ _ (RelB.refl _) rfl
                · refine opR_mk rfl fun aa W2 hB hp hq K hK => ?_
                  have e30 : aa.tmps[30]?.getD undef = .slice (some ⟨g2, 0, none⟩) m c2 := hq 5 _ (by kernel_rfl) rfl
                  have e31 : aa.tmps[31]?.getD undef = .int .i64 (k : Int) := hq 6 _ (by kernel_rfl) rfl
                  clear hp hq
                  go_simp
                  exact hK _ _ (RelB.refl _) rfl
                · refine opR_mk rfl fun aa W2 hB hp hq K hK => ?_
                  have e32 : aa.tmps[32]?.getD undef = .pointer (some ⟨g2, k * 4, none⟩) := hq 7 _ (by kernel_rfl) rfl
                  clear hp hq
                  go_simp
                  exact hK _ _ (RelB.refl _) rfl
                · refine opR_mk rfl fun aa W2 hB hp hq K hK => ?_
                  have e33 : aa.tmps[33]?.getD undef = .pointer (some ⟨g2, k * 4, none⟩) := hq 8 _ (by kernel_rfl) rfl
                  have y0 := (World.cell?_of_block (a := ⟨g2, _, none⟩) (Below.block hB g2 hg2)).trans d10
                  clear hp hq
                  go_simp
                  exact hK _ _ (RelB.refl _) rfl
                · refine opR_mk rfl fun aa W2 hB hp hq K hK => ?_
                  have e29 : aa.tmps[29]?.getD undef = .int .u8 x.kind := hq 4 _ (by kernel_rfl) rfl
                  have e34 : aa.tmps[34]?.getD undef = .int .u8 y.kind := hq 9 _ (by kernel_rfl) rfl
                  clear hp hq
                  go_simp
                  exact hK _ _ (RelB.refl _) rfl
                · refine opR_mk rfl fun aa W2 hB hp hq K hK => ?_
                  have e35 : aa.tmps[35]?.getD undef = .bool false := hq 10 _ (by kernel_rfl) rfl
                  clear hp hq
                  go_simp
                  exact hK _ _ (RelB.refl _) rfl
                · exact opR_guard (j := 11) (d := 36) (c := false) rfl rfl (by kernel_rfl) rfl rfl (fun v W h => h) (fun _ => RelB.refl _) (fun _ _ => trivial) (fun hc => absurd hc (by decide))
                · exact opR_guard (j := 11) (d := 36) (c := false) rfl rfl (by kernel_rfl) rfl rfl (fun v W h => h) (fun _ => RelB.refl _) (fun _ _ => trivial) (fun hc => absurd hc (by decide))
                · exact opR_guard (j := 11) (d := 36) (c := false) rfl rfl (by kernel_rfl) rfl rfl (fun v W h => h) (fun _ => RelB.refl _) (fun _ _ => trivial) (fun hc => absurd hc (by decide))
                · exact opR_guard (j := 11) (d := 36) (c := false) rfl rfl (by kernel_rfl) rfl rfl (fun v W h => h) (fun _ => RelB.refl _) (fun _ _ => trivial) (fun hc => absurd hc (by decide))
                · exact opR_guard (j := 11) (d := 36) (c := false) rfl rfl (by kernel_rfl) rfl rfl (fun v W h => h) (fun _ => RelB.refl _) (fun _ _ => trivial) (fun hc => absurd hc (by decide))
                · exact opR_guard (j := 11) (d := 36) (c := false) rfl rfl (by kernel_rfl) rfl rfl (fun v W h => h) (fun _ => RelB.refl _) (fun _ _ => trivial) (fun hc => absurd hc (by decide))
                · exact opR_guard (j := 11) (d := 36) (c := false) rfl rfl (by kernel_rfl) rfl rfl (fun v W h => h) (fun _ => RelB.refl _) (fun _ _ => trivial) (fun hc => absurd hc (by decide))
                · exact opR_guard (j := 11) (d := 36) (c := false) rfl rfl (by kernel_rfl) rfl rfl (fun v W h => h) (fun _ => RelB.refl _) (fun _ _ => trivial) (fun hc => absurd hc (by decide))
                · exact opR_guard (j := 11) (d := 36) (c := false) rfl rfl (by kernel_rfl) rfl rfl (fun v W h => h) (fun _ => RelB.refl _) (fun _ _ => trivial) (fun hc => absurd hc (by decide))
                · exact opR_guard (j := 11) (d := 36) (c := false) rfl rfl (by kernel_rfl) rfl rfl (fun v W h => h) (fun _ => RelB.refl _) (fun _ _ => trivial) (fun hc => absurd hc (by decide))
                · exact opR_guard (j := 11) (d := 36) (c := false) rfl rfl (by kernel_rfl) rfl rfl (fun v W h => h) (fun _ => RelB.refl _) (fun _ _ => trivial) (fun hc => absurd hc (by decide))
                · refine opR_mk rfl fun aa W2 hB hp hq K hK => ?_
                  have e36 : aa.tmps[36]?.getD undef = .bool false := hq 11 _ (by kernel_rfl) rfl
                  clear hp hq
                  go_simp
                  exact hK _ _ (RelB.refl _) rfl
                · refine opR_mk rfl fun aa W2 hB hp hq K hK => ?_
                  have e48 : aa.tmps[48]?.getD undef = .bool false := hq 23 _ (by kernel_rfl) rfl
                  clear hp hq
                  go_simp
                  exact hK _ _ (RelB.refl _) rfl
                · exact opR_guard (j := 24) (d := 49) (c := false) rfl rfl (by kernel_rfl) rfl rfl (fun v W h => h) (fun _ => RelB.refl _) (fun _ _ => trivial) (fun hc => absurd hc (by decide))
                · exact opR_guard (j := 24) (d := 49) (c := false) rfl rfl (by kernel_rfl) rfl rfl (fun v W h => h) (fun _ => RelB.refl _) (fun _ _ => trivial) (fun hc => absurd hc (by decide))
                · exact opR_guard (j := 24) (d := 49) (c := false) rfl rfl (by kernel_rfl) rfl rfl (fun v W h => h) (fun _ => RelB.refl _) (fun _ _ => trivial) (fun hc => absurd hc (by decide))
                · exact opR_guard (j := 24) (d := 49) (c := false) rfl rfl (by kernel_rfl) rfl rfl (fun v W h => h) (fun _ => RelB.refl _) (fun _ _ => trivial) (fun hc => absurd hc (by decide))
                · exact opR_guard (j := 24) (d := 49) (c := false) rfl rfl (by kernel_rfl) rfl rfl (fun v W h => h) (fun _ => RelB.refl _) (fun _ _ => trivial) (fun hc => absurd hc (by decide))
                · exact opR_guard (j := 24) (d := 49) (c := false) rfl rfl (by kernel_rfl) rfl rfl (fun v W h => h) (fun _ => RelB.refl _) (fun _ _ => trivial) (fun hc => absurd hc (by decide))
                · exact opR_guard (j := 24) (d := 49) (c := false) rfl rfl (by kernel_rfl) rfl rfl (fun v W h => h) (fun _ => RelB.refl _) (fun _ _ => trivial) (fun hc => absurd hc (by decide))
                · exact opR_guard (j := 24) (d := 49) (c := false) rfl rfl (by kernel_rfl) rfl rfl (fun v W h => h) (fun _ => RelB.refl _) (fun _ _ => trivial) (fun hc => absurd hc (by decide))
                · exact opR_guard (j := 24) (d := 49) (c := false) rfl rfl (by kernel_rfl) rfl rfl (fun v W h => h) (fun _ => RelB.refl _) (fun _ _ => trivial) (fun hc => absurd hc (by decide))
                · exact opR_guard (j := 24) (d := 49) (c := false) rfl rfl (by kernel_rfl) rfl rfl (fun v W h => h) (fun _ => RelB.refl _) (fun _ _ => trivial) (fun hc => absurd hc (by decide))
                · exact opR_guard (j := 24) (d := 49) (c := false) rfl rfl (by kernel_rfl) rfl rfl (fun v W h => h) (fun _ => RelB.refl _) (fun _ _ => trivial) (fun hc => absurd hc (by decide))
                · refine opR_mk rfl fun aa W2 hB hp hq K hK => ?_
                  have e49 : aa.tmps[49]?.getD undef = .bool false := hq 24 _ (by kernel_rfl) rfl
                  clear hp hq
                  go_simp
                  exact hK _ _ (RelB.refl _) rfl
                · refine opR_mk rfl fun aa W2 hB hp hq K hK => ?_
                  have e61 : aa.tmps[61]?.getD undef = .bool false := hq 36 _ (by kernel_rfl) rfl
                  clear hp hq
                  go_simp
                  exact hK _ _ (RelB.refl _) rfl
                · exact opR_guard (j := 37) (d := 62) (c := false) rfl rfl (by kernel_rfl) rfl rfl (fun v W h => h) (fun _ => RelB.refl _) (fun _ _ => trivial) (fun hc => absurd hc (by decide))
                · exact opR_guard (j := 37) (d := 62) (c := false) rfl rfl (by kernel_rfl) rfl rfl (fun v W h => h) (fun _ => RelB.refl _) (fun _ _ => trivial) (fun hc => absurd hc (by decide))
                · exact opR_guard (j := 37) (d := 62) (c := false) rfl rfl (by kernel_rfl) rfl rfl (fun v W h => h) (fun _ => RelB.refl _) (fun _ _ => trivial) (fun hc => absurd hc (by decide))
                · exact opR_guard (j := 37) (d := 62) (c := false) rfl rfl (by kernel_rfl) rfl rfl (fun v W h => h) (fun _ => RelB.refl _) (fun _ _ => trivial) (fun hc => absurd hc (by decide))
                · exact opR_guard (j := 37) (d := 62) (c := false) rfl rfl (by kernel_rfl) rfl rfl (fun v W h => h) (fun _ => RelB.refl _) (fun _ _ => trivial) (fun hc => absurd hc (by decide))
                · exact opR_guard (j := 37) (d := 62) (c := false) rfl rfl (by kernel_rfl) rfl rfl (fun v W h => h) (fun _ => RelB.refl _) (fun _ _ => rfl) (fun hc => absurd hc (by decide))
                · exact opR_lost (j := 43) (d := 68) rfl rfl (by kernel_rfl) rfl rfl (fun v W h => h) (fun _ => RelB.refl _) (fun _ => trivial)
                · exact opR_lost (j := 43) (d := 68) rfl rfl (by kernel_rfl) rfl rfl (fun v W h => h) (fun _ => RelB.refl _) (fun _ => trivial)
                · exact opR_lost (j := 43) (d := 68) rfl rfl (by kernel_rfl) rfl rfl (fun v W h => h) (fun _ => RelB.refl _) (fun _ => trivial)
                · exact opR_lost (j := 43) (d := 68) rfl rfl (by kernel_rfl) rfl rfl (fun v W h => h) (fun _ => RelB.refl _) (fun _ => trivial)
                · exact opR_lost (j := 43) (d := 68) rfl rfl (by kernel_rfl) rfl rfl (fun v W h => h) (fun _ => RelB.refl _) (fun _ => trivial)
                · exact opR_guard (j := 37) (d := 62) (c := false) rfl rfl (by kernel_rfl) rfl rfl (fun v W h => h) (fun _ => RelB.refl _) (fun _ _ => trivial) (fun hc => absurd hc (by decide))
                · refine opR_mk rfl fun aa W2 hB hp hq K hK => ?_
                  have e62 : aa.tmps[62]?.getD undef = .bool false := hq 37 _ (by kernel_rfl) rfl
                  clear hp hq
                  go_simp
                  exact hK _ _ (RelB.refl _) rfl
              · intro vs W3 hB3 hv3 _
                have v50 : vs 50 = .bool false := hv3 50 _ rfl rfl
                have HB3 : Hid (Below W0.heap.size W0 W3) := ptrans HK.out hB3
                clear hB3 hv3
                simp only [List.take_succ_cons, List.take_zero, putAll, Act.put, List.setIfInBounds_toArray, List.set_cons_succ, List.set_cons_zero, Nat.zero_add, Nat.reduceAdd, v50]
                clear v50
                go_wp2
                go_roundw
                case rel => exact ⟨k + 1, rfl, hk2, HB3, any_take_succ _ _ _ _ HY.out HP.out (by unfold meetPt; simp [h1])⟩
                case measure => simp only [intOf]; omega
            · cases h2 : (x.ino == y.ino)
              · go_wp2
                refine wp_region_rel RelB (phi [isV (.slice (some ⟨g1, 0, none⟩) n c), isV (.int .i64 (i : Int)), isV (.pointer (some ⟨g1, i * 4, none⟩)), isV (.pointer (some ⟨g1, i * 4, none⟩)), isV (.int .u8 x.kind), isV (.slice (some ⟨g2, 0, none⟩) m c2), isV (.int .i64 (k : Int)), isV (.pointer (some ⟨g2, k * 4, none⟩)), isV (.pointer (some ⟨g2, k * 4, none⟩)), isV (.int .u8 y.kind), isV (.bool true), isV (.bool true), isV (.slice (some ⟨g1, 0, none⟩) n c), isV (.int .i64 (i : Int)), isV (.pointer (some ⟨g1, i * 4, none⟩)), isV (.pointer (some ⟨g1, i * 4 + 1, none⟩)), isV (.int .u32 x.ino), isV (.slice (some ⟨g2, 0, none⟩) m c2), isV (.int .i64 (k : Int)), isV (.pointer (some ⟨g2, k * 4, none⟩)), isV (.pointer (some ⟨g2, k * 4 + 1, none⟩)), isV (.int .u32 y.ino), isV (.bool false), isV (.bool false), isV (.bool false), (fun _ _ => True), (fun _ _ => True), (fun _ _ => True), (fun _ _ => True), (fun _ _ => True), (fun _ _ => True), (fun _ _ => True), (fun _ _ => True), (fun _ _ => True), (fun _ _ => True), (fun _ _ => True), isV (.bool false), isV (.bool false), (fun _ _ => True), (fun _ _ => True), (fun _ _ => True), (fun _ _ => True), (fun _ _ => True), isV undef, (fun _ _ => True), (fun _ _ => True), (fun _ _ => True), (fun _ _ => True), (fun _ _ => True), (fun _ _ => True), isV (.bool false)]) (by kernel_rfl) (by kernel_rfl) (by kernel_rfl) (RelB.of (below_drew _)) (fun _ _ _ a b => a.trans b) ?_ ?_ ?_
                · refine stays_phiR ?_
                  simp only [List.forall_mem_cons]
                  exact ⟨fun _ _ _ h _ => h, fun _ _ _ h _ => h, fun _ _ _ h _ => h, fun _ _ _ h _ => h, fun _ _ _ h _ => h, fun _ _ _ h _ => h, fun _ _ _ h _ => h, fun _ _ _ h _ => h, fun _ _ _ h _ => h, fun _ _ _ h _ => h, fun _ _ _ h _ => h, fun _ _ _ h _ => h, fun _ _ _ h _ => h, fun _ _ _ h _ => h, fun _ _ _ h _ => h, fun _ _ _ h _ => h, fun _ _ _ h _ => h, fun _ _ _ h _ => h, fun _ _ _ h _ => h, fun _ _ _ h _ => h, fun _ _ _ h _ => h, fun _ _ _ h _ => h, fun _ _ _ h _ => h, fun _ _ _ h _ => h, fun _ _ _ h _ => h, fun _ _ _ _ _ => trivial, fun _ _ _ _ _ => trivial, fun _ _ _ _ _ => trivial, fun _ _ _ _ _ => trivial, fun _ _ _ _ _ => trivial, fun _ _ _ _ _ => trivial, fun _ _ _ _ _ => trivial, fun _ _ _ _ _ => trivial, fun _ _ _ _ _ => trivial, fun _ _ _ _ _ => trivial, fun _ _ _ _ _ => trivial, fun _ _ _ h _ => h, fun _ _ _ h _ => h, fun _ _ _ _ _ => trivial, fun _ _ _ _ _ => trivial, fun _ _ _ _ _ => trivial, fun _ _ _ _ _ => trivial, fun _ _ _ _ _ => trivial, fun _ _ _ h _ => h, fun _ _ _ _ _ => trivial, fun _ _ _ _ _ => trivial, fun _ _ _ _ _ => trivial, fun _ _ _ _ _ => trivial, fun _ _ _ _ _ => trivial, fun _ _ _ _ _ => trivial, fun _ _ _ h _ => h, fun _ h => absurd h (by simp)⟩
                · refine ⟨?_, ?_, ?_, ?_, ?_, ?_, ?_, ?_, ?_, ?_, ?_, ?_, ?_, ?_, ?_, ?_, ?_, ?_, ?_, ?_, ?_, ?_, ?_, ?_, ?_, ?_, ?_, ?_, ?_, ?_, ?_, ?_, ?_, ?_, ?_, ?_, ?_, ?_, ?_, ?_, ?_, ?_, ?_, ?_, ?_, ?_, ?_, ?_, ?_, ?_, ?_, trivial⟩
                  · refine opR_mk rfl fun aa W2 hB hp hq K hK => ?_
                    have e5 : aa.tmps[5]?.getD undef = .slice (some ⟨g1, 0, none⟩) n c := hp 5 (by kernel_rfl)
                    clear hp hq
                    go_simp
                    exact hK _ _ (RelB.refl _) rfl
                  · refine opR_mk rfl fun aa W2 hB hp hq K hK => ?_
                    have e7 : aa.tmps[7]?.getD undef = .int .i64 (i : Int) := hp 7 (by kernel_rfl)
                    clear hp hq
                    go_simp
                    exact hK _ _ (RelB.refl _) rfl
                  · refine opR_mk rfl fun aa W2 hB hp hq K hK => ?_
                    have e25 : aa.tmps[25]?.getD undef = .slice (some ⟨g1, 0, none⟩) n c := hq 0 _ (by kernel_rfl) rfl
                    have e26 : aa.tmps[26]?.getD undef = .int .i64 (i : Int) := hq 1 _ (by kernel_rfl) rfl
                    clear hp hq
                    go_simp
                    exact hK _ _ (RelB.refl _) rfl
                  · refine opR_mk rfl fun aa W2 hB hp hq K hK => ?_
                    have e27 : aa.tmps[27]?.getD undef = .pointer (some ⟨g1, i * 4, none⟩) := hq 2 _ (by kernel_rfl) rfl
                    clear hp hq
                    go_simp
                    exact hK _ _ (RelB.refl _) rfl
                  · refine opR_mk rfl fun aa W2 hB hp hq K hK => ?_
                    have e28 : aa.tmps[28]?.getD undef = .pointer (some ⟨g1, i * 4, none⟩) := hq 3 _ (by kernel_rfl) rfl
                    have x0 := (World.cell?_of_block (a := ⟨g1, _, none⟩) (Below.block hB g1 hg1)).trans c10
                    clear hp hq
                    go_simp
                    exact hK _ _ (RelB.refl _) rfl
                  · refine opR_mk rfl fun aa W2 hB hp hq K hK => ?_
                    have e6 : aa.tmps[6]?.getD undef = .slice (some ⟨g2, 0, none⟩) m c2 := hp 6 (by kernel_rfl)
                    clear hp hq
                    go_simp
                    exact hK _ _ (RelB.refl _) rfl
                  · refine opR_mk rfl fun aa W2 hB hp hq K hK => ?_
                    have e8 : aa.tmps[8]?.getD undef = .int .i64 (k : Int) := hp 8 (by kernel_rfl)
                    clear hp hq
                    go_simp
                    exact hK _ _ (RelB.refl _) rfl
                  · refine opR_mk rfl fun aa W2 hB hp hq K hK => ?_
                    have e30 : aa.tmps[30]?.getD undef = .slice (some ⟨g2, 0, none⟩) m c2 := hq 5 _ (by kernel_rfl) rfl
                    have e31 : aa.tmps[31]?.getD undef = .int .i64 (k : Int) := hq 6 _ (by kernel_rfl) rfl
                    clear hp hq
                    go_simp
                    exact hK _ _ (RelB.refl _) rfl
                  · refine opR_mk rfl fun aa W2 hB hp hq K hK => ?_
                    have e32 : aa.tmps[32]?.getD undef = .pointer (some ⟨g2, k * 4, none⟩) := hq 7 _ (by kernel_rfl) rfl
                    clear hp hq
                    go_simp
                    exact hK _ _ (RelB.refl _) rfl
                  · refine opR_mk rfl fun aa W2 hB hp hq K hK => ?_
                    have e33 : aa.tmps[33]?.getD undef = .pointer (some ⟨g2, k * 4, none⟩) := hq 8 _ (by kernel_rfl) rfl
                    have y0 := (World.cell?_of_block (a := ⟨g2, _, none⟩) (Below.block hB g2 hg2)).trans d10
                    clear hp hq
                    go_simp
                    exact hK _ _ (RelB.refl _) rfl
                  · refine opR_mk rfl fun aa W2 hB hp hq K hK => ?_
                    have e29 : aa.tmps[29]?.getD undef = .int .u8 x.kind := hq 4 _ (by kernel_rfl) rfl
                    have e34 : aa.tmps[34]?.getD undef = .int .u8 y.kind := hq 9 _ (by kernel_rfl) rfl
                    clear hp hq
                    go_simp
                    exact hK _ _ (RelB.refl _) rfl
                  · refine opR_mk rfl fun aa W2 hB hp hq K hK => ?_
                    have e35 : aa.tmps[35]?.getD undef = .bool true := hq 10 _ (by kernel_rfl) rfl
                    clear hp hq
                    go_simp
                    exact hK _ _ (RelB.refl _) rfl
                  · refine opR_guard (j := 11) (d := 36) (c := true) rfl rfl (by kernel_rfl) rfl rfl (fun v W h => h) (fun _ => RelB.refl _) (fun hne => absurd rfl hne) fun hc aa W2 hB hp hq K hK => ?_
                    have e5 : aa.tmps[5]?.getD undef = .slice (some ⟨g1, 0, none⟩) n c := hp 5 (by kernel_rfl)
                    clear hp hq
                    go_simp
                    exact hK _ _ (RelB.refl _) rfl
                  · refine opR_guard (j := 11) (d := 36) (c := true) rfl rfl (by kernel_rfl) rfl rfl (fun v W h => h) (fun _ => RelB.refl _) (fun hne => absurd rfl hne) fun hc aa W2 hB hp hq K hK => ?_
                    have e7 : aa.tmps[7]?.getD undef = .int .i64 (i : Int) := hp 7 (by kernel_rfl)
                    clear hp hq
                    go_simp
                    exact hK _ _ (RelB.refl _) rfl
                  · refine opR_guard (j := 11) (d := 36) (c := true) rfl rfl (by kernel_rfl) rfl rfl (fun v W h => h) (fun _ => RelB.refl _) (fun hne => absurd rfl hne) fun hc aa W2 hB hp hq K hK => ?_
                    have e37 : aa.tmps[37]?.getD undef = .slice (some ⟨g1, 0, none⟩) n c := hq 12 _ (by kernel_rfl) rfl
                    have e38 : aa.tmps[38]?.getD undef = .int .i64 (i : Int) := hq 13 _ (by kernel_rfl) rfl
                    clear hp hq
                    go_simp
                    exact hK _ _ (RelB.refl _) rfl
                  · refine opR_guard (j := 11) (d := 36) (c := true) rfl rfl (by kernel_rfl) rfl rfl (fun v W h => h) (fun _ => RelB.refl _) (fun hne => absurd rfl hne) fun hc aa W2 hB hp hq K hK => ?_
                    have e39 : aa.tmps[39]?.getD undef = .pointer (some ⟨g1, i * 4, none⟩) := hq 14 _ (by kernel_rfl) rfl
                    clear hp hq
                    go_simp
                    exact hK _ _ (RelB.refl _) rfl
                  · refine opR_guard (j := 11) (d := 36) (c := true) rfl rfl (by kernel_rfl) rfl rfl (fun v W h => h) (fun _ => RelB.refl _) (fun hne => absurd rfl hne) fun hc aa W2 hB hp hq K hK => ?_
                    have e40 : aa.tmps[40]?.getD undef = .pointer (some ⟨g1, i * 4 + 1, none⟩) := hq 15 _ (by kernel_rfl) rfl
                    have x1 := (World.cell?_of_block (a := ⟨g1, _, none⟩) (Below.block hB g1 hg1)).trans c11
                    clear hp hq
                    go_simp
                    exact hK _ _ (RelB.refl _) rfl
                  · refine opR_guard (j := 11) (d := 36) (c := true) rfl rfl (by kernel_rfl) rfl rfl (fun v W h => h) (fun _ => RelB.refl _) (fun hne => absurd rfl hne) fun hc aa W2 hB hp hq K hK => ?_
                    have e6 : aa.tmps[6]?.getD undef = .slice (some ⟨g2, 0, none⟩) m c2 := hp 6 (by kernel_rfl)
                    clear hp hq
                    go_simp
                    exact hK _ _ (RelB.refl _) rfl
                  · refine opR_guard (j := 11) (d := 36) (c := true) rfl rfl (by kernel_rfl) rfl rfl (fun v W h => h) (fun _ => RelB.refl _) (fun hne => absurd rfl hne) fun hc aa W2 hB hp hq K hK => ?_
                    have e8 : aa.tmps[8]?.getD undef = .int .i64 (k : Int) := hp 8 (by kernel_rfl)
                    clear hp hq
                    go_simp
                    exact hK _ _ (RelB.refl _) rfl
                  · refine opR_guard (j := 11) (d := 36) (c := true) rfl rfl (by kernel_rfl) rfl rfl (fun v W h => h) (fun _ => RelB.refl _) (fun hne => absurd rfl hne) fun hc aa W2 hB hp hq K hK => ?_
                    have e42 : aa.tmps[42]?.getD undef = .slice (some ⟨g2, 0, none⟩) m c2 := hq 17 _ (by kernel_rfl) rfl
                    have e43 : aa.tmps[43]?.getD undef = .int .i64 (k : Int) := hq 18 _ (by kernel_rfl) rfl
                    clear hp hq
                    go_simp
                    exact hK _ _ (RelB.refl _) rfl
                  · refine opR_guard (j := 11) (d := 36) (c := true) rfl rfl (by kernel_rfl) rfl rfl (fun v W h => h) (fun _ => RelB.refl _) (fun hne => absurd rfl hne) fun hc aa W2 hB hp hq K hK => ?_
                    have e44 : aa.tmps[44]?.getD undef = .pointer (some ⟨g2, k * 4, none⟩) := hq 19 _ (by kernel_rfl) rfl
                    clear hp hq
                    go_simp
                    exact hK _ _ (RelB.refl _) rfl
                  · refine opR_guard (j := 11) (d := 36) (c := true) rfl rfl (by kernel_rfl) rfl rfl (fun v W h => h) (fun _ => RelB.refl _) (fun hne => absurd rfl hne) fun hc aa W2 hB hp hq K hK => ?_
                    have e45 : aa.tmps[45]?.getD undef = .pointer (some ⟨g2, k * 4 + 1, none⟩) := hq 20 _ (by kernel_rfl) rfl
                    have y1 := (World.cell?_of_block (a := ⟨g2, _, none⟩) (Below.block hB g2 hg2)).trans d11
                    clear hp hq
                    go_simp
                    exact hK _ _ (RelB.refl _) rfl
                  · refine opR_guard (j := 11) (d := 36) (c := true) rfl rfl (by kernel_rfl) rfl rfl (fun v W h => h) (fun _ => RelB.refl _) (fun hne => absurd rfl hne) fun hc aa W2 hB hp hq K hK => ?_
                    have e41 : aa.tmps[41]?.getD undef = .int .u32 x.ino := hq 16 _ (by kernel_rfl) rfl
                    have e46 : aa.tmps[46]?.getD undef = .int .u32 y.ino := hq 21 _ (by kernel_rfl) rfl
                    clear hp hq
                    go_simp
                    exact hK _ _ (RelB.refl _) rfl
                  · refine opR_mk rfl fun aa W2 hB hp hq K hK => ?_
                    have e36 : aa.tmps[36]?.getD undef = .bool true := hq 11 _ (by kernel_rfl) rfl
                    have e47 : aa.tmps[47]?.getD undef = .bool false := hq 22 _ (by kernel_rfl) rfl
                    clear hp hq
                    go_simp
                    exact hK _ _ (RelB.refl _) rfl
                  · refine opR_mk rfl fun aa W2 hB hp hq K hK => ?_
                    have e48 : aa.tmps[48]?.getD undef = .bool false := hq 23 _ (by kernel_rfl) rfl
                    clear hp hq
                    go_simp
                    exact hK _ _ (RelB.refl _) rfl
                  · exact opR_guard (j := 24) (d := 49) (c := false) rfl rfl (by kernel_rfl) rfl rfl (fun v W h => h) (fun _ => RelB.refl _) (fun _ _ => trivial) (fun hc => absurd hc (by decide))
                  · exact opR_guard (j := 24) (d := 49) (c := false) rfl rfl (by kernel_rfl) rfl rfl (fun v W h => h) (fun _ => RelB.refl _) (fun _ _ => trivial) (fun hc => absurd hc (by decide))
                  · exact opR_guard (j := 24) (d := 49) (c := false) rfl rfl (by kernel_rfl) rfl rfl (fun v W h => h) (fun _ => RelB.refl _) (fun _ _ => trivial) (fun hc => absurd hc (by decide))
                  · exact opR_guard (j := 24) (d := 49) (c := false) rfl rfl (by kernel_rfl) rfl rfl (fun v W h => h) (fun _ => RelB.refl _) (fun _ _ => trivial) (fun hc => absurd hc (by decide))
                  · exact opR_guard (j := 24) (d := 49) (c := false) rfl rfl (by kernel_rfl) rfl rfl (fun v W h => h) (fun _ => RelB.refl _) (fun _ _ => trivial) (fun hc => absurd hc (by decide))
                  · exact opR_guard (j := 24) (d := 49) (c := false) rfl rfl (by kernel_rfl) rfl rfl (fun v W h => h) (fun _ => RelB.refl _) (fun _ _ => trivial) (fun hc => absurd hc (by decide))
                  · exact opR_guard (j := 24) (d := 49) (c := false) rfl rfl (by kernel_rfl) rfl rfl (fun v W h => h) (fun _ => RelB.refl _) (fun _ _ => trivial) (fun hc => absurd hc (by decide))
                  · exact opR_guard (j := 24) (d := 49) (c := false) rfl rfl (by kernel_rfl) rfl rfl (fun v W h => h) (fun _ => RelB.refl _) (fun _ _ => trivial) (fun hc => absurd hc (by decide))
                  · exact opR_guard (j := 24) (d := 49) (c := false) rfl rfl (by kernel_rfl) rfl rfl (fun v W h => h) (fun _ => RelB.refl _) (fun _ _ => trivial) (fun hc => absurd hc (by decide))
                  · exact opR_guard (j := 24) (d := 49) (c := false) rfl rfl (by kernel_rfl) rfl rfl (fun v W h => h) (fun _ => RelB.refl _) (fun _ _ => trivial) (fun hc => absurd hc (by decide))
                  · exact opR_guard (j := 24) (d := 49) (c := false) rfl rfl (by kernel_rfl) rfl rfl (fun v W h => h) (fun _ => RelB.refl _) (fun _ _ => trivial) (fun hc => absurd hc (by decide))
                  · refine opR_mk rfl fun aa W2 hB hp hq K hK => ?_
                    have e49 : aa.tmps[49]?.getD undef = .bool false := hq 24 _ (by kernel_rfl) rfl
                    clear hp hq
                    go_simp
                    exact hK _ _ (RelB.refl _) rfl
                  · refine opR_mk rfl fun aa W2 hB hp hq K hK => ?_
                    have e61 : aa.tmps[61]?.getD undef = .bool false := hq 36 _ (by kernel_rfl) rfl
                    clear hp hq
                    go_simp
                    exact hK _ _ (RelB.refl _) rfl
                  · exact opR_guard (j := 37) (d := 62) (c := false) rfl rfl (by kernel_rfl) rfl rfl (fun v W h => h) (fun _ => RelB.refl _) (fun _ _ => trivial) (fun hc => absurd hc (by decide))
                  · exact opR_guard (j := 37) (d := 62) (c := false) rfl rfl (by kernel_rfl) rfl rfl (fun v W h => h) (fun _ => RelB.refl _) (fun _ _ => trivial) (fun hc => absurd hc (by decide))
                  · exact opR_guard (j := 37) (d := 62) (c := false) rfl rfl (by kernel_rfl) rfl rfl (fun v W h => h) (fun _ => RelB.refl _) (fun _ _ => trivial) (fun hc => absurd hc (by decide))
                  · exact opR_guard (j := 37) (d := 62) (c := false) rfl rfl (by kernel_rfl) rfl rfl (fun v W h => h) (fun _ => RelB.refl _) (fun _ _ => trivial) (fun hc => absurd hc (by decide))
                  · exact opR_guard (j := 37) (d := 62) (c := false) rfl rfl (by kernel_rfl) rfl rfl (fun v W h => h) (fun _ => RelB.refl _) (fun _ _ => trivial) (fun hc => absurd hc (by decide))
                  · exact opR_guard (j := 37) (d := 62) (c := false) rfl rfl (by kernel_rfl) rfl rfl (fun v W h => h) (fun _ => RelB.refl _) (fun _ _ => rfl) (fun hc => absurd hc (by decide))
                  · exact opR_lost (j := 43) (d := 68) rfl rfl (by kernel_rfl) rfl rfl (fun v W h => h) (fun _ => RelB.refl _) (fun _ => trivial)
                  · exact opR_lost (j := 43) (d := 68) rfl rfl (by kernel_rfl) rfl rfl (fun v W h => h) (fun _ => RelB.refl _) (fun _ => trivial)
                  · exact opR_lost (j := 43) (d := 68) rfl rfl (by kernel_rfl) rfl rfl (fun v W h => h) (fun _ => RelB.refl _) (fun _ => trivial)
                  · exact opR_lost (j := 43) (d := 68) rfl rfl (by kernel_rfl) rfl rfl (fun v W h => h) (fun _ => RelB.refl _) (fun _ => trivial)
                  · exact opR_lost (j := 43) (d := 68) rfl rfl (by kernel_rfl) rfl rfl (fun v W h => h) (fun _ => RelB.refl _) (fun _ => trivial)
                  · exact opR_guard (j := 37) (d := 62) (c := false) rfl rfl (by kernel_rfl) rfl rfl (fun v W h => h) (fun _ => RelB.refl _) (fun _ _ => trivial) (fun hc => absurd hc (by decide))
                  · refine opR_mk rfl fun aa W2 hB hp hq K hK => ?_
                    have e62 : aa.tmps[62]?.getD undef = .bool false := hq 37 _ (by kernel_rfl) rfl
                    clear hp hq
                    go_simp
                    exact hK _ _ (RelB.refl _) rfl
                · intro vs W3 hB3 hv3 _
                  have v50 : vs 50 = .bool false := hv3 50 _ rfl rfl
                  have HB3 : Hid (Below W0.heap.size W0 W3) := ptrans HK.out hB3
                  clear hB3 hv3
                  simp only [List.take_succ_cons, List.take_zero, putAll, Act.put, List.setIfInBounds_toArray, List.set_cons_succ, List.set_cons_zero, Nat.zero_add, Nat.reduceAdd, v50]
                  clear v50
                  go_wp2
                  go_roundw
                  case rel => exact ⟨k + 1, rfl, hk2, HB3, any_take_succ _ _ _ _ HY.out HP.out (by unfold meetPt; simp [h1, h2])⟩
                  case measure => simp only [intOf]; omega
              · cases h3 : (x.name.toList == y.name.toList)
                · have HP3 := Lib.hid (show ¬ x.name.toList = y.name.toList by simpa using h3)
                  go_wp2
                  refine wp_region_rel RelB (phi [isV (.slice (some ⟨g1, 0, none⟩) n c), isV (.int .i64 (i : Int)), isV (.pointer (some ⟨g1, i * 4, none⟩)), isV (.pointer (some ⟨g1, i * 4, none⟩)), isV (.int .u8 x.kind), isV (.slice (some ⟨g2, 0, none⟩) m c2), isV (.int .i64 (k : Int)), isV (.pointer (some ⟨g2, k * 4, none⟩)), isV (.pointer (some ⟨g2, k * 4, none⟩)), isV (.int .u8 y.kind), isV (.bool true), isV (.bool true), isV (.slice (some ⟨g1, 0, none⟩) n c), isV (.int .i64 (i : Int)), isV (.pointer (some ⟨g1, i * 4, none⟩)), isV (.pointer (some ⟨g1, i * 4 + 1, none⟩)), isV (.int .u32 x.ino), isV (.slice (some ⟨g2, 0, none⟩) m c2), isV (.int .i64 (k : Int)), isV (.pointer (some ⟨g2, k * 4, none⟩)), isV (.pointer (some ⟨g2, k * 4 + 1, none⟩)), isV (.int .u32 y.ino), isV (.bool true), isV (.bool true), isV (.bool true), isV (.slice (some ⟨g1, 0, none⟩) n c), isV (.int .i64 (i : Int)), isV (.pointer (some ⟨g1, i * 4, none⟩)), isV (.pointer (some ⟨g1, i * 4 + 2, none⟩)), isV (.string x.name), isV (.slice (some ⟨g2, 0, none⟩) m c2), isV (.int .i64 (k : Int)), isV (.pointer (some ⟨g2, k * 4, none⟩)), isV (.pointer (some ⟨g2, k * 4 + 2, none⟩)), isV (.string y.name), isV (.bool false), isV (.bool false), isV (.bool false), (fun _ _ => True), (fun _ _ => True), (fun _ _ => True), (fun _ _ => True), (fun _ _ => True), isV undef, (fun _ _ => True), (fun _ _ => True), (fun _ _ => True), (fun _ _ => True), (fun _ _ => True), (fun _ _ => True), isV (.bool false)]) (by kernel_rfl) (by kernel_rfl) (by kernel_rfl) (RelB.of (below_drew _)) (fun _ _ _ a b => a.trans b) ?_ ?_ ?_
                  · refine stays_phiR ?_
                    simp only [List.forall_mem_cons]
                    exact ⟨fun _ _ _ h _ => h, fun _ _ _ h _ => h, fun _ _ _ h _ => h, fun _ _ _ h _ => h, fun _ _ _ h _ => h, fun _ _ _ h _ => h, fun _ _ _ h _ => h, fun _ _ _ h _ => h, fun _ _ _ h _ => h, fun _ _ _ h _ => h, fun _ _ _ h _ => h, fun _ _ _ h _ => h, fun _ _ _ h _ => h, fun _ _ _ h _ => h, fun _ _ _ h _ => h, fun _ _ _ h _ => h, fun _ _ _ h _ => h, fun _ _ _ h _ => h, fun _ _ _ h _ => h, fun _ _ _ h _ => h, fun _ _ _ h _ => h, fun _ _ _ h _ => h, fun _ _ _ h _ => h, fun _ _ _ h _ => h, fun _ _ _ h _ => h, fun _ _ _ h _ => h, fun _ _ _ h _ => h, fun _ _ _ h _ => h, fun _ _ _ h _ => h, fun _ _ _ h _ => h, fun _ _ _ h _ => h, fun _ _ _ h _ => h, fun _ _ _ h _ => h, fun _ _ _ h _ => h, fun _ _ _ h _ => h, fun _ _ _ h _ => h, fun _ _ _ h _ => h, fun _ _ _ h _ => h, fun _ _ _ _ _ => trivial, fun _ _ _ _ _ => trivial, fun _ _ _ _ _ => trivial, fun _ _ _ _ _ => trivial, fun _ _ _ _ _ => trivial, fun _ _ _ h _ => h, fun _ _ _ _ _ => trivial, fun _ _ _ _ _ => trivial, fun _ _ _ _ _ => trivial, fun _ _ _ _ _ => trivial, fun _ _ _ _ _ => trivial, fun _ _ _ _ _ => trivial, fun _ _ _ h _ => h, fun _ h => absurd h (by simp)⟩
                  · refine ⟨?_, ?_, ?_, ?_, ?_, ?_, ?_, ?_, ?_, ?_, ?_, ?_, ?_, ?_, ?_, ?_, ?_, ?_, ?_, ?_, ?_, ?_, ?_, ?_, ?_, ?_, ?_, ?_, ?_, ?_, ?_, ?_, ?_, ?_, ?_, ?_, ?_, ?_, ?_, ?_, ?_, ?_, ?_, ?_, ?_, ?_, ?_, ?_, ?_, ?_, ?_, trivial⟩
                    · refine opR_mk rfl fun aa W2 hB hp hq K hK => ?_
                      have e5 : aa.tmps[5]?.getD undef = .slice (some ⟨g1, 0, none⟩) n c := hp 5 (by kernel_rfl)
                      clear hp hq
                      go_simp
                      exact hK _ _ (RelB.refl _) rfl
                    · refine opR_mk rfl fun aa W2 hB hp hq K hK => ?_
                      have e7 : aa.tmps[7]?.getD undef = .int .i64 (i : Int) := hp 7 (by kernel_rfl)
                      clear hp hq
                      go_simp
                      exact hK _ _ (RelB.refl _) rfl
                    · refine opR_mk rfl fun aa W2 hB hp hq K hK => ?_
                      have e25 : aa.tmps[25]?.getD undef = .slice (some ⟨g1, 0, none⟩) n c := hq 0 _ (by kernel_rfl) rfl
                      have e26 : aa.tmps[26]?.getD undef = .int .i64 (i : Int) := hq 1 _ (by kernel_rfl) rfl
                      clear hp hq
                      go_simp
                      exact hK _ _ (RelB.refl _) rfl
                    · refine opR_mk rfl fun aa W2 hB hp hq K hK => ?_
                      have e27 : aa.tmps[27]?.getD undef = .pointer (some ⟨g1, i * 4, none⟩) := hq 2 _ (by kernel_rfl) rfl
                      clear hp hq
                      go_simp
                      exact hK _ _ (RelB.refl _) rfl
                    · refine opR_mk rfl fun aa W2 hB hp hq K hK => ?_
                      have e28 : aa.tmps[28]?.getD undef = .pointer (some ⟨g1, i * 4, none⟩) := hq 3 _ (by kernel_rfl) rfl
                      have x0 := (World.cell?_of_block (a := ⟨g1, _, none⟩) (Below.block hB g1 hg1)).trans c10
                      clear hp hq
                      go_simp
                      exact hK _ _ (RelB.refl _) rfl
                    · refine opR_mk rfl fun aa W2 hB hp hq K hK => ?_
                      have e6 : aa.tmps[6]?.getD undef = .slice (some ⟨g2, 0, none⟩) m c2 := hp 6 (by kernel_rfl)
                      clear hp hq
                      go_simp
                      exact hK _ _ (RelB.refl _) rfl
                    · refine opR_mk rfl fun aa W2 hB hp hq K hK => ?_
                      have e8 : aa.tmps[8]?.getD undef = .int .i64 (k : Int) := hp 8 (by kernel_rfl)
                      clear hp hq
                      go_simp
                      exact hK _ _ (RelB.refl _) rfl
                    · refine opR_mk rfl fun aa W2 hB hp hq K hK => ?_
                      have e30 : aa.tmps[30]?.getD undef = .slice (some ⟨g2, 0, none⟩) m c2 := hq 5 _ (by kernel_rfl) rfl
                      have e31 : aa.tmps[31]?.getD undef = .int .i64 (k : Int) := hq 6 _ (by kernel_rfl) rfl
                      clear hp hq
                      go_simp
                      exact hK _ _ (RelB.refl _) rfl
                    · refine opR_mk rfl fun aa W2 hB hp hq K hK => ?_
                      have e32 : aa.tmps[32]?.getD undef = .pointer (some ⟨g2, k * 4, none⟩) := hq 7 _ (by kernel_rfl) rfl
                      clear hp hq
                      go_simp
                      exact hK _ _ (RelB.refl _) rfl
                    · refine opR_mk rfl fun aa W2 hB hp hq K hK => ?_
                      have e33 : aa.tmps[33]?.getD undef = .pointer (some ⟨g2, k * 4, none⟩) := hq 8 _ (by kernel_rfl) rfl
                      have y0 := (World.cell?_of_block (a := ⟨g2, _, none⟩) (Below.block hB g2 hg2)).trans d10
                      clear hp hq
                      go_simp
                      exact hK _ _ (RelB.refl _) rfl
                    · refine opR_mk rfl fun aa W2 hB hp hq K hK => ?_
                      have e29 : aa.tmps[29]?.getD undef = .int .u8 x.kind := hq 4 _ (by kernel_rfl) rfl
                      have e34 : aa.tmps[34]?.getD undef = .int .u8 y.kind := hq 9 _ (by kernel_rfl) rfl
                      clear hp hq
                      go_simp
                      exact hK _ _ (RelB.refl _) rfl
                    · refine opR_mk rfl fun aa W2 hB hp hq K hK => ?_
                      have e35 : aa.tmps[35]?.getD undef = .bool true := hq 10 _ (by kernel_rfl) rfl
                      clear hp hq
                      go_simp
                      exact hK _ _ (RelB.refl _) rfl
                    · refine opR_guard (j := 11) (d := 36) (c := true) rfl rfl (by kernel_rfl) rfl rfl (fun v W h => h) (fun _ => RelB.refl _) (fun hne => absurd rfl hne) fun hc aa W2 hB hp hq K hK => ?_
                      have e5 : aa.tmps[5]?.getD undef = .slice (some ⟨g1, 0, none⟩) n c := hp 5 (by kernel_rfl)
                      clear hp hq
                      go_simp
                      exact hK _ _ (RelB.refl _) rfl
                    · refine opR_guard (j := 11) (d := 36) (c := true) rfl rfl (by kernel_rfl) rfl rfl (fun v W h => h) (fun _ => RelB.refl _) (fun hne => absurd rfl hne) fun hc aa W2 hB hp hq K hK => ?_
                      have e7 : aa.tmps[7]?.getD undef = .int .i64 (i : Int) := hp 7 (by kernel_rfl)
                      clear hp hq
                      go_simp
                      exact hK _ _ (RelB.refl _) rfl
                    · refine opR_guard (j := 11) (d := 36) (c := true) rfl rfl (by kernel_rfl) rfl rfl (fun v W h => h) (fun _ => RelB.refl _) (fun hne => absurd rfl hne) fun hc aa W2 hB hp hq K hK => ?_
                      have e37 : aa.tmps[37]?.getD undef = .slice (some ⟨g1, 0, none⟩) n c := hq 12 _ (by kernel_rfl) rfl
                      have e38 : aa.tmps[38]?.getD undef = .int .i64 (i : Int) := hq 13 _ (by kernel_rfl) rfl
                      clear hp hq
                      go_simp
                      exact hK _ _ (RelB.refl _) rfl
                    · refine opR_guard (j := 11) (d := 36) (c := true) rfl rfl (by kernel_rfl) rfl rfl (fun v W h => h) (fun _ => RelB.refl _) (fun hne => absurd rfl hne) fun hc aa W2 hB hp hq K hK => ?_
                      have e39 : aa.tmps[39]?.getD undef = .pointer (some ⟨g1, i * 4, none⟩) := hq 14 _ (by kernel_rfl) rfl
                      clear hp hq
                      go_simp
                      exact hK _ _ (RelB.refl _) rfl
                    · refine opR_guard (j := 11) (d := 36) (c := true) rfl rfl (by kernel_rfl) rfl rfl (fun v W h => h) (fun _ => RelB.refl _) (fun hne => absurd rfl hne) fun hc aa W2 hB hp hq K hK => ?_
                      have e40 : aa.tmps[40]?.getD undef = .pointer (some ⟨g1, i * 4 + 1, none⟩) := hq 15 _ (by kernel_rfl) rfl
                      have x1 := (World.cell?_of_block (a := ⟨g1, _, none⟩) (Below.block hB g1 hg1)).trans c11
                      clear hp hq
                      go_simp
                      exact hK _ _ (RelB.refl _) rfl
                    · refine opR_guard (j := 11) (d := 36) (c := true) rfl rfl (by kernel_rfl) rfl rfl (fun v W h => h) (fun _ => RelB.refl _) (fun hne => absurd rfl hne) fun hc aa W2 hB hp hq K hK => ?_
                      have e6 : aa.tmps[6]?.getD undef = .slice (some ⟨g2, 0, none⟩) m c2 := hp 6 (by kernel_rfl)
                      clear hp hq
                      go_simp
                      exact hK _ _ (RelB.refl _) rfl
                    · refine opR_guard (j := 11) (d := 36) (c := true) rfl rfl (by kernel_rfl) rfl rfl (fun v W h => h) (fun _ => RelB.refl _) (fun hne => absurd rfl hne) fun hc aa W2 hB hp hq K hK => ?_
                      have e8 : aa.tmps[8]?.getD undef = .int .i64 (k : Int) := hp 8 (by kernel_rfl)
                      clear hp hq
                      go_simp
                      exact hK _ _ (RelB.refl _) rfl
                    · refine opR_guard (j := 11) (d := 36) (c := true) rfl rfl (by kernel_rfl) rfl rfl (fun v W h => h) (fun _ => RelB.refl _) (fun hne => absurd rfl hne) fun hc aa W2 hB hp hq K hK => ?_
                      have e42 : aa.tmps[42]?.getD undef = .slice (some ⟨g2, 0, none⟩) m c2 := hq 17 _ (by kernel_rfl) rfl
                      have e43 : aa.tmps[43]?.getD undef = .int .i64 (k : Int) := hq 18 _ (by kernel_rfl) rfl
                      clear hp hq
                      go_simp
                      exact hK _ _ (RelB.refl _) rfl
                    · refine opR_guard (j := 11) (d := 36) (c := true) rfl rfl (by kernel_rfl) rfl rfl (fun v W h => h) (fun _ => RelB.refl _) (fun hne => absurd rfl hne) fun hc aa W2 hB hp hq K hK => ?_
                      have e44 : aa.tmps[44]?.getD undef = .pointer (some ⟨g2, k * 4, none⟩) := hq 19 _ (by kernel_rfl) rfl
                      clear hp hq
                      go_simp
                      exact hK _ _ (RelB.refl _) rfl
                    · refine opR_guard (j := 11) (d := 36) (c := true) rfl rfl (by kernel_rfl) rfl rfl (fun v W h => h) (fun _ => RelB.refl _) (fun hne => absurd rfl hne) fun hc aa W2 hB hp hq K hK => ?_
                      have e45 : aa.tmps[45]?.getD undef = .pointer (some ⟨g2, k * 4 + 1, none⟩) := hq 20 _ (by kernel_rfl) rfl
                      have y1 := (World.cell?_of_block (a := ⟨g2, _, none⟩) (Below.block hB g2 hg2)).trans d11
                      clear hp hq
                      go_simp
                      exact hK _ _ (RelB.refl _) rfl
                    · refine opR_guard (j := 11) (d := 36) (c := true) rfl rfl (by kernel_rfl) rfl rfl (fun v W h => h) (fun _ => RelB.refl _) (fun hne => absurd rfl hne) fun hc aa W2 hB hp hq K hK => ?_
                      have e41 : aa.tmps[41]?.getD undef = .int .u32 x.ino := hq 16 _ (by kernel_rfl) rfl
                      have e46 : aa.tmps[46]?.getD undef = .int .u32 y.ino := hq 21 _ (by kernel_rfl) rfl
                      clear hp hq
                      go_simp
                      exact hK _ _ (RelB.refl _) rfl
                    · refine opR_mk rfl fun aa W2 hB hp hq K hK => ?_
                      have e36 : aa.tmps[36]?.getD undef = .bool true := hq 11 _ (by kernel_rfl) rfl
                      have e47 : aa.tmps[47]?.getD undef = .bool true := hq 22 _ (by kernel_rfl) rfl
                      clear hp hq
                      go_simp
                      exact hK _ _ (RelB.refl _) rfl
                    · refine opR_mk rfl fun aa W2 hB hp hq K hK => ?_
                      have e48 : aa.tmps[48]?.getD undef = .bool true := hq 23 _ (by kernel_rfl) rfl
                      clear hp hq
                      go_simp
                      exact hK _ _ (RelB.refl _) rfl
                    · refine opR_guard (j := 24) (d := 49) (c := true) rfl rfl (by kernel_rfl) rfl rfl (fun v W h => h) (fun _ => RelB.refl _) (fun hne => absurd rfl hne) fun hc aa W2 hB hp hq K hK => ?_
                      have e5 : aa.tmps[5]?.getD undef = .slice (some ⟨g1, 0, none⟩) n c := hp 5 (by kernel_rfl)
                      clear hp hq
                      go_simp
                      exact hK _ _ (RelB.refl _) rfl
                    · refine opR_guard (j := 24) (d := 49) (c := true) rfl rfl (by kernel_rfl) rfl rfl (fun v W h => h) (fun _ => RelB.refl _) (fun hne => absurd rfl hne) fun hc aa W2 hB hp hq K hK => ?_
                      have e7 : aa.tmps[7]?.getD undef = .int .i64 (i : Int) := hp 7 (by kernel_rfl)
                      clear hp hq
                      go_simp
                      exact hK _ _ (RelB.refl _) rfl
                    · refine opR_guard (j := 24) (d := 49) (c := true) rfl rfl (by kernel_rfl) rfl rfl (fun v W h => h) (fun _ => RelB.refl _) (fun hne => absurd rfl hne) fun hc aa W2 hB hp hq K hK => ?_
                      have e50 : aa.tmps[50]?.getD undef = .slice (some ⟨g1, 0, none⟩) n c := hq 25 _ (by kernel_rfl) rfl
                      have e51 : aa.tmps[51]?.getD undef = .int .i64 (i : Int) := hq 26 _ (by kernel_rfl) rfl
                      clear hp hq
                      go_simp
                      exact hK _ _ (RelB.refl _) rfl
                    · refine opR_guard (j := 24) (d := 49) (c := true) rfl rfl (by kernel_rfl) rfl rfl (fun v W h => h) (fun _ => RelB.refl _) (fun hne => absurd rfl hne) fun hc aa W2 hB hp hq K hK => ?_
                      have e52 : aa.tmps[52]?.getD undef = .pointer (some ⟨g1, i * 4, none⟩) := hq 27 _ (by kernel_rfl) rfl
                      clear hp hq
                      go_simp
                      exact hK _ _ (RelB.refl _) rfl
                    · refine opR_guard (j := 24) (d := 49) (c := true) rfl rfl (by kernel_rfl) rfl rfl (fun v W h => h) (fun _ => RelB.refl _) (fun hne => absurd rfl hne) fun hc aa W2 hB hp hq K hK => ?_
                      have e53 : aa.tmps[53]?.getD undef = .pointer (some ⟨g1, i * 4 + 2, none⟩) := hq 28 _ (by kernel_rfl) rfl
                      have x2 := (World.cell?_of_block (a := ⟨g1, _, none⟩) (Below.block hB g1 hg1)).trans c12
                      clear hp hq
                      go_simp
                      exact hK _ _ (RelB.refl _) rfl
                    · refine opR_guard (j := 24) (d := 49) (c := true) rfl rfl (by kernel_rfl) rfl rfl (fun v W h => h) (fun _ => RelB.refl _) (fun hne => absurd rfl hne) fun hc aa W2 hB hp hq K hK => ?_
                      have e6 : aa.tmps[6]?.getD undef = .slice (some ⟨g2, 0, none⟩) m c2 := hp 6 (by kernel_rfl)
                      clear hp hq
                      go_simp
                      exact hK _ _ (RelB.refl _) rfl
                    · refine opR_guard (j := 24) (d := 49) (c := true) rfl rfl (by kernel_rfl) rfl rfl (fun v W h => h) (fun _ => RelB.refl _) (fun hne => absurd rfl hne) fun hc aa W2 hB hp hq K hK => ?_
                      have e8 : aa.tmps[8]?.getD undef = .int .i64 (k : Int) := hp 8 (by kernel_rfl)
                      clear hp hq
                      go_simp
                      exact hK _ _ (RelB.refl _) rfl
                    · refine opR_guard (j := 24) (d := 49) (c := true) rfl rfl (by kernel_rfl) rfl rfl (fun v W h => h) (fun _ => RelB.refl _) (fun hne => absurd rfl hne) fun hc aa W2 hB hp hq K hK => ?_
                      have e55 : aa.tmps[55]?.getD undef = .slice (some ⟨g2, 0, none⟩) m c2 := hq 30 _ (by kernel_rfl) rfl
                      have e56 : aa.tmps[56]?.getD undef = .int .i64 (k : Int) := hq 31 _ (by kernel_rfl) rfl
                      clear hp hq
                      go_simp
                      exact hK _ _ (RelB.refl _) rfl
                    · refine opR_guard (j := 24) (d := 49) (c := true) rfl rfl (by kernel_rfl) rfl rfl (fun v W h => h) (fun _ => RelB.refl _) (fun hne => absurd rfl hne) fun hc aa W2 hB hp hq K hK => ?_
                      have e57 : aa.tmps[57]?.getD undef = .pointer (some ⟨g2, k * 4, none⟩) := hq 32 _ (by kernel_rfl) rfl
                      clear hp hq
                      go_simp
                      exact hK _ _ (RelB.refl _) rfl
                    · refine opR_guard (j := 24) (d := 49) (c := true) rfl rfl (by kernel_rfl) rfl rfl (fun v W h => h) (fun _ => RelB.refl _) (fun hne => absurd rfl hne) fun hc aa W2 hB hp hq K hK => ?_
                      have e58 : aa.tmps[58]?.getD undef = .pointer (some ⟨g2, k * 4 + 2, none⟩) := hq 33 _ (by kernel_rfl) rfl
                      have y2 := (World.cell?_of_block (a := ⟨g2, _, none⟩) (Below.block hB g2 hg2)).trans d12
                      clear hp hq
                      go_simp
                      exact hK _ _ (RelB.refl _) rfl
                    · refine opR_guard (j := 24) (d := 49) (c := true) rfl rfl (by kernel_rfl) rfl rfl (fun v W h => h) (fun _ => RelB.refl _) (fun hne => absurd rfl hne) fun hc aa W2 hB hp hq K hK => ?_
                      have e54 : aa.tmps[54]?.getD undef = .string x.name := hq 29 _ (by kernel_rfl) rfl
                      have e59 : aa.tmps[59]?.getD undef = .string y.name := hq 34 _ (by kernel_rfl) rfl
                      clear hp hq
                      go_simp
                      exact hK _ _ (RelB.refl _) rfl
                    · refine opR_mk rfl fun aa W2 hB hp hq K hK => ?_
                      have e49 : aa.tmps[49]?.getD undef = .bool true := hq 24 _ (by kernel_rfl) rfl
                      have e60 : aa.tmps[60]?.getD undef = .bool false := hq 35 _ (by kernel_rfl) rfl
                      clear hp hq
                      go_simp
                      exact hK _ _ (RelB.refl _) rfl
                    · refine opR_mk rfl fun aa W2 hB hp hq K hK => ?_
                      have e61 : aa.tmps[61]?.getD undef = .bool false := hq 36 _ (by kernel_rfl) rfl
                      clear hp hq
                      go_simp
                      exact hK _ _ (RelB.refl _) rfl
                    · exact opR_guard (j := 37) (d := 62) (c := false) rfl rfl (by kernel_rfl) rfl rfl (fun v W h => h) (fun _ => RelB.refl _) (fun _ _ => trivial) (fun hc => absurd hc (by decide))
                    · exact opR_guard (j := 37) (d := 62) (c := false) rfl rfl (by kernel_rfl) rfl rfl (fun v W h => h) (fun _ => RelB.refl _) (fun _ _ => trivial) (fun hc => absurd hc (by decide))
                    · exact opR_guard (j := 37) (d := 62) (c := false) rfl rfl (by kernel_rfl) rfl rfl (fun v W h => h) (fun _ => RelB.refl _) (fun _ _ => trivial) (fun hc => absurd hc (by decide))
                    · exact opR_guard (j := 37) (d := 62) (c := false) rfl rfl (by kernel_rfl) rfl rfl (fun v W h => h) (fun _ => RelB.refl _) (fun _ _ => trivial) (fun hc => absurd hc (by decide))
                    · exact opR_guard (j := 37) (d := 62) (c := false) rfl rfl (by kernel_rfl) rfl rfl (fun v W h => h) (fun _ => RelB.refl _) (fun _ _ => trivial) (fun hc => absurd hc (by decide))
                    · exact opR_guard (j := 37) (d := 62) (c := false) rfl rfl (by kernel_rfl) rfl rfl (fun v W h => h) (fun _ => RelB.refl _) (fun _ _ => rfl) (fun hc => absurd hc (by decide))
                    · exact opR_lost (j := 43) (d := 68) rfl rfl (by kernel_rfl) rfl rfl (fun v W h => h) (fun _ => RelB.refl _) (fun _ => trivial)
                    · exact opR_lost (j := 43) (d := 68) rfl rfl (by kernel_rfl) rfl rfl (fun v W h => h) (fun _ => RelB.refl _) (fun _ => trivial)
                    · exact opR_lost (j := 43) (d := 68) rfl rfl (by kernel_rfl) rfl rfl (fun v W h => h) (fun _ => RelB.refl _) (fun _ => trivial)
                    · exact opR_lost (j := 43) (d := 68) rfl rfl (by kernel_rfl) rfl rfl (fun v W h => h) (fun _ => RelB.refl _) (fun _ => trivial)
                    · exact opR_lost (j := 43) (d := 68) rfl rfl (by kernel_rfl) rfl rfl (fun v W h => h) (fun _ => RelB.refl _) (fun _ => trivial)
                    · exact opR_guard (j := 37) (d := 62) (c := false) rfl rfl (by kernel_rfl) rfl rfl (fun v W h => h) (fun _ => RelB.refl _) (fun _ _ => trivial) (fun hc => absurd hc (by decide))
                    · refine opR_mk rfl fun aa W2 hB hp hq K hK => ?_
                      have e62 : aa.tmps[62]?.getD undef = .bool false := hq 37 _ (by kernel_rfl) rfl
                      clear hp hq
                      go_simp
                      exact hK _ _ (RelB.refl _) rfl
                  · intro vs W3 hB3 hv3 _
                    have v50 : vs 50 = .bool false := hv3 50 _ rfl rfl
                    have HB3 : Hid (Below W0.heap.size W0 W3) := ptrans HK.out hB3
                    clear hB3 hv3
                    simp only [List.take_succ_cons, List.take_zero, putAll, Act.put, List.setIfInBounds_toArray, List.set_cons_succ, List.set_cons_zero, Nat.zero_add, Nat.reduceAdd, v50]
                    clear v50
                    go_wp2
                    go_roundw
                    case rel => exact ⟨k + 1, rfl, hk2, HB3, any_take_succ _ _ _ _ HY.out HP.out (by unfold meetPt; simp [h1, h2, HP3.out])⟩
                    case measure => simp only [intOf]; omega
                · have HP3 := Lib.hid (show x.name.toList = y.name.toList by simpa using h3)
                  cases h4 : x.write
                  · rw [h4] at c13
                    cases h5 : y.write
                    · rw [h5] at d13
                      go_wp2
                      refine wp_region_rel RelB (phi [isV (.slice (some ⟨g1, 0, none⟩) n c), isV (.int .i64 (i : Int)), isV (.pointer (some ⟨g1, i * 4, none⟩)), isV (.pointer (some ⟨g1, i * 4, none⟩)), isV (.int .u8 x.kind), isV (.slice (some ⟨g2, 0, none⟩) m c2), isV (.int .i64 (k : Int)), isV (.pointer (some ⟨g2, k * 4, none⟩)), isV (.pointer (some ⟨g2, k * 4, none⟩)), isV (.int .u8 y.kind), isV (.bool true), isV (.bool true), isV (.slice (some ⟨g1, 0, none⟩) n c), isV (.int .i64 (i : Int)), isV (.pointer (some ⟨g1, i * 4, none⟩)), isV (.pointer (some ⟨g1, i * 4 + 1, none⟩)), isV (.int .u32 x.ino), isV (.slice (some ⟨g2, 0, none⟩) m c2), isV (.int .i64 (k : Int)), isV (.pointer (some ⟨g2, k * 4, none⟩)), isV (.pointer (some ⟨g2, k * 4 + 1, none⟩)), isV (.int .u32 y.ino), isV (.bool true), isV (.bool true), isV (.bool true), isV (.slice (some ⟨g1, 0, none⟩) n c), isV (.int .i64 (i : Int)), isV (.pointer (some ⟨g1, i * 4, none⟩)), isV (.pointer (some ⟨g1, i * 4 + 2, none⟩)), isV (.string x.name), isV (.slice (some ⟨g2, 0, none⟩) m c2), isV (.int .i64 (k : Int)), isV (.pointer (some ⟨g2, k * 4, none⟩)), isV (.pointer (some ⟨g2, k * 4 + 2, none⟩)), isV (.string y.name), isV (.bool true), isV (.bool true), isV (.bool true), isV (.slice (some ⟨g1, 0, none⟩) n c), isV (.int .i64 (i : Int)), isV (.pointer (some ⟨g1, i * 4, none⟩)), isV (.pointer (some ⟨g1, i * 4 + 3, none⟩)), isV (.bool false), isV (.bool false), isV (.slice (some ⟨g2, 0, none⟩) m c2), isV (.int .i64 (k : Int)), isV (.pointer (some ⟨g2, k * 4, none⟩)), isV (.pointer (some ⟨g2, k * 4 + 3, none⟩)), isV (.bool false), isV (.bool false), isV (.bool false)]) (by kernel_rfl) (by kernel_rfl) (by kernel_rfl) (RelB.of (below_drew _)) (fun _ _ _ a b => a.trans b) ?_ ?_ ?_
                      · refine stays_phiR ?_
                        simp only [List.forall_mem_cons]
                        exact ⟨fun _ _ _ h _ => h, fun _ _ _ h _ => h, fun _ _ _ h _ => h, fun _ _ _ h _ => h, fun _ _ _ h _ => h, fun _ _ _ h _ => h, fun _ _ _ h _ => h, fun _ _ _ h _ => h, fun _ _ _ h _ => h, fun _ _ _ h _ => h, fun _ _ _ h _ => h, fun _ _ _ h _ => h, fun _ _ _ h _ => h, fun _ _ _ h _ => h, fun _ _ _ h _ => h, fun _ _ _ h _ => h, fun _ _ _ h _ => h, fun _ _ _ h _ => h, fun _ _ _ h _ => h, fun _ _ _ h _ => h, fun _ _ _ h _ => h, fun _ _ _ h _ => h, fun _ _ _ h _ => h, fun _ _ _ h _ => h, fun _ _ _ h _ => h, fun _ _ _ h _ => h, fun _ _ _ h _ => h, fun _ _ _ h _ => h, fun _ _ _ h _ => h, fun _ _ _ h _ => h, fun _ _ _ h _ => h, fun _ _ _ h _ => h, fun _ _ _ h _ => h, fun _ _ _ h _ => h, fun _ _ _ h _ => h, fun _ _ _ h _ => h, fun _ _ _ h _ => h, fun _ _ _ h _ => h, fun _ _ _ h _ => h, fun _ _ _ h _ => h, fun _ _ _ h _ => h, fun _ _ _ h _ => h, fun _ _ _ h _ => h, fun _ _ _ h _ => h, fun _ _ _ h _ => h, fun _ _ _ h _ => h, fun _ _ _ h _ => h, fun _ _ _ h _ => h, fun _ _ _ h _ => h, fun _ _ _ h _ => h, fun _ _ _ h _ => h, fun _ h => absurd h (by simp)⟩
                      · refine ⟨?_, ?_, ?_, ?_, ?_, ?_, ?_, ?_, ?_, ?_, ?_, ?_, ?_, ?_, ?_, ?_, ?_, ?_, ?_, ?_, ?_, ?_, ?_, ?_, ?_, ?_, ?_, ?_, ?_, ?_, ?_, ?_, ?_, ?_, ?_, ?_, ?_, ?_, ?_, ?_, ?_, ?_, ?_, ?_, ?_, ?_, ?_, ?_, ?_, ?_, ?_, trivial⟩
                        · refine opR_mk rfl fun aa W2 hB hp hq K hK => ?_
                          have e5 : aa.tmps[5]?.getD undef = .slice (some ⟨g1, 0, none⟩) n c := hp 5 (by kernel_rfl)
                          clear hp hq
                          go_simp
                          exact hK _ _ (RelB.refl _) rfl
                        · refine opR_mk rfl fun aa W2 hB hp hq K hK => ?_
                          have e7 : aa.tmps[7]?.getD undef = .int .i64 (i : Int) := hp 7 (by kernel_rfl)
                          clear hp hq
                          go_simp
                          exact hK _ _ (RelB.refl _) rfl
                        · refine opR_mk rfl fun aa W2 hB hp hq K hK => ?_
                          have e25 : aa.tmps[25]?.getD undef = .slice (some ⟨g1, 0, none⟩) n c := hq 0 _ (by kernel_rfl) rfl
                          have e26 : aa.tmps[26]?.getD undef = .int .i64 (i : Int) := hq 1 _ (by kernel_rfl) rfl
                          clear hp hq
                          go_simp
                          exact hK _ _ (RelB.refl _) rfl
                        · refine opR_mk rfl fun aa W2 hB hp hq K hK => ?_
                          have e27 : aa.tmps[27]?.getD undef = .pointer (some ⟨g1, i * 4, none⟩) := hq 2 _ (by kernel_rfl) rfl
                          clear hp hq
                          go_simp
                          exact hK _ _ (RelB.refl _) rfl
                        · refine opR_mk rfl fun aa W2 hB hp hq K hK => ?_
                          have e28 : aa.tmps[28]?.getD undef = .pointer (some ⟨g1, i * 4, none⟩) := hq 3 _ (by kernel_rfl) rfl
                          have x0 := (World.cell?_of_block (a := ⟨g1, _, none⟩) (Below.block hB g1 hg1)).trans c10
                          clear hp hq
                          go_simp
                          exact hK _ _ (RelB.refl _) rfl
                        · refine opR_mk rfl fun aa W2 hB hp hq K hK => ?_
                          have e6 : aa.tmps[6]?.getD undef = .slice (some ⟨g2, 0, none⟩) m c2 := hp 6 (by kernel_rfl)
                          clear hp hq
                          go_simp
                          exact hK _ _ (RelB.refl _) rfl
                        · refine opR_mk rfl fun aa W2 hB hp hq K hK => ?_
                          have e8 : aa.tmps[8]?.getD undef = .int .i64 (k : Int) := hp 8 (by kernel_rfl)
                          clear hp hq
                          go_simp
                          exact hK _ _ (RelB.refl _) rfl
                        · refine opR_mk rfl fun aa W2 hB hp hq K hK => ?_
                          have e30 : aa.tmps[30]?.getD undef = .slice (some ⟨g2, 0, none⟩) m c2 := hq 5 _ (by kernel_rfl) rfl
                          have e31 : aa.tmps[31]?.getD undef = .int .i64 (k : Int) := hq 6 _ (by kernel_rfl) rfl
                          clear hp hq
                          go_simp
                          exact hK _ _ (RelB.refl _) rfl
                        · refine opR_mk rfl fun aa W2 hB hp hq K hK => ?_
                          have e32 : aa.tmps[32]?.getD undef = .pointer (some ⟨g2, k * 4, none⟩) := hq 7 _ (by kernel_rfl) rfl
                          clear hp hq
                          go_simp
                          exact hK _ _ (RelB.refl _) rfl
                        · refine opR_mk rfl fun aa W2 hB hp hq K hK => ?_
                          have e33 : aa.tmps[33]?.getD undef = .pointer (some ⟨g2, k * 4, none⟩) := hq 8 _ (by kernel_rfl) rfl
                          have y0 := (World.cell?_of_block (a := ⟨g2, _, none⟩) (Below.block hB g2 hg2)).trans d10
                          clear hp hq
                          go_simp
                          exact hK _ _ (RelB.refl _) rfl
                        · refine opR_mk rfl fun aa W2 hB hp hq K hK => ?_
                          have e29 : aa.tmps[29]?.getD undef = .int .u8 x.kind := hq 4 _ (by kernel_rfl) rfl
                          have e34 : aa.tmps[34]?.getD undef = .int .u8 y.kind := hq 9 _ (by kernel_rfl) rfl
                          clear hp hq
                          go_simp
                          exact hK _ _ (RelB.refl _) rfl
                        · refine opR_mk rfl fun aa W2 hB hp hq K hK => ?_
                          have e35 : aa.tmps[35]?.getD undef = .bool true := hq 10 _ (by kernel_rfl) rfl
                          clear hp hq
                          go_simp
                          exact hK _ _ (RelB.refl _) rfl
                        · refine opR_guard (j := 11) (d := 36) (c := true) rfl rfl (by kernel_rfl) rfl rfl (fun v W h => h) (fun _ => RelB.refl _) (fun hne => absurd rfl hne) fun hc aa W2 hB hp hq K hK => ?_
                          have e5 : aa.tmps[5]?.getD undef = .slice (some ⟨g1, 0, none⟩) n c := hp 5 (by kernel_rfl)
                          clear hp hq
                          go_simp
                          exact hK _ _ (RelB.refl _) rfl
                        · refine opR_guard (j := 11) (d := 36) (c := true) rfl rfl (by kernel_rfl) rfl rfl (fun v W h => h) (fun _ => RelB.refl _) (fun hne => absurd rfl hne) fun hc aa W2 hB hp hq K hK => ?_
                          have e7 : aa.tmps[7]?.getD undef = .int .i64 (i : Int) := hp 7 (by kernel_rfl)
                          clear hp hq
                          go_simp
                          exact hK _ _ (RelB.refl _) rfl
                        · refine opR_guard (j := 11) (d := 36) (c := true) rfl rfl (by kernel_rfl) rfl rfl (fun v W h => h) (fun _ => RelB.refl _) (fun hne => absurd rfl hne) fun hc aa W2 hB hp hq K hK => ?_
                          have e37 : aa.tmps[37]?.getD undef = .slice (some ⟨g1, 0, none⟩) n c := hq 12 _ (by kernel_rfl) rfl
                          have e38 : aa.tmps[38]?.getD undef = .int .i64 (i : Int) := hq 13 _ (by kernel_rfl) rfl
                          clear hp hq
                          go_simp
                          exact hK _ _ (RelB.refl _) rfl
                        · refine opR_guard (j := 11) (d := 36) (c := true) rfl rfl (by kernel_rfl) rfl rfl (fun v W h => h) (fun _ => RelB.refl _) (fun hne => absurd rfl hne) fun hc aa W2 hB hp hq K hK => ?_
                          have e39 : aa.tmps[39]?.getD undef = .pointer (some ⟨g1, i * 4, none⟩) := hq 14 _ (by kernel_rfl) rfl
                          clear hp hq
                          go_simp
                          exact hK _ _ (RelB.refl _) rfl
                        · refine opR_guard (j := 11) (d := 36) (c := true) rfl rfl (by kernel_rfl) rfl rfl (fun v W h => h) (fun _ => RelB.refl _) (fun hne => absurd rfl hne) fun hc aa W2 hB hp hq K hK => ?_
                          have e40 : aa.tmps[40]?.getD undef = .pointer (some ⟨g1, i * 4 + 1, none⟩) := hq 15 _ (by kernel_rfl) rfl
                          have x1 := (World.cell?_of_block (a := ⟨g1, _, none⟩) (Below.block hB g1 hg1)).trans c11
                          clear hp hq
                          go_simp
                          exact hK _ _ (RelB.refl _) rfl
                        · refine opR_guard (j := 11) (d := 36) (c := true) rfl rfl (by kernel_rfl) rfl rfl (fun v W h => h) (fun _ => RelB.refl _) (fun hne => absurd rfl hne) fun hc aa W2 hB hp hq K hK => ?_
                          have e6 : aa.tmps[6]?.getD undef = .slice (some ⟨g2, 0, none⟩) m c2 := hp 6 (by kernel_rfl)
                          clear hp hq
                          go_simp
                          exact hK _ _ (RelB.refl _) rfl
                        · refine opR_guard (j := 11) (d := 36) (c := true) rfl rfl (by kernel_rfl) rfl rfl (fun v W h => h) (fun _ => RelB.refl _) (fun hne => absurd rfl hne) fun hc aa W2 hB hp hq K hK => ?_
                          have e8 : aa.tmps[8]?.getD undef = .int .i64 (k : Int) := hp 8 (by kernel_rfl)
                          clear hp hq
                          go_simp
                          exact hK _ _ (RelB.refl _) rfl
                        · refine opR_guard (j := 11) (d := 36) (c := true) rfl rfl (by kernel_rfl) rfl rfl (fun v W h => h) (fun _ => RelB.refl _) (fun hne => absurd rfl hne) fun hc aa W2 hB hp hq K hK => ?_
                          have e42 : aa.tmps[42]?.getD undef = .slice (some ⟨g2, 0, none⟩) m c2 := hq 17 _ (by kernel_rfl) rfl
                          have e43 : aa.tmps[43]?.getD undef = .int .i64 (k : Int) := hq 18 _ (by kernel_rfl) rfl
                          clear hp hq
                          go_simp
                          exact hK _ _ (RelB.refl _) rfl
                        · refine opR_guard (j := 11) (d := 36) (c := true) rfl rfl (by kernel_rfl) rfl rfl (fun v W h => h) (fun _ => RelB.refl _) (fun hne => absurd rfl hne) fun hc aa W2 hB hp hq K hK => ?_
                          have e44 : aa.tmps[44]?.getD undef = .pointer (some ⟨g2, k * 4, none⟩) := hq 19 _ (by kernel_rfl) rfl
                          clear hp hq
                          go_simp
                          exact hK _ _ (RelB.refl _) rfl
                        · refine opR_guard (j := 11) (d := 36) (c := true) rfl rfl (by kernel_rfl) rfl rfl (fun v W h => h) (fun _ => RelB.refl _) (fun hne => absurd rfl hne) fun hc aa W2 hB hp hq K hK => ?_
                          have e45 : aa.tmps[45]?.getD undef = .pointer (some ⟨g2, k * 4 + 1, none⟩) := hq 20 _ (by kernel_rfl) rfl
                          have y1 := (World.cell?_of_block (a := ⟨g2, _, none⟩) (Below.block hB g2 hg2)).trans d11
                          clear hp hq
                          go_simp
                          exact hK _ _ (RelB.refl _) rfl
                        · refine opR_guard (j := 11) (d := 36) (c := true) rfl rfl (by kernel_rfl) rfl rfl (fun v W h => h) (fun _ => RelB.refl _) (fun hne => absurd rfl hne) fun hc aa W2 hB hp hq K hK => ?_
                          have e41 : aa.tmps[41]?.getD undef = .int .u32 x.ino := hq 16 _ (by kernel_rfl) rfl
                          have e46 : aa.tmps[46]?.getD undef = .int .u32 y.ino := hq 21 _ (by kernel_rfl) rfl
                          clear hp hq
                          go_simp
                          exact hK _ _ (RelB.refl _) rfl
                        · refine opR_mk rfl fun aa W2 hB hp hq K hK => ?_
                          have e36 : aa.tmps[36]?.getD undef = .bool true := hq 11 _ (by kernel_rfl) rfl
                          have e47 : aa.tmps[47]?.getD undef = .bool true := hq 22 _ (by kernel_rfl) rfl
                          clear hp hq
                          go_simp
                          exact hK _ _ (RelB.refl _) rfl
                        · refine opR_mk rfl fun aa W2 hB hp hq K hK => ?_
                          have e48 : aa.tmps[48]?.getD undef = .bool true := hq 23 _ (by kernel_rfl) rfl
                          clear hp hq
                          go_simp
                          exact hK _ _ (RelB.refl _) rfl
                        · refine opR_guard (j := 24) (d := 49) (c := true) rfl rfl (by kernel_rfl) rfl rfl (fun v W h => h) (fun _ => RelB.refl _) (fun hne => absurd rfl hne) fun hc aa W2 hB hp hq K hK => ?_
                          have e5 : aa.tmps[5]?.getD undef = .slice (some ⟨g1, 0, none⟩) n c := hp 5 (by kernel_rfl)
                          clear hp hq
                          go_simp
                          exact hK _ _ (RelB.refl _) rfl
                        · refine opR_guard (j := 24) (d := 49) (c := true) rfl rfl (by kernel_rfl) rfl rfl (fun v W h => h) (fun _ => RelB.refl _) (fun hne => absurd rfl hne) fun hc aa W2 hB hp hq K hK => ?_
                          have e7 : aa.tmps[7]?.getD undef = .int .i64 (i : Int) := hp 7 (by kernel_rfl)
                          clear hp hq
                          go_simp
                          exact hK _ _ (RelB.refl _) rfl
                        · refine opR_guard (j := 24) (d := 49) (c := true) rfl rfl (by kernel_rfl) rfl rfl (fun v W h => h) (fun _ => RelB.refl _) (fun hne => absurd rfl hne) fun hc aa W2 hB hp hq K hK => ?_
                          have e50 : aa.tmps[50]?.getD undef = .slice (some ⟨g1, 0, none⟩) n c := hq 25 _ (by kernel_rfl) rfl
                          have e51 : aa.tmps[51]?.getD undef = .int .i64 (i : Int) := hq 26 _ (by kernel_rfl) rfl
                          clear hp hq
                          go_simp
                          exact hK _ _ (RelB.refl _) rfl
                        · refine opR_guard (j := 24) (d := 49) (c := true) rfl rfl (by kernel_rfl) rfl rfl (fun v W h => h) (fun _ => RelB.refl _) (fun hne => absurd rfl hne) fun hc aa W2 hB hp hq K hK => ?_
                          have e52 : aa.tmps[52]?.getD undef = .pointer (some ⟨g1, i * 4, none⟩) := hq 27 _ (by kernel_rfl) rfl
                          clear hp hq
                          go_simp
                          exact hK _ _ (RelB.refl _) rfl
                        · refine opR_guard (j := 24) (d := 49) (c := true) rfl rfl (by kernel_rfl) rfl rfl (fun v W h => h) (fun _ => RelB.refl _) (fun hne => absurd rfl hne) fun hc aa W2 hB hp hq K hK => ?_
                          have e53 : aa.tmps[53]?.getD undef = .pointer (some ⟨g1, i * 4 + 2, none⟩) := hq 28 _ (by kernel_rfl) rfl
                          have x2 := (World.cell?_of_block (a := ⟨g1, _, none⟩) (Below.block hB g1 hg1)).trans c12
                          clear hp hq
                          go_simp
                          exact hK _ _ (RelB.refl _) rfl
                        · refine opR_guard (j := 24) (d := 49) (c := true) rfl rfl (by kernel_rfl) rfl rfl (fun v W h => h) (fun _ => RelB.refl _) (fun hne => absurd rfl hne) fun hc aa W2 hB hp hq K hK => ?_
                          have e6 : aa.tmps[6]?.getD undef = .slice (some ⟨g2, 0, none⟩) m c2 := hp 6 (by kernel_rfl)
                          clear hp hq
                          go_simp
                          exact hK _ _ (RelB.refl _) rfl
                        · refine opR_guard (j := 24) (d := 49) (c := true) rfl rfl (by kernel_rfl) rfl rfl (fun v W h => h) (fun _ => RelB.refl _) (fun hne => absurd rfl hne) fun hc aa W2 hB hp hq K hK => ?_
                          have e8 : aa.tmps[8]?.getD undef = .int .i64 (k : Int) := hp 8 (by kernel_rfl)
                          clear hp hq
                          go_simp
                          exact hK _ _ (RelB.refl _) rfl
                        · refine opR_guard (j := 24) (d := 49) (c := true) rfl rfl (by kernel_rfl) rfl rfl (fun v W h => h) (fun _ => RelB.refl _) (fun hne => absurd rfl hne) fun hc aa W2 hB hp hq K hK => ?_
                          have e55 : aa.tmps[55]?.getD undef = .slice (some ⟨g2, 0, none⟩) m c2 := hq 30 _ (by kernel_rfl) rfl
                          have e56 : aa.tmps[56]?.getD undef = .int .i64 (k : Int) := hq 31 _ (by kernel_rfl) rfl
                          clear hp hq
                          go_simp
                          exact hK _ _ (RelB.refl _) rfl
                        · refine opR_guard (j := 24) (d := 49) (c := true) rfl rfl (by kernel_rfl) rfl rfl (fun v W h => h) (fun _ => RelB.refl _) (fun hne => absurd rfl hne) fun hc aa W2 hB hp hq K hK => ?_
                          have e57 : aa.tmps[57]?.getD undef = .pointer (some ⟨g2, k * 4, none⟩) := hq 32 _ (by kernel_rfl) rfl
                          clear hp hq
                          go_simp
                          exact hK _ _ (RelB.refl _) rfl
                        · refine opR_guard (j := 24) (d := 49) (c := true) rfl rfl (by kernel_rfl) rfl rfl (fun v W h => h) (fun _ => RelB.refl _) (fun hne => absurd rfl hne) fun hc aa W2 hB hp hq K hK => ?_
                          have e58 : aa.tmps[58]?.getD undef = .pointer (some ⟨g2, k * 4 + 2, none⟩) := hq 33 _ (by kernel_rfl) rfl
                          have y2 := (World.cell?_of_block (a := ⟨g2, _, none⟩) (Below.block hB g2 hg2)).trans d12
                          clear hp hq
                          go_simp
                          exact hK _ _ (RelB.refl _) rfl
                        · refine opR_guard (j := 24) (d := 49) (c := true) rfl rfl (by kernel_rfl) rfl rfl (fun v W h => h) (fun _ => RelB.refl _) (fun hne => absurd rfl hne) fun hc aa W2 hB hp hq K hK => ?_
                          have e54 : aa.tmps[54]?.getD undef = .string x.name := hq 29 _ (by kernel_rfl) rfl
                          have e59 : aa.tmps[59]?.getD undef = .string y.name := hq 34 _ (by kernel_rfl) rfl
                          clear hp hq
                          go_simp
                          exact hK _ _ (RelB.refl _) rfl
                        · refine opR_mk rfl fun aa W2 hB hp hq K hK => ?_
                          have e49 : aa.tmps[49]?.getD undef = .bool true := hq 24 _ (by kernel_rfl) rfl
                          have e60 : aa.tmps[60]?.getD undef = .bool true := hq 35 _ (by kernel_rfl) rfl
                          clear hp hq
                          go_simp
                          exact hK _ _ (RelB.refl _) rfl
                        · refine opR_mk rfl fun aa W2 hB hp hq K hK => ?_
                          have e61 : aa.tmps[61]?.getD undef = .bool true := hq 36 _ (by kernel_rfl) rfl
                          clear hp hq
                          go_simp
                          exact hK _ _ (RelB.refl _) rfl
                        · refine opR_guard (j := 37) (d := 62) (c := true) rfl rfl (by kernel_rfl) rfl rfl (fun v W h => h) (fun _ => RelB.refl _) (fun hne => absurd rfl hne) fun hc aa W2 hB hp hq K hK => ?_
                          have e5 : aa.tmps[5]?.getD undef = .slice (some ⟨g1, 0, none⟩) n c := hp 5 (by kernel_rfl)
                          clear hp hq
                          go_simp
                          exact hK _ _ (RelB.refl _) rfl
                        · refine opR_guard (j := 37) (d := 62) (c := true) rfl rfl (by kernel_rfl) rfl rfl (fun v W h => h) (fun _ => RelB.refl _) (fun hne => absurd rfl hne) fun hc aa W2 hB hp hq K hK => ?_
                          have e7 : aa.tmps[7]?.getD undef = .int .i64 (i : Int) := hp 7 (by kernel_rfl)
                          clear hp hq
                          go_simp
                          exact hK _ _ (RelB.refl _) rfl
                        · refine opR_guard (j := 37) (d := 62) (c := true) rfl rfl (by kernel_rfl) rfl rfl (fun v W h => h) (fun _ => RelB.refl _) (fun hne => absurd rfl hne) fun hc aa W2 hB hp hq K hK => ?_
                          have e63 : aa.tmps[63]?.getD undef = .slice (some ⟨g1, 0, none⟩) n c := hq 38 _ (by kernel_rfl) rfl
                          have e64 : aa.tmps[64]?.getD undef = .int .i64 (i : Int) := hq 39 _ (by kernel_rfl) rfl
                          clear hp hq
                          go_simp
                          exact hK _ _ (RelB.refl _) rfl
                        · refine opR_guard (j := 37) (d := 62) (c := true) rfl rfl (by kernel_rfl) rfl rfl (fun v W h => h) (fun _ => RelB.refl _) (fun hne => absurd rfl hne) fun hc aa W2 hB hp hq K hK => ?_
                          have e65 : aa.tmps[65]?.getD undef = .pointer (some ⟨g1, i * 4, none⟩) := hq 40 _ (by kernel_rfl) rfl
                          clear hp hq
                          go_simp
                          exact hK _ _ (RelB.refl _) rfl
                        · refine opR_guard (j := 37) (d := 62) (c := true) rfl rfl (by kernel_rfl) rfl rfl (fun v W h => h) (fun _ => RelB.refl _) (fun hne => absurd rfl hne) fun hc aa W2 hB hp hq K hK => ?_
                          have e66 : aa.tmps[66]?.getD undef = .pointer (some ⟨g1, i * 4 + 3, none⟩) := hq 41 _ (by kernel_rfl) rfl
                          have x3 := (World.cell?_of_block (a := ⟨g1, _, none⟩) (Below.block hB g1 hg1)).trans c13
                          clear hp hq
                          go_simp
                          exact hK _ _ (RelB.refl _) rfl
                        · refine opR_guard (j := 37) (d := 62) (c := true) rfl rfl (by kernel_rfl) rfl rfl (fun v W h => h) (fun _ => RelB.refl _) (fun hne => absurd rfl hne) fun hc aa W2 hB hp hq K hK => ?_
                          have e67 : aa.tmps[67]?.getD undef = .bool false := hq 42 _ (by kernel_rfl) rfl
                          clear hp hq
                          go_simp
                          exact hK _ _ (RelB.refl _) rfl
                        · refine opR_guard (j := 43) (d := 68) (c := false) rfl rfl (by kernel_rfl) rfl rfl (fun v W h => h) (fun _ => RelB.refl _) (fun hne => absurd rfl hne) fun hc aa W2 hB hp hq K hK => ?_
                          have e6 : aa.tmps[6]?.getD undef = .slice (some ⟨g2, 0, none⟩) m c2 := hp 6 (by kernel_rfl)
                          clear hp hq
                          go_simp
                          exact hK _ _ (RelB.refl _) rfl
                        · refine opR_guard (j := 43) (d := 68) (c := false) rfl rfl (by kernel_rfl) rfl rfl (fun v W h => h) (fun _ => RelB.refl _) (fun hne => absurd rfl hne) fun hc aa W2 hB hp hq K hK => ?_
                          have e8 : aa.tmps[8]?.getD undef = .int .i64 (k : Int) := hp 8 (by kernel_rfl)
                          clear hp hq
                          go_simp
                          exact hK _ _ (RelB.refl _) rfl
                        · refine opR_guard (j := 43) (d := 68) (c := false) rfl rfl (by kernel_rfl) rfl rfl (fun v W h => h) (fun _ => RelB.refl _) (fun hne => absurd rfl hne) fun hc aa W2 hB hp hq K hK => ?_
                          have e69 : aa.tmps[69]?.getD undef = .slice (some ⟨g2, 0, none⟩) m c2 := hq 44 _ (by kernel_rfl) rfl
                          have e70 : aa.tmps[70]?.getD undef = .int .i64 (k : Int) := hq 45 _ (by kernel_rfl) rfl
                          clear hp hq
                          go_simp
                          exact hK _ _ (RelB.refl _) rfl
                        · refine opR_guard (j := 43) (d := 68) (c := false) rfl rfl (by kernel_rfl) rfl rfl (fun v W h => h) (fun _ => RelB.refl _) (fun hne => absurd rfl hne) fun hc aa W2 hB hp hq K hK => ?_
                          have e71 : aa.tmps[71]?.getD undef = .pointer (some ⟨g2, k * 4, none⟩) := hq 46 _ (by kernel_rfl) rfl
                          clear hp hq
                          go_simp
                          exact hK _ _ (RelB.refl _) rfl
                        · refine opR_guard (j := 43) (d := 68) (c := false) rfl rfl (by kernel_rfl) rfl rfl (fun v W h => h) (fun _ => RelB.refl _) (fun hne => absurd rfl hne) fun hc aa W2 hB hp hq K hK => ?_
                          have e72 : aa.tmps[72]?.getD undef = .pointer (some ⟨g2, k * 4 + 3, none⟩) := hq 47 _ (by kernel_rfl) rfl
                          have y3 := (World.cell?_of_block (a := ⟨g2, _, none⟩) (Below.block hB g2 hg2)).trans d13
                          clear hp hq
                          go_simp
                          exact hK _ _ (RelB.refl _) rfl
                        · refine opR_guard (j := 37) (d := 62) (c := true) rfl rfl (by kernel_rfl) rfl rfl (fun v W h => h) (fun _ => RelB.refl _) (fun hne => absurd rfl hne) fun hc aa W2 hB hp hq K hK => ?_
                          have e68 : aa.tmps[68]?.getD undef = .bool false := hq 43 _ (by kernel_rfl) rfl
                          have e73 : aa.tmps[73]?.getD undef = .bool false := hq 48 _ (by kernel_rfl) rfl
                          clear hp hq
                          go_simp
                          exact hK _ _ (RelB.refl _) rfl
                        · refine opR_mk rfl fun aa W2 hB hp hq K hK => ?_
                          have e62 : aa.tmps[62]?.getD undef = .bool true := hq 37 _ (by kernel_rfl) rfl
                          have e74 : aa.tmps[74]?.getD undef = .bool false := hq 49 _ (by kernel_rfl) rfl
                          clear hp hq
                          go_simp
                          exact hK _ _ (RelB.refl _) rfl
                      · intro vs W3 hB3 hv3 _
                        have v50 : vs 50 = .bool false := hv3 50 _ rfl rfl
                        have HB3 : Hid (Below W0.heap.size W0 W3) := ptrans HK.out hB3
                        clear hB3 hv3
                        simp only [List.take_succ_cons, List.take_zero, putAll, Act.put, List.setIfInBounds_toArray, List.set_cons_succ, List.set_cons_zero, Nat.zero_add, Nat.reduceAdd, v50]
                        clear v50
                        go_wp2
                        go_roundw
                        case rel => exact ⟨k + 1, rfl, hk2, HB3, any_take_succ _ _ _ _ HY.out HP.out (by unfold meetPt; simp [h1, h2, HP3.out, h4, h5])⟩
                        case measure => simp only [intOf]; omega
                    · rw [h5] at d13
                      go_wp2
                      refine wp_region_rel RelB (phi [isV (.slice (some ⟨g1, 0, none⟩) n c), isV (.int .i64 (i : Int)), isV (.pointer (some ⟨g1, i * 4, none⟩)), isV (.pointer (some ⟨g1, i * 4, none⟩)), isV (.int .u8 x.kind), isV (.slice (some ⟨g2, 0, none⟩) m c2), isV (.int .i64 (k : Int)), isV (.pointer (some ⟨g2, k * 4, none⟩)), isV (.pointer (some ⟨g2, k * 4, none⟩)), isV (.int .u8 y.kind), isV (.bool true), isV (.bool true), isV (.slice (some ⟨g1, 0, none⟩) n c), isV (.int .i64 (i : Int)), isV (.pointer (some ⟨g1, i * 4, none⟩)), isV (.pointer (some ⟨g1, i * 4 + 1, none⟩)), isV (.int .u32 x.ino), isV (.slice (some ⟨g2, 0, none⟩) m c2), isV (.int .i64 (k : Int)), isV (.pointer (some ⟨g2, k * 4, none⟩)), isV (.pointer (some ⟨g2, k * 4 + 1, none⟩)), isV (.int .u32 y.ino), isV (.bool true), isV (.bool true), isV (.bool true), isV (.slice (some ⟨g1, 0, none⟩) n c), isV (.int .i64 (i : Int)), isV (.pointer (some ⟨g1, i * 4, none⟩)), isV (.pointer (some ⟨g1, i * 4 + 2, none⟩)), isV (.string x.name), isV (.slice (some ⟨g2, 0, none⟩) m c2), isV (.int .i64 (k : Int)), isV (.pointer (some ⟨g2, k * 4, none⟩)), isV (.pointer (some ⟨g2, k * 4 + 2, none⟩)), isV (.string y.name), isV (.bool true), isV (.bool true), isV (.bool true), isV (.slice (some ⟨g1, 0, none⟩) n c), isV (.int .i64 (i : Int)), isV (.pointer (some ⟨g1, i * 4, none⟩)), isV (.pointer (some ⟨g1, i * 4 + 3, none⟩)), isV (.bool false), isV (.bool false), isV (.slice (some ⟨g2, 0, none⟩) m c2), isV (.int .i64 (k : Int)), isV (.pointer (some ⟨g2, k * 4, none⟩)), isV (.pointer (some ⟨g2, k * 4 + 3, none⟩)), isV (.bool true), isV (.bool true), isV (.bool true)]) (by kernel_rfl) (by kernel_rfl) (by kernel_rfl) (RelB.of (below_drew _)) (fun _ _ _ a b => a.trans b) ?_ ?_ ?_
                      · refine stays_phiR ?_
                        simp only [List.forall_mem_cons]
                        exact ⟨fun _ _ _ h _ => h, fun _ _ _ h _ => h, fun _ _ _ h _ => h, fun _ _ _ h _ => h, fun _ _ _ h _ => h, fun _ _ _ h _ => h, fun _ _ _ h _ => h, fun _ _ _ h _ => h, fun _ _ _ h _ => h, fun _ _ _ h _ => h, fun _ _ _ h _ => h, fun _ _ _ h _ => h, fun _ _ _ h _ => h, fun _ _ _ h _ => h, fun _ _ _ h _ => h, fun _ _ _ h _ => h, fun _ _ _ h _ => h, fun _ _ _ h _ => h, fun _ _ _ h _ => h, fun _ _ _ h _ => h, fun _ _ _ h _ => h, fun _ _ _ h _ => h, fun _ _ _ h _ => h, fun _ _ _ h _ => h, fun _ _ _ h _ => h, fun _ _ _ h _ => h, fun _ _ _ h _ => h, fun _ _ _ h _ => h, fun _ _ _ h _ => h, fun _ _ _ h _ => h, fun _ _ _ h _ => h, fun _ _ _ h _ => h, fun _ _ _ h _ => h, fun _ _ _ h _ => h, fun _ _ _ h _ => h, fun _ _ _ h _ => h, fun _ _ _ h _ => h, fun _ _ _ h _ => h, fun _ _ _ h _ => h, fun _ _ _ h _ => h, fun _ _ _ h _ => h, fun _ _ _ h _ => h, fun _ _ _ h _ => h, fun _ _ _ h _ => h, fun _ _ _ h _ => h, fun _ _ _ h _ => h, fun _ _ _ h _ => h, fun _ _ _ h _ => h, fun _ _ _ h _ => h, fun _ _ _ h _ => h, fun _ _ _ h _ => h, fun _ h => absurd h (by simp)⟩
                      · refine ⟨?_, ?_, ?_, ?_, ?_, ?_, ?_, ?_, ?_, ?_, ?_, ?_, ?_, ?_, ?_, ?_, ?_, ?_, ?_, ?_, ?_, ?_, ?_, ?_, ?_, ?_, ?_, ?_, ?_, ?_, ?_, ?_, ?_, ?_, ?_, ?_, ?_, ?_, ?_, ?_, ?_, ?_, ?_, ?_, ?_, ?_, ?_, ?_, ?_, ?_, ?_, trivial⟩
                        · refine opR_mk rfl fun aa W2 hB hp hq K hK => ?_
                          have e5 : aa.tmps[5]?.getD undef = .slice (some ⟨g1, 0, none⟩) n c := hp 5 (by kernel_rfl)
                          clear hp hq
                          go_simp
                          exact hK _ _ (RelB.refl _) rfl
                        · refine opR_mk rfl fun aa W2 hB hp hq K hK => ?_
                          have e7 : aa.tmps[7]?.getD undef = .int .i64 (i : Int) := hp 7 (by kernel_rfl)
                          clear hp hq
                          go_simp
                          exact hK _ _ (RelB.refl _) rfl
                        · refine opR_mk rfl fun aa W2 hB hp hq K hK => ?_
                          have e25 : aa.tmps[25]?.getD undef = .slice (some ⟨g1, 0, none⟩) n c := hq 0 _ (by kernel_rfl) rfl
                          have e26 : aa.tmps[26]?.getD undef = .int .i64 (i : Int) := hq 1 _ (by kernel_rfl) rfl
                          clear hp hq
                          go_simp
                          exact hK _ _ (RelB.refl _) rfl
                        · refine opR_mk rfl fun aa W2 hB hp hq K hK => ?_
                          have e27 : aa.tmps[27]?.getD undef = .pointer (some ⟨g1, i * 4, none⟩) := hq 2 _ (by kernel_rfl) rfl
                          clear hp hq
                          go_simp
                          exact hK _ _ (RelB.refl _) rfl
                        · refine opR_mk rfl fun aa W2 hB hp hq K hK => ?_
                          have e28 : aa.tmps[28]?.getD undef = .pointer (some ⟨g1, i * 4, none⟩) := hq 3 _ (by kernel_rfl) rfl
                          have x0 := (World.cell?_of_block (a := ⟨g1, _, none⟩) (Below.block hB g1 hg1)).trans c10
                          clear hp hq
                          go_simp
                          exact hK _ _ (RelB.refl _) rfl
                        · refine opR_mk rfl fun aa W2 hB hp hq K hK => ?_
                          have e6 : aa.tmps[6]?.getD undef = .slice (some ⟨g2, 0, none⟩) m c2 := hp 6 (by kernel_rfl)
                          clear hp hq
                          go_simp
                          exact hK _ _ (RelB.refl _) rfl
                        · refine opR_mk rfl fun aa W2 hB hp hq K hK => ?_
                          have e8 : aa.tmps[8]?.getD undef = .int .i64 (k : Int) := hp 8 (by kernel_rfl)
                          clear hp hq
                          go_simp
                          exact hK _ _ (RelB.refl _) rfl
                        · refine opR_mk rfl fun aa W2 hB hp hq K hK => ?_
                          have e30 : aa.tmps[30]?.getD undef = .slice (some ⟨g2, 0, none⟩) m c2 := hq 5 _ (by kernel_rfl) rfl
                          have e31 : aa.tmps[31]?.getD undef = .int .i64 (k : Int) := hq 6 _ (by kernel_rfl) rfl
                          clear hp hq
                          go_simp
                          exact hK _ _ (RelB.refl _) rfl
                        · refine opR_mk rfl fun aa W2 hB hp hq K hK => ?_
                          have e32 : aa.tmps[32]?.getD undef = .pointer (some ⟨g2, k * 4, none⟩) := hq 7 _ (by kernel_rfl) rfl
                          clear hp hq
                          go_simp
                          exact hK _ _ (RelB.refl _) rfl
                        · refine opR_mk rfl fun aa W2 hB hp hq K hK => ?_
                          have e33 : aa.tmps[33]?.getD undef = .pointer (some ⟨g2, k * 4, none⟩) := hq 8 _ (by kernel_rfl) rfl
                          have y0 := (World.cell?_of_block (a := ⟨g2, _, none⟩) (Below.block hB g2 hg2)).trans d10
                          clear hp hq
                          go_simp
                          exact hK _ _ (RelB.refl _) rfl
                        · refine opR_mk rfl fun aa W2 hB hp hq K hK => ?_
                          have e29 : aa.tmps[29]?.getD undef = .int .u8 x.kind := hq 4 _ (by kernel_rfl) rfl
                          have e34 : aa.tmps[34]?.getD undef = .int .u8 y.kind := hq 9 _ (by kernel_rfl) rfl
                          clear hp hq
                          go_simp
                          exact hK _ _ (RelB.refl _) rfl
                        · refine opR_mk rfl fun aa W2 hB hp hq K hK => ?_
                          have e35 : aa.tmps[35]?.getD undef = .bool true := hq 10 _ (by kernel_rfl) rfl
                          clear hp hq
                          go_simp
                          exact hK _ _ (RelB.refl _) rfl
                        · refine opR_guard (j := 11) (d := 36) (c := true) rfl rfl (by kernel_rfl) rfl rfl (fun v W h => h) (fun _ => RelB.refl _) (fun hne => absurd rfl hne) fun hc aa W2 hB hp hq K hK => ?_
                          have e5 : aa.tmps[5]?.getD undef = .slice (some ⟨g1, 0, none⟩) n c := hp 5 (by kernel_rfl)
                          clear hp hq
                          go_simp
                          exact hK _ _ (RelB.refl _) rfl
                        · refine opR_guard (j := 11) (d := 36) (c := true) rfl rfl (by kernel_rfl) rfl rfl (fun v W h => h) (fun _ => RelB.refl _) (fun hne => absurd rfl hne) fun hc aa W2 hB hp hq K hK => ?_
                          have e7 : aa.tmps[7]?.getD undef = .int .i64 (i : Int) := hp 7 (by kernel_rfl)
                          clear hp hq
                          go_simp
                          exact hK _ _ (RelB.refl _) rfl
                        · refine opR_guard (j := 11) (d := 36) (c := true) rfl rfl (by kernel_rfl) rfl rfl (fun v W h => h) (fun _ => RelB.refl _) (fun hne => absurd rfl hne) fun hc aa W2 hB hp hq K hK => ?_
                          have e37 : aa.tmps[37]?.getD undef = .slice (some ⟨g1, 0, none⟩) n c := hq 12 _ (by kernel_rfl) rfl
                          have e38 : aa.tmps[38]?.getD undef = .int .i64 (i : Int) := hq 13 _ (by kernel_rfl) rfl
                          clear hp hq
                          go_simp
                          exact hK _ _ (RelB.refl _) rfl
                        · refine opR_guard (j := 11) (d := 36) (c := true) rfl rfl (by kernel_rfl) rfl rfl (fun v W h => h) (fun _ => RelB.refl _) (fun hne => absurd rfl hne) fun hc aa W2 hB hp hq K hK => ?_
                          have e39 : aa.tmps[39]?.getD undef = .pointer (some ⟨g1, i * 4, none⟩) := hq 14 _ (by kernel_rfl) rfl
                          clear hp hq
                          go_simp
                          exact hK _ _ (RelB.refl _) rfl
                        · refine opR_guard (j := 11) (d := 36) (c := true) rfl rfl (by kernel_rfl) rfl rfl (fun v W h => h) (fun _ => RelB.refl _) (fun hne => absurd rfl hne) fun hc aa W2 hB hp hq K hK => ?_
                          have e40 : aa.tmps[40]?.getD undef = .pointer (some ⟨g1, i * 4 + 1, none⟩) := hq 15 _ (by kernel_rfl) rfl
                          have x1 := (World.cell?_of_block (a := ⟨g1, _, none⟩) (Below.block hB g1 hg1)).trans c11
                          clear hp hq
                          go_simp
                          exact hK _ _ (RelB.refl _) rfl
                        · refine opR_guard (j := 11) (d := 36) (c := true) rfl rfl (by kernel_rfl) rfl rfl (fun v W h => h) (fun _ => RelB.refl _) (fun hne => absurd rfl hne) fun hc aa W2 hB hp hq K hK => ?_
                          have e6 : aa.tmps[6]?.getD undef = .slice (some ⟨g2, 0, none⟩) m c2 := hp 6 (by kernel_rfl)
                          clear hp hq
                          go_simp
                          exact hK _ _ (RelB.refl _) rfl
                        · refine opR_guard (j := 11) (d := 36) (c := true) rfl rfl (by kernel_rfl) rfl rfl (fun v W h => h) (fun _ => RelB.refl _) (fun hne => absurd rfl hne) fun hc aa W2 hB hp hq K hK => ?_
                          have e8 : aa.tmps[8]?.getD undef = .int .i64 (k : Int) := hp 8 (by kernel_rfl)
                          clear hp hq
                          go_simp
                          exact hK _ _ (RelB.refl _) rfl
                        · refine opR_guard (j := 11) (d := 36) (c := true) rfl rfl (by kernel_rfl) rfl rfl (fun v W h => h) (fun _ => RelB.refl _) (fun hne => absurd rfl hne) fun hc aa W2 hB hp hq K hK => ?_
                          have e42 : aa.tmps[42]?.getD undef = .slice (some ⟨g2, 0, none⟩) m c2 := hq 17 _ (by kernel_rfl) rfl
                          have e43 : aa.tmps[43]?.getD undef = .int .i64 (k : Int) := hq 18 _ (by kernel_rfl) rfl
                          clear hp hq
                          go_simp
                          exact hK _ _ (RelB.refl _) rfl
                        · refine opR_guard (j := 11) (d := 36) (c := true) rfl rfl (by kernel_rfl) rfl rfl (fun v W h => h) (fun _ => RelB.refl _) (fun hne => absurd rfl hne) fun hc aa W2 hB hp hq K hK => ?_
                          have e44 : aa.tmps[44]?.getD undef = .pointer (some ⟨g2, k * 4, none⟩) := hq 19 _ (by kernel_rfl) rfl
                          clear hp hq
                          go_simp
                          exact hK _ _ (RelB.refl _) rfl
                        · refine opR_guard (j := 11) (d := 36) (c := true) rfl rfl (by kernel_rfl) rfl rfl (fun v W h => h) (fun _ => RelB.refl _) (fun hne => absurd rfl hne) fun hc aa W2 hB hp hq K hK => ?_
                          have e45 : aa.tmps[45]?.getD undef = .pointer (some ⟨g2, k * 4 + 1, none⟩) := hq 20 _ (by kernel_rfl) rfl
                          have y1 := (World.cell?_of_block (a := ⟨g2, _, none⟩) (Below.block hB g2 hg2)).trans d11
                          clear hp hq
                          go_simp
                          exact hK _ _ (RelB.refl _) rfl
                        · refine opR_guard (j := 11) (d := 36) (c := true) rfl rfl (by kernel_rfl) rfl rfl (fun v W h => h) (fun _ => RelB.refl _) (fun hne => absurd rfl hne) fun hc aa W2 hB hp hq K hK => ?_
                          have e41 : aa.tmps[41]?.getD undef = .int .u32 x.ino := hq 16 _ (by kernel_rfl) rfl
                          have e46 : aa.tmps[46]?.getD undef = .int .u32 y.ino := hq 21 _ (by kernel_rfl) rfl
                          clear hp hq
                          go_simp
                          exact hK _ _ (RelB.refl _) rfl
                        · refine opR_mk rfl fun aa W2 hB hp hq K hK => ?_
                          have e36 : aa.tmps[36]?.getD undef = .bool true := hq 11 _ (by kernel_rfl) rfl
                          have e47 : aa.tmps[47]?.getD undef = .bool true := hq 22 _ (by kernel_rfl) rfl
                          clear hp hq
                          go_simp
                          exact hK _ _ (RelB.refl _) rfl
                        · refine opR_mk rfl fun aa W2 hB hp hq K hK => ?_
                          have e48 : aa.tmps[48]?.getD undef = .bool true := hq 23 _ (by kernel_rfl) rfl
                          clear hp hq
                          go_simp
                          exact hK _ _ (RelB.refl _) rfl
                        · refine opR_guard (j := 24) (d := 49) (c := true) rfl rfl (by kernel_rfl) rfl rfl (fun v W h => h) (fun _ => RelB.refl _) (fun hne => absurd rfl hne) fun hc aa W2 hB hp hq K hK => ?_
                          have e5 : aa.tmps[5]?.getD undef = .slice (some ⟨g1, 0, none⟩) n c := hp 5 (by kernel_rfl)
                          clear hp hq
                          go_simp
                          exact hK _ _ (RelB.refl _) rfl
                        · refine opR_guard (j := 24) (d := 49) (c := true) rfl rfl (by kernel_rfl) rfl rfl (fun v W h => h) (fun _ => RelB.refl _) (fun hne => absurd rfl hne) fun hc aa W2 hB hp hq K hK => ?_
                          have e7 : aa.tmps[7]?.getD undef = .int .i64 (i : Int) := hp 7 (by kernel_rfl)
                          clear hp hq
                          go_simp
                          exact hK _ _ (RelB.refl _) rfl
                        · refine opR_guard (j := 24) (d := 49) (c := true) rfl rfl (by kernel_rfl) rfl rfl (fun v W h => h) (fun _ => RelB.refl _) (fun hne => absurd rfl hne) fun hc aa W2 hB hp hq K hK => ?_
                          have e50 : aa.tmps[50]?.getD undef = .slice (some ⟨g1, 0, none⟩) n c := hq 25 _ (by kernel_rfl) rfl
                          have e51 : aa.tmps[51]?.getD undef = .int .i64 (i : Int) := hq 26 _ (by kernel_rfl) rfl
                          clear hp hq
                          go_simp
                          exact hK _ _ (RelB.refl _) rfl
                        · refine opR_guard (j := 24) (d := 49) (c := true) rfl rfl (by kernel_rfl) rfl rfl (fun v W h => h) (fun _ => RelB.refl _) (fun hne => absurd rfl hne) fun hc aa W2 hB hp hq K hK => ?_
                          have e52 : aa.tmps[52]?.getD undef = .pointer (some ⟨g1, i * 4, none⟩) := hq 27 _ (by kernel_rfl) rfl
                          clear hp hq
                          go_simp
                          exact hK _ _ (RelB.refl _) rfl
                        · refine opR_guard (j := 24) (d := 49) (c := true) rfl rfl (by kernel_rfl) rfl rfl (fun v W h => h) (fun _ => RelB.refl _) (fun hne => absurd rfl hne) fun hc aa W2 hB hp hq K hK => ?_
                          have e53 : aa.tmps[53]?.getD undef = .pointer (some ⟨g1, i * 4 + 2, none⟩) := hq 28 _ (by kernel_rfl) rfl
                          have x2 := (World.cell?_of_block (a := ⟨g1, _, none⟩) (Below.block hB g1 hg1)).trans c12
                          clear hp hq
                          go_simp
                          exact hK _ _ (RelB.refl _) rfl
                        · refine opR_guard (j := 24) (d := 49) (c := true) rfl rfl (by kernel_rfl) rfl rfl (fun v W h => h) (fun _ => RelB.refl _) (fun hne => absurd rfl hne) fun hc aa W2 hB hp hq K hK => ?_
                          have e6 : aa.tmps[6]?.getD undef = .slice (some ⟨g2, 0, none⟩) m c2 := hp 6 (by kernel_rfl)
                          clear hp hq
                          go_simp
                          exact hK _ _ (RelB.refl _) rfl
                        · refine opR_guard (j := 24) (d := 49) (c := true) rfl rfl (by kernel_rfl) rfl rfl (fun v W h => h) (fun _ => RelB.refl _) (fun hne => absurd rfl hne) fun hc aa W2 hB hp hq K hK => ?_
                          have e8 : aa.tmps[8]?.getD undef = .int .i64 (k : Int) := hp 8 (by kernel_rfl)
                          clear hp hq
                          go_simp
                          exact hK _ _ (RelB.refl _) rfl
                        · refine opR_guard (j := 24) (d := 49) (c := true) rfl rfl (by kernel_rfl) rfl rfl (fun v W h => h) (fun _ => RelB.refl _) (fun hne => absurd rfl hne) fun hc aa W2 hB hp hq K hK => ?_
                          have e55 : aa.tmps[55]?.getD undef = .slice (some ⟨g2, 0, none⟩) m c2 := hq 30 _ (by kernel_rfl) rfl
                          have e56 : aa.tmps[56]?.getD undef = .int .i64 (k : Int) := hq 31 _ (by kernel_rfl) rfl
                          clear hp hq
                          go_simp
                          exact hK _ _ (RelB.refl _) rfl
                        · refine opR_guard (j := 24) (d := 49) (c := true) rfl rfl (by kernel_rfl) rfl rfl (fun v W h => h) (fun _ => RelB.refl _) (fun hne => absurd rfl hne) fun hc aa W2 hB hp hq K hK => ?_
                          have e57 : aa.tmps[57]?.getD undef = .pointer (some ⟨g2, k * 4, none⟩) := hq 32 _ (by kernel_rfl) rfl
                          clear hp hq
                          go_simp
                          exact hK _ _ (RelB.refl _) rfl
                        · refine opR_guard (j := 24) (d := 49) (c := true) rfl rfl (by kernel_rfl) rfl rfl (fun v W h => h) (fun _ => RelB.refl _) (fun hne => absurd rfl hne) fun hc aa W2 hB hp hq K hK => ?_
                          have e58 : aa.tmps[58]?.getD undef = .pointer (some ⟨g2, k * 4 + 2, none⟩) := hq 33 _ (by kernel_rfl) rfl
                          have y2 := (World.cell?_of_block (a := ⟨g2, _, none⟩) (Below.block hB g2 hg2)).trans d12
                          clear hp hq
                          go_simp
                          exact hK _ _ (RelB.refl _) rfl
                        · refine opR_guard (j := 24) (d := 49) (c := true) rfl rfl (by kernel_rfl) rfl rfl (fun v W h => h) (fun _ => RelB.refl _) (fun hne => absurd rfl hne) fun hc aa W2 hB hp hq K hK => ?_
                          have e54 : aa.tmps[54]?.getD undef = .string x.name := hq 29 _ (by kernel_rfl) rfl
                          have e59 : aa.tmps[59]?.getD undef = .string y.name := hq 34 _ (by kernel_rfl) rfl
                          clear hp hq
                          go_simp
                          exact hK _ _ (RelB.refl _) rfl
                        · refine opR_mk rfl fun aa W2 hB hp hq K hK => ?_
                          have e49 : aa.tmps[49]?.getD undef = .bool true := hq 24 _ (by kernel_rfl) rfl
                          have e60 : aa.tmps[60]?.getD undef = .bool true := hq 35 _ (by kernel_rfl) rfl
                          clear hp hq
                          go_simp
                          exact hK _ _ (RelB.refl _) rfl
                        · refine opR_mk rfl fun aa W2 hB hp hq K hK => ?_
                          have e61 : aa.tmps[61]?.getD undef = .bool true := hq 36 _ (by kernel_rfl) rfl
                          clear hp hq
                          go_simp
                          exact hK _ _ (RelB.refl _) rfl
                        · refine opR_guard (j := 37) (d := 62) (c := true) rfl rfl (by kernel_rfl) rfl rfl (fun v W h => h) (fun _ => RelB.refl _) (fun hne => absurd rfl hne) fun hc aa W2 hB hp hq K hK => ?_
                          have e5 : aa.tmps[5]?.getD undef = .slice (some ⟨g1, 0, none⟩) n c := hp 5 (by kernel_rfl)
                          clear hp hq
                          go_simp
                          exact hK _ _ (RelB.refl _) rfl
                        · refine opR_guard (j := 37) (d := 62) (c := true) rfl rfl (by kernel_rfl) rfl rfl (fun v W h => h) (fun _ => RelB.refl _) (fun hne => absurd rfl hne) fun hc aa W2 hB hp hq K hK => ?_
                          have e7 : aa.tmps[7]?.getD undef = .int .i64 (i : Int) := hp 7 (by kernel_rfl)
                          clear hp hq
                          go_simp
                          exact hK _ _ (RelB.refl _) rfl
                        · refine opR_guard (j := 37) (d := 62) (c := true) rfl rfl (by kernel_rfl) rfl rfl (fun v W h => h) (fun _ => RelB.refl _) (fun hne => absurd rfl hne) fun hc aa W2 hB hp hq K hK => ?_
                          have e63 : aa.tmps[63]?.getD undef = .slice (some ⟨g1, 0, none⟩) n c := hq 38 _ (by kernel_rfl) rfl
                          have e64 : aa.tmps[64]?.getD undef = .int .i64 (i : Int) := hq 39 _ (by kernel_rfl) rfl
                          clear hp hq
                          go_simp
                          exact hK _ _ (RelB.refl _) rfl
                        · refine opR_guard (j := 37) (d := 62) (c := true) rfl rfl (by kernel_rfl) rfl rfl (fun v W h => h) (fun _ => RelB.refl _) (fun hne => absurd rfl hne) fun hc aa W2 hB hp hq K hK => ?_
                          have e65 : aa.tmps[65]?.getD undef = .pointer (some ⟨g1, i * 4, none⟩) := hq 40 _ (by kernel_rfl) rfl
                          clear hp hq
                          go_simp
                          exact hK _ _ (RelB.refl _) rfl
                        · refine opR_guard (j := 37) (d := 62) (c := true) rfl rfl (by kernel_rfl) rfl rfl (fun v W h => h) (fun _ => RelB.refl _) (fun hne => absurd rfl hne) fun hc aa W2 hB hp hq K hK => ?_
                          have e66 : aa.tmps[66]?.getD undef = .pointer (some ⟨g1, i * 4 + 3, none⟩) := hq 41 _ (by kernel_rfl) rfl
                          have x3 := (World.cell?_of_block (a := ⟨g1, _, none⟩) (Below.block hB g1 hg1)).trans c13
                          clear hp hq
                          go_simp
                          exact hK _ _ (RelB.refl _) rfl
                        · refine opR_guard (j := 37) (d := 62) (c := true) rfl rfl (by kernel_rfl) rfl rfl (fun v W h => h) (fun _ => RelB.refl _) (fun hne => absurd rfl hne) fun hc aa W2 hB hp hq K hK => ?_
                          have e67 : aa.tmps[67]?.getD undef = .bool false := hq 42 _ (by kernel_rfl) rfl
                          clear hp hq
                          go_simp
                          exact hK _ _ (RelB.refl _) rfl
                        · refine opR_guard (j := 43) (d := 68) (c := false) rfl rfl (by kernel_rfl) rfl rfl (fun v W h => h) (fun _ => RelB.refl _) (fun hne => absurd rfl hne) fun hc aa W2 hB hp hq K hK => ?_
                          have e6 : aa.tmps[6]?.getD undef = .slice (some ⟨g2, 0, none⟩) m c2 := hp 6 (by kernel_rfl)
                          clear hp hq
                          go_simp
                          exact hK _ _ (RelB.refl _) rfl
                        · refine opR_guard (j := 43) (d := 68) (c := false) rfl rfl (by kernel_rfl) rfl rfl (fun v W h => h) (fun _ => RelB.refl _) (fun hne => absurd rfl hne) fun hc aa W2 hB hp hq K hK => ?_
                          have e8 : aa.tmps[8]?.getD undef = .int .i64 (k : Int) := hp 8 (by kernel_rfl)
                          clear hp hq
                          go_simp
                          exact hK _ _ (RelB.refl _) rfl
                        · refine opR_guard (j := 43) (d := 68) (c := false) rfl rfl (by kernel_rfl) rfl rfl (fun v W h => h) (fun _ => RelB.refl _) (fun hne => absurd rfl hne) fun hc aa W2 hB hp hq K hK => ?_
                          have e69 : aa.tmps[69]?.getD undef = .slice (some ⟨g2, 0, none⟩) m c2 := hq 44 _ (by kernel_rfl) rfl
                          have e70 : aa.tmps[70]?.getD undef = .int .i64 (k : Int) := hq 45 _ (by kernel_rfl) rfl
                          clear hp hq
                          go_simp
                          exact hK _ _ (RelB.refl _) rfl
                        · refine opR_guard (j := 43) (d := 68) (c := false) rfl rfl (by kernel_rfl) rfl rfl (fun v W h => h) (fun _ => RelB.refl _) (fun hne => absurd rfl hne) fun hc aa W2 hB hp hq K hK => ?_
                          have e71 : aa.tmps[71]?.getD undef = .pointer (some ⟨g2, k * 4, none⟩) := hq 46 _ (by kernel_rfl) rfl
                          clear hp hq
                          go_simp
                          exact hK _ _ (RelB.refl _) rfl
                        · refine opR_guard (j := 43) (d := 68) (c := false) rfl rfl (by kernel_rfl) rfl rfl (fun v W h => h) (fun _ => RelB.refl _) (fun hne => absurd rfl hne) fun hc aa W2 hB hp hq K hK => ?_
                          have e72 : aa.tmps[72]?.getD undef = .pointer (some ⟨g2, k * 4 + 3, none⟩) := hq 47 _ (by kernel_rfl) rfl
                          have y3 := (World.cell?_of_block (a := ⟨g2, _, none⟩) (Below.block hB g2 hg2)).trans d13
                          clear hp hq
                          go_simp
                          exact hK _ _ (RelB.refl _) rfl
                        · refine opR_guard (j := 37) (d := 62) (c := true) rfl rfl (by kernel_rfl) rfl rfl (fun v W h => h) (fun _ => RelB.refl _) (fun hne => absurd rfl hne) fun hc aa W2 hB hp hq K hK => ?_
                          have e68 : aa.tmps[68]?.getD undef = .bool false := hq 43 _ (by kernel_rfl) rfl
                          have e73 : aa.tmps[73]?.getD undef = .bool true := hq 48 _ (by kernel_rfl) rfl
                          clear hp hq
                          go_simp
                          exact hK _ _ (RelB.refl _) rfl
                        · refine opR_mk rfl fun aa W2 hB hp hq K hK => ?_
                          have e62 : aa.tmps[62]?.getD undef = .bool true := hq 37 _ (by kernel_rfl) rfl
                          have e74 : aa.tmps[74]?.getD undef = .bool true := hq 49 _ (by kernel_rfl) rfl
                          clear hp hq
                          go_simp
                          exact hK _ _ (RelB.refl _) rfl
                      · intro vs W3 hB3 hv3 _
                        have v50 : vs 50 = .bool true := hv3 50 _ rfl rfl
                        have HB3 : Hid (Below W0.heap.size W0 W3) := ptrans HK.out hB3
                        clear hB3 hv3
                        simp only [List.take_succ_cons, List.take_zero, putAll, Act.put, List.setIfInBounds_toArray, List.set_cons_succ, List.set_cons_zero, Nat.zero_add, Nat.reduceAdd, v50]
                        clear v50
                        have hf : Hid (true = res) := by
                          show true = res
                          rw [← HRES.out]
                          exact (any_at _ _ _ _ HX.out (any_at _ _ _ _ HY.out (by unfold meetPt; simp [h1, h2, HP3.out, h4, h5]))).symm
                        go_wp2
                        go_ret
                        exact ⟨pret_bool hf.out, ptrans HB2.out HB3.out⟩
                  · rw [h4] at c13
                    go_wp2
                    refine wp_region_rel RelB (phi [isV (.slice (some ⟨g1, 0, none⟩) n c), isV (.int .i64 (i : Int)), isV (.pointer (some ⟨g1, i * 4, none⟩)), isV (.pointer (some ⟨g1, i * 4, none⟩)), isV (.int .u8 x.kind), isV (.slice (some ⟨g2, 0, none⟩) m c2), isV (.int .i64 (k : Int)), isV (.pointer (some ⟨g2, k * 4, none⟩)), isV (.pointer (some ⟨g2, k * 4, none⟩)), isV (.int .u8 y.kind), isV (.bool true), isV (.bool true), isV (.slice (some ⟨g1, 0, none⟩) n c), isV (.int .i64 (i : Int)), isV (.pointer (some ⟨g1, i * 4, none⟩)), isV (.pointer (some ⟨g1, i * 4 + 1, none⟩)), isV (.int .u32 x.ino), isV (.slice (some ⟨g2, 0, none⟩) m c2), isV (.int .i64 (k : Int)), isV (.pointer (some ⟨g2, k * 4, none⟩)), isV (.pointer (some ⟨g2, k * 4 + 1, none⟩)), isV (.int .u32 y.ino), isV (.bool true), isV (.bool true), isV (.bool true), isV (.slice (some ⟨g1, 0, none⟩) n c), isV (.int .i64 (i : Int)), isV (.pointer (some ⟨g1, i * 4, none⟩)), isV (.pointer (some ⟨g1, i * 4 + 2, none⟩)), isV (.string x.name), isV (.slice (some ⟨g2, 0, none⟩) m c2), isV (.int .i64 (k : Int)), isV (.pointer (some ⟨g2, k * 4, none⟩)), isV (.pointer (some ⟨g2, k * 4 + 2, none⟩)), isV (.string y.name), isV (.bool true), isV (.bool true), isV (.bool true), isV (.slice (some ⟨g1, 0, none⟩) n c), isV (.int .i64 (i : Int)), isV (.pointer (some ⟨g1, i * 4, none⟩)), isV (.pointer (some ⟨g1, i * 4 + 3, none⟩)), isV (.bool true), isV (.bool true), (fun _ _ => True), (fun _ _ => True), (fun _ _ => True), (fun _ _ => True), (fun _ _ => True), isV (.bool true), isV (.bool true)]) (by kernel_rfl) (by kernel_rfl) (by kernel_rfl) (RelB.of (below_drew _)) (fun _ _ _ a b => a.trans b) ?_ ?_ ?_
                    · refine stays_phiR ?_
                      simp only [List.forall_mem_cons]
                      exact ⟨fun _ _ _ h _ => h, fun _ _ _ h _ => h, fun _ _ _ h _ => h, fun _ _ _ h _ => h, fun _ _ _ h _ => h, fun _ _ _ h _ => h, fun _ _ _ h _ => h, fun _ _ _ h _ => h, fun _ _ _ h _ => h, fun _ _ _ h _ => h, fun _ _ _ h _ => h, fun _ _ _ h _ => h, fun _ _ _ h _ => h, fun _ _ _ h _ => h, fun _ _ _ h _ => h, fun _ _ _ h _ => h, fun _ _ _ h _ => h, fun _ _ _ h _ => h, fun _ _ _ h _ => h, fun _ _ _ h _ => h, fun _ _ _ h _ => h, fun _ _ _ h _ => h, fun _ _ _ h _ => h, fun _ _ _ h _ => h, fun _ _ _ h _ => h, fun _ _ _ h _ => h, fun _ _ _ h _ => h, fun _ _ _ h _ => h, fun _ _ _ h _ => h, fun _ _ _ h _ => h, fun _ _ _ h _ => h, fun _ _ _ h _ => h, fun _ _ _ h _ => h, fun _ _ _ h _ => h, fun _ _ _ h _ => h, fun _ _ _ h _ => h, fun _ _ _ h _ => h, fun _ _ _ h _ => h, fun _ _ _ h _ => h, fun _ _ _ h _ => h, fun _ _ _ h _ => h, fun _ _ _ h _ => h, fun _ _ _ h _ => h, fun _ _ _ h _ => h, fun _ _ _ _ _ => trivial, fun _ _ _ _ _ => trivial, fun _ _ _ _ _ => trivial, fun _ _ _ _ _ => trivial, fun _ _ _ _ _ => trivial, fun _ _ _ h _ => h, fun _ _ _ h _ => h, fun _ h => absurd h (by simp)⟩
                    · refine ⟨?_, ?_, ?_, ?_, ?_, ?_, ?_, ?_, ?_, ?_, ?_, ?_, ?_, ?_, ?_, ?_, ?_, ?_, ?_, ?_, ?_, ?_, ?_, ?_, ?_, ?_, ?_, ?_, ?_, ?_, ?_, ?_, ?_, ?_, ?_, ?_, ?_, ?_, ?_, ?_, ?_, ?_, ?_, ?_, ?_, ?_, ?_, ?_, ?_, ?_, ?_, trivial⟩
                      · refine opR_mk rfl fun aa W2 hB hp hq K hK => ?_
                        have e5 : aa.tmps[5]?.getD undef = .slice (some ⟨g1, 0, none⟩) n c := hp 5 (by kernel_rfl)
                        clear hp hq
                        go_simp
                        exact hK _ _ (RelB.refl _) rfl
                      · refine opR_mk rfl fun aa W2 hB hp hq K hK => ?_
                        have e7 : aa.tmps[7]?.getD undef = .int .i64 (i : Int) := hp 7 (by kernel_rfl)
                        clear hp hq
                        go_simp
                        exact hK _ _ (RelB.refl _) rfl
                      · refine opR_mk rfl fun aa W2 hB hp hq K hK => ?_
                        have e25 : aa.tmps[25]?.getD undef = .slice (some ⟨g1, 0, none⟩) n c := hq 0 _ (by kernel_rfl) rfl
                        have e26 : aa.tmps[26]?.getD undef = .int .i64 (i : Int) := hq 1 _ (by kernel_rfl) rfl
                        clear hp hq
                        go_simp
                        exact hK _ _ (RelB.refl _) rfl
                      · refine opR_mk rfl fun aa W2 hB hp hq K hK => ?_
                        have e27 : aa.tmps[27]?.getD undef = .pointer (some ⟨g1, i * 4, none⟩) := hq 2 _ (by kernel_rfl) rfl
                        clear hp hq
                        go_simp
                        exact hK _ _ (RelB.refl _) rfl
                      · refine opR_mk rfl fun aa W2 hB hp hq K hK => ?_
                        have e28 : aa.tmps[28]?.getD undef = .pointer (some ⟨g1, i * 4, none⟩) := hq 3 _ (by kernel_rfl) rfl
                        have x0 := (World.cell?_of_block (a := ⟨g1, _, none⟩) (Below.block hB g1 hg1)).trans c10
                        clear hp hq
                        go_simp
                        exact hK _ _ (RelB.refl _) rfl
                      · refine opR_mk rfl fun aa W2 hB hp hq K hK => ?_
                        have e6 : aa.tmps[6]?.getD undef = .slice (some ⟨g2, 0, none⟩) m c2 := hp 6 (by kernel_rfl)
                        clear hp hq
                        go_simp
                        exact hK _ _ (RelB.refl _) rfl
                      · refine opR_mk rfl fun aa W2 hB hp hq K hK => ?_
                        have e8 : aa.tmps[8]?.getD undef = .int .i64 (k : Int) := hp 8 (by kernel_rfl)
                        clear hp hq
                        go_simp
                        exact hK _ _ (RelB.refl _) rfl
                      · refine opR_mk rfl fun aa W2 hB hp hq K hK => ?_
                        have e30 : aa.tmps[30]?.getD undef = .slice (some ⟨g2, 0, none⟩) m c2 := hq 5 _ (by kernel_rfl) rfl
                        have e31 : aa.tmps[31]?.getD undef = .int .i64 (k : Int) := hq 6 _ (by kernel_rfl) rfl
                        clear hp hq
                        go_simp
                        exact hK _ _ (RelB.refl _) rfl
                      · refine opR_mk rfl fun aa W2 hB hp hq K hK => ?_
                        have e32 : aa.tmps[32]?.getD undef = .pointer (some ⟨g2, k * 4, none⟩) := hq 7 _ (by kernel_rfl) rfl
                        clear hp hq
                        go_simp
                        exact hK _ _ (RelB.refl _) rfl
                      · refine opR_mk rfl fun aa W2 hB hp hq K hK => ?_
                        have e33 : aa.tmps[33]?.getD undef = .pointer (some ⟨g2, k * 4, none⟩) := hq 8 _ (by kernel_rfl) rfl
                        have y0 := (World.cell?_of_block (a := ⟨g2, _, none⟩) (Below.block hB g2 hg2)).trans d10
                        clear hp hq
                        go_simp
                        exact hK _ _ (RelB.refl _) rfl
                      · refine opR_mk rfl fun aa W2 hB hp hq K hK => ?_
                        have e29 : aa.tmps[29]?.getD undef = .int .u8 x.kind := hq 4 _ (by kernel_rfl) rfl
                        have e34 : aa.tmps[34]?.getD undef = .int .u8 y.kind := hq 9 _ (by kernel_rfl) rfl
                        clear hp hq
                        go_simp
                        exact hK _ _ (RelB.refl _) rfl
                      · refine opR_mk rfl fun aa W2 hB hp hq K hK => ?_
                        have e35 : aa.tmps[35]?.getD undef = .bool true := hq 10 _ (by kernel_rfl) rfl
                        clear hp hq
                        go_simp
                        exact hK _ _ (RelB.refl _) rfl
                      · refine opR_guard (j := 11) (d := 36) (c := true) rfl rfl (by kernel_rfl) rfl rfl (fun v W h => h) (fun _ => RelB.refl _) (fun hne => absurd rfl hne) fun hc aa W2 hB hp hq K hK => ?_
                        have e5 : aa.tmps[5]?.getD undef = .slice (some ⟨g1, 0, none⟩) n c := hp 5 (by kernel_rfl)
                        clear hp hq
                        go_simp
                        exact hK _ _ (RelB.refl _) rfl
                      · refine opR_guard (j := 11) (d := 36) (c := true) rfl rfl (by kernel_rfl) rfl rfl (fun v W h => h) (fun _ => RelB.refl _) (fun hne => absurd rfl hne) fun hc aa W2 hB hp hq K hK => ?_
                        have e7 : aa.tmps[7]?.getD undef = .int .i64 (i : Int) := hp 7 (by kernel_rfl)
                        clear hp hq
                        go_simp
                        exact hK _ _ (RelB.refl _) rfl
                      · refine opR_guard (j := 11) (d := 36) (c := true) rfl rfl (by kernel_rfl) rfl rfl (fun v W h => h) (fun _ => RelB.refl _) (fun hne => absurd rfl hne) fun hc aa W2 hB hp hq K hK => ?_
                        have e37 : aa.tmps[37]?.getD undef = .slice (some ⟨g1, 0, none⟩) n c := hq 12 _ (by kernel_rfl) rfl
                        have e38 : aa.tmps[38]?.getD undef = .int .i64 (i : Int) := hq 13 _ (by kernel_rfl) rfl
                        clear hp hq
                        go_simp
                        exact hK _ _ (RelB.refl _) rfl
                      · refine opR_guard (j := 11) (d := 36) (c := true) rfl rfl (by kernel_rfl) rfl rfl (fun v W h => h) (fun _ => RelB.refl _) (fun hne => absurd rfl hne) fun hc aa W2 hB hp hq K hK => ?_
                        have e39 : aa.tmps[39]?.getD undef = .pointer (some ⟨g1, i * 4, none⟩) := hq 14 _ (by kernel_rfl) rfl
                        clear hp hq
                        go_simp
                        exact hK _ _ (RelB.refl _) rfl
                      · refine opR_guard (j := 11) (d := 36) (c := true) rfl rfl (by kernel_rfl) rfl rfl (fun v W h => h) (fun _ => RelB.refl _) (fun hne => absurd rfl hne) fun hc aa W2 hB hp hq K hK => ?_
                        have e40 : aa.tmps[40]?.getD undef = .pointer (some ⟨g1, i * 4 + 1, none⟩) := hq 15 _ (by kernel_rfl) rfl
                        have x1 := (World.cell?_of_block (a := ⟨g1, _, none⟩) (Below.block hB g1 hg1)).trans c11
                        clear hp hq
                        go_simp
                        exact hK _ _ (RelB.refl _) rfl
                      · refine opR_guard (j := 11) (d := 36) (c := true) rfl rfl (by kernel_rfl) rfl rfl (fun v W h => h) (fun _ => RelB.refl _) (fun hne => absurd rfl hne) fun hc aa W2 hB hp hq K hK => ?_
                        have e6 : aa.tmps[6]?.getD undef = .slice (some ⟨g2, 0, none⟩) m c2 := hp 6 (by kernel_rfl)
                        clear hp hq
                        go_simp
                        exact hK _ _ (RelB.refl _) rfl
                      · refine opR_guard (j := 11) (d := 36) (c := true) rfl rfl (by kernel_rfl) rfl rfl (fun v W h => h) (fun _ => RelB.refl _) (fun hne => absurd rfl hne) fun hc aa W2 hB hp hq K hK => ?_
                        have e8 : aa.tmps[8]?.getD undef = .int .i64 (k : Int) := hp 8 (by kernel_rfl)
                        clear hp hq
                        go_simp
                        exact hK _ _ (RelB.refl _) rfl
                      · refine opR_guard (j := 11) (d := 36) (c := true) rfl rfl (by kernel_rfl) rfl rfl (fun v W h => h) (fun _ => RelB.refl _) (fun hne => absurd rfl hne) fun hc aa W2 hB hp hq K hK => ?_
                        have e42 : aa.tmps[42]?.getD undef = .slice (some ⟨g2, 0, none⟩) m c2 := hq 17 _ (by kernel_rfl) rfl
                        have e43 : aa.tmps[43]?.getD undef = .int .i64 (k : Int) := hq 18 _ (by kernel_rfl) rfl
                        clear hp hq
                        go_simp
                        exact hK _ _ (RelB.refl _) rfl
                      · refine opR_guard (j := 11) (d := 36) (c := true) rfl rfl (by kernel_rfl) rfl rfl (fun v W h => h) (fun _ => RelB.refl _) (fun hne => absurd rfl hne) fun hc aa W2 hB hp hq K hK => ?_
                        have e44 : aa.tmps[44]?.getD undef = .pointer (some ⟨g2, k * 4, none⟩) := hq 19 _ (by kernel_rfl) rfl
                        clear hp hq
                        go_simp
                        exact hK _ _ (RelB.refl _) rfl
                      · refine opR_guard (j := 11) (d := 36) (c := true) rfl rfl (by kernel_rfl) rfl rfl (fun v W h => h) (fun _ => RelB.refl _) (fun hne => absurd rfl hne) fun hc aa W2 hB hp hq K hK => ?_
                        have e45 : aa.tmps[45]?.getD undef = .pointer (some ⟨g2, k * 4 + 1, none⟩) := hq 20 _ (by kernel_rfl) rfl
                        have y1 := (World.cell?_of_block (a := ⟨g2, _, none⟩) (Below.block hB g2 hg2)).trans d11
                        clear hp hq
                        go_simp
                        exact hK _ _ (RelB.refl _) rfl
                      · refine opR_guard (j := 11) (d := 36) (c := true) rfl rfl (by kernel_rfl) rfl rfl (fun v W h => h) (fun _ => RelB.refl _) (fun hne => absurd rfl hne) fun hc aa W2 hB hp hq K hK => ?_
                        have e41 : aa.tmps[41]?.getD undef = .int .u32 x.ino := hq 16 _ (by kernel_rfl) rfl
                        have e46 : aa.tmps[46]?.getD undef = .int .u32 y.ino := hq 21 _ (by kernel_rfl) rfl
                        clear hp hq
                        go_simp
                        exact hK _ _ (RelB.refl _) rfl
                      · refine opR_mk rfl fun aa W2 hB hp hq K hK => ?_
                        have e36 : aa.tmps[36]?.getD undef = .bool true := hq 11 _ (by kernel_rfl) rfl
                        have e47 : aa.tmps[47]?.getD undef = .bool true := hq 22 _ (by kernel_rfl) rfl
                        clear hp hq
                        go_simp
                        exact hK _ _ (RelB.refl _) rfl
                      · refine opR_mk rfl fun aa W2 hB hp hq K hK => ?_
                        have e48 : aa.tmps[48]?.getD undef = .bool true := hq 23 _ (by kernel_rfl) rfl
                        clear hp hq
                        go_simp
                        exact hK _ _ (RelB.refl _) rfl
                      · refine opR_guard (j := 24) (d := 49) (c := true) rfl rfl (by kernel_rfl) rfl rfl (fun v W h => h) (fun _ => RelB.refl _) (fun hne => absurd rfl hne) fun hc aa W2 hB hp hq K hK => ?_
                        have e5 : aa.tmps[5]?.getD undef = .slice (some ⟨g1, 0, none⟩) n c := hp 5 (by kernel_rfl)
                        clear hp hq
                        go_simp
                        exact hK _ _ (RelB.refl _) rfl
                      · refine opR_guard (j := 24) (d := 49) (c := true) rfl rfl (by kernel_rfl) rfl rfl (fun v W h => h) (fun _ => RelB.refl _) (fun hne => absurd rfl hne) fun hc aa W2 hB hp hq K hK => ?_
                        have e7 : aa.tmps[7]?.getD undef = .int .i64 (i : Int) := hp 7 (by kernel_rfl)
                        clear hp hq
                        go_simp
                        exact hK _ _ (RelB.refl _) rfl
                      · refine opR_guard (j := 24) (d := 49) (c := true) rfl rfl (by kernel_rfl) rfl rfl (fun v W h => h) (fun _ => RelB.refl _) (fun hne => absurd rfl hne) fun hc aa W2 hB hp hq K hK => ?_
                        have e50 : aa.tmps[50]?.getD undef = .slice (some ⟨g1, 0, none⟩) n c := hq 25 _ (by kernel_rfl) rfl
                        have e51 : aa.tmps[51]?.getD undef = .int .i64 (i : Int) := hq 26 _ (by kernel_rfl) rfl
                        clear hp hq
                        go_simp
                        exact hK _ _ (RelB.refl _) rfl
                      · refine opR_guard (j := 24) (d := 49) (c := true) rfl rfl (by kernel_rfl) rfl rfl (fun v W h => h) (fun _ => RelB.refl _) (fun hne => absurd rfl hne) fun hc aa W2 hB hp hq K hK => ?_
                        have e52 : aa.tmps[52]?.getD undef = .pointer (some ⟨g1, i * 4, none⟩) := hq 27 _ (by kernel_rfl) rfl
                        clear hp hq
                        go_simp
                        exact hK _ _ (RelB.refl _) rfl
                      · refine opR_guard (j := 24) (d := 49) (c := true) rfl rfl (by kernel_rfl) rfl rfl (fun v W h => h) (fun _ => RelB.refl _) (fun hne => absurd rfl hne) fun hc aa W2 hB hp hq K hK => ?_
                        have e53 : aa.tmps[53]?.getD undef = .pointer (some ⟨g1, i * 4 + 2, none⟩) := hq 28 _ (by kernel_rfl) rfl
                        have x2 := (World.cell?_of_block (a := ⟨g1, _, none⟩) (Below.block hB g1 hg1)).trans c12
                        clear hp hq
                        go_simp
                        exact hK _ _ (RelB.refl _) rfl
                      · refine opR_guard (j := 24) (d := 49) (c := true) rfl rfl (by kernel_rfl) rfl rfl (fun v W h => h) (fun _ => RelB.refl _) (fun hne => absurd rfl hne) fun hc aa W2 hB hp hq K hK => ?_
                        have e6 : aa.tmps[6]?.getD undef = .slice (some ⟨g2, 0, none⟩) m c2 := hp 6 (by kernel_rfl)
                        clear hp hq
                        go_simp
                        exact hK _ _ (RelB.refl _) rfl
                      · refine opR_guard (j := 24) (d := 49) (c := true) rfl rfl (by kernel_rfl) rfl rfl (fun v W h => h) (fun _ => RelB.refl _) (fun hne => absurd rfl hne) fun hc aa W2 hB hp hq K hK => ?_
                        have e8 : aa.tmps[8]?.getD undef = .int .i64 (k : Int) := hp 8 (by kernel_rfl)
                        clear hp hq
                        go_simp
                        exact hK _ _ (RelB.refl _) rfl
                      · refine opR_guard (j := 24) (d := 49) (c := true) rfl rfl (by kernel_rfl) rfl rfl (fun v W h => h) (fun _ => RelB.refl _) (fun hne => absurd rfl hne) fun hc aa W2 hB hp hq K hK => ?_
                        have e55 : aa.tmps[55]?.getD undef = .slice (some ⟨g2, 0, none⟩) m c2 := hq 30 _ (by kernel_rfl) rfl
                        have e56 : aa.tmps[56]?.getD undef = .int .i64 (k : Int) := hq 31 _ (by kernel_rfl) rfl
                        clear hp hq
                        go_simp
                        exact hK _ _ (RelB.refl _) rfl
                      · refine opR_guard (j := 24) (d := 49) (c := true) rfl rfl (by kernel_rfl) rfl rfl (fun v W h => h) (fun _ => RelB.refl _) (fun hne => absurd rfl hne) fun hc aa W2 hB hp hq K hK => ?_
                        have e57 : aa.tmps[57]?.getD undef = .pointer (some ⟨g2, k * 4, none⟩) := hq 32 _ (by kernel_rfl) rfl
                        clear hp hq
                        go_simp
                        exact hK _ _ (RelB.refl _) rfl
                      · refine opR_guard (j := 24) (d := 49) (c := true) rfl rfl (by kernel_rfl) rfl rfl (fun v W h => h) (fun _ => RelB.refl _) (fun hne => absurd rfl hne) fun hc aa W2 hB hp hq K hK => ?_
                        have e58 : aa.tmps[58]?.getD undef = .pointer (some ⟨g2, k * 4 + 2, none⟩) := hq 33 _ (by kernel_rfl) rfl
                        have y2 := (World.cell?_of_block (a := ⟨g2, _, none⟩) (Below.block hB g2 hg2)).trans d12
                        clear hp hq
                        go_simp
                        exact hK _ _ (RelB.refl _) rfl
                      · refine opR_guard (j := 24) (d := 49) (c := true) rfl rfl (by kernel_rfl) rfl rfl (fun v W h => h) (fun _ => RelB.refl _) (fun hne => absurd rfl hne) fun hc aa W2 hB hp hq K hK => ?_
                        have e54 : aa.tmps[54]?.getD undef = .string x.name := hq 29 _ (by kernel_rfl) rfl
                        have e59 : aa.tmps[59]?.getD undef = .string y.name := hq 34 _ (by kernel_rfl) rfl
                        clear hp hq
                        go_simp
                        exact hK _ _ (RelB.refl _) rfl
                      · refine opR_mk rfl fun aa W2 hB hp hq K hK => ?_
                        have e49 : aa.tmps[49]?.getD undef = .bool true := hq 24 _ (by kernel_rfl) rfl
                        have e60 : aa.tmps[60]?.getD undef = .bool true := hq 35 _ (by kernel_rfl) rfl
                        clear hp hq
                        go_simp
                        exact hK _ _ (RelB.refl _) rfl
                      · refine opR_mk rfl fun aa W2 hB hp hq K hK => ?_
                        have e61 : aa.tmps[61]?.getD undef = .bool true := hq 36 _ (by kernel_rfl) rfl
                        clear hp hq
                        go_simp
                        exact hK _ _ (RelB.refl _) rfl
                      · refine opR_guard (j := 37) (d := 62) (c := true) rfl rfl (by kernel_rfl) rfl rfl (fun v W h => h) (fun _ => RelB.refl _) (fun hne => absurd rfl hne) fun hc aa W2 hB hp hq K hK => ?_
                        have e5 : aa.tmps[5]?.getD undef = .slice (some ⟨g1, 0, none⟩) n c := hp 5 (by kernel_rfl)
                        clear hp hq
                        go_simp
                        exact hK _ _ (RelB.refl _) rfl
                      · refine opR_guard (j := 37) (d := 62) (c := true) rfl rfl (by kernel_rfl) rfl rfl (fun v W h => h) (fun _ => RelB.refl _) (fun hne => absurd rfl hne) fun hc aa W2 hB hp hq K hK => ?_
                        have e7 : aa.tmps[7]?.getD undef = .int .i64 (i : Int) := hp 7 (by kernel_rfl)
                        clear hp hq
                        go_simp
                        exact hK _ _ (RelB.refl _) rfl
                      · refine opR_guard (j := 37) (d := 62) (c := true) rfl rfl (by kernel_rfl) rfl rfl (fun v W h => h) (fun _ => RelB.refl _) (fun hne => absurd rfl hne) fun hc aa W2 hB hp hq K hK => ?_
                        have e63 : aa.tmps[63]?.getD undef = .slice (some ⟨g1, 0, none⟩) n c := hq 38 _ (by kernel_rfl) rfl
                        have e64 : aa.tmps[64]?.getD undef = .int .i64 (i : Int) := hq 39 _ (by kernel_rfl) rfl
                        clear hp hq
                        go_simp
                        exact hK _ _ (RelB.refl _) rfl
                      · refine opR_guard (j := 37) (d := 62) (c := true) rfl rfl (by kernel_rfl) rfl rfl (fun v W h => h) (fun _ => RelB.refl _) (fun hne => absurd rfl hne) fun hc aa W2 hB hp hq K hK => ?_
                        have e65 : aa.tmps[65]?.getD undef = .pointer (some ⟨g1, i * 4, none⟩) := hq 40 _ (by kernel_rfl) rfl
                        clear hp hq
                        go_simp
                        exact hK _ _ (RelB.refl _) rfl
                      · refine opR_guard (j := 37) (d := 62) (c := true) rfl rfl (by kernel_rfl) rfl rfl (fun v W h => h) (fun _ => RelB.refl _) (fun hne => absurd rfl hne) fun hc aa W2 hB hp hq K hK => ?_
                        have e66 : aa.tmps[66]?.getD undef = .pointer (some ⟨g1, i * 4 + 3, none⟩) := hq 41 _ (by kernel_rfl) rfl
                        have x3 := (World.cell?_of_block (a := ⟨g1, _, none⟩) (Below.block hB g1 hg1)).trans c13
                        clear hp hq
                        go_simp
                        exact hK _ _ (RelB.refl _) rfl
                      · refine opR_guard (j := 37) (d := 62) (c := true) rfl rfl (by kernel_rfl) rfl rfl (fun v W h => h) (fun _ => RelB.refl _) (fun hne => absurd rfl hne) fun hc aa W2 hB hp hq K hK => ?_
                        have e67 : aa.tmps[67]?.getD undef = .bool true := hq 42 _ (by kernel_rfl) rfl
                        clear hp hq
                        go_simp
                        exact hK _ _ (RelB.refl _) rfl
                      · exact opR_guard (j := 43) (d := 68) (c := true) rfl rfl (by kernel_rfl) rfl rfl (fun v W h => h) (fun _ => RelB.refl _) (fun _ _ => trivial) (fun hc => absurd hc (by decide))
                      · exact opR_guard (j := 43) (d := 68) (c := true) rfl rfl (by kernel_rfl) rfl rfl (fun v W h => h) (fun _ => RelB.refl _) (fun _ _ => trivial) (fun hc => absurd hc (by decide))
                      · exact opR_guard (j := 43) (d := 68) (c := true) rfl rfl (by kernel_rfl) rfl rfl (fun v W h => h) (fun _ => RelB.refl _) (fun _ _ => trivial) (fun hc => absurd hc (by decide))
                      · exact opR_guard (j := 43) (d := 68) (c := true) rfl rfl (by kernel_rfl) rfl rfl (fun v W h => h) (fun _ => RelB.refl _) (fun _ _ => trivial) (fun hc => absurd hc (by decide))
                      · exact opR_guard (j := 43) (d := 68) (c := true) rfl rfl (by kernel_rfl) rfl rfl (fun v W h => h) (fun _ => RelB.refl _) (fun _ _ => trivial) (fun hc => absurd hc (by decide))
                      · refine opR_guard (j := 37) (d := 62) (c := true) rfl rfl (by kernel_rfl) rfl rfl (fun v W h => h) (fun _ => RelB.refl _) (fun hne => absurd rfl hne) fun hc aa W2 hB hp hq K hK => ?_
                        have e68 : aa.tmps[68]?.getD undef = .bool true := hq 43 _ (by kernel_rfl) rfl
                        clear hp hq
                        go_simp
                        exact hK _ _ (RelB.refl _) rfl
                      · refine opR_mk rfl fun aa W2 hB hp hq K hK => ?_
                        have e62 : aa.tmps[62]?.getD undef = .bool true := hq 37 _ (by kernel_rfl) rfl
                        have e74 : aa.tmps[74]?.getD undef = .bool true := hq 49 _ (by kernel_rfl) rfl
                        clear hp hq
                        go_simp
                        exact hK _ _ (RelB.refl _) rfl
                    · intro vs W3 hB3 hv3 _
                      have v50 : vs 50 = .bool true := hv3 50 _ rfl rfl
                      have HB3 : Hid (Below W0.heap.size W0 W3) := ptrans HK.out hB3
                      clear hB3 hv3
                      simp only [List.take_succ_cons, List.take_zero, putAll, Act.put, List.setIfInBounds_toArray, List.set_cons_succ, List.set_cons_zero, Nat.zero_add, Nat.reduceAdd, v50]
                      clear v50
                      have hf : Hid (true = res) := by
                        show true = res
                        rw [← HRES.out]
                        exact (any_at _ _ _ _ HX.out (any_at _ _ _ _ HY.out (by unfold meetPt; simp [h1, h2, HP3.out, h4]))).symm
                      go_wp2
                      go_ret
                      exact ⟨pret_bool hf.out, ptrans HB2.out HB3.out⟩
end Go.Proofs.YtehckjkihaalfaaGreat
