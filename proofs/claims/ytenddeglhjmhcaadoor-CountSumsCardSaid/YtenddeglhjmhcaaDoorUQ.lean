/- law40.CountSums, walked, but for alive. -/
import Derived.Test.YtenddeglhjmhcaaDoorUO
import Derived.Test.YtenddeglhjmhcaaDoorUL
import Derived.Great.BuildSlice
namespace Go.Proofs.YtenddeglhjmhcaaDoor
open Go.RowKit

theorem wp_eql_tal {op : Oper} {a : Act} {w : World} {K : Act → World → Prop} {Q : Exit → Act → World → Prop} (x y : Operand) (u : TypeId) (ho : op.op = .binOp .eql 26 x y u)
    (X : List Int) (hl : X.length = 22) (hx : a.eval x = talV X) (hy : a.eval y = talV X) (h : K (a.put op.dst (.bool true)) w) : op.wp Tryd.prog a w K Q := by
  obtain ⟨r, hr, hiff⟩ := eql_tal w X X hl hl
  rw [hiff.2 rfl] at hr
  unfold Oper.wp execOp
  simp only [ho, hx, hy, Sem.run_bind, run_eqGuard_agg w .eql 26 x y (X.map intV).toArray (X.map intV).toArray guardT, hr, Sem.run_pure, Result.andThen_ok]
  exact h
theorem wp_load_tal {op : Oper} {a : Act} {w : World} {K : Act → World → Prop} {Q : Exit → Act → World → Prop} (x : Operand) (ho : op.op = .load 26 x)
    (b : Nat) (t : List Int) (ht : t.length = 22) (hx : a.eval x = .pointer (some ⟨b, 0, none⟩)) (hT : TalB w b t) (h : K (a.put op.dst (talV t)) w) : op.wp Tryd.prog a w K Q :=
  wp_load_mid 26 x ho b 0 hx (t.map intV) _ hT.range Tryd.underlying26 rfl (by rw [List.length_map, ht]; exact infoT) h
theorem wp_zero_tal {op : Oper} {a : Act} {w : World} {K : Act → World → Prop} {Q : Exit → Act → World → Prop} (ho : op.op = .build 26 #[]) (h : K (a.put op.dst (talV zT)) w) : op.wp Tryd.prog a w K Q := by
  have hf : Tryd.prog.built 26 ((#[] : Array (Nat × Operand)).map fun (i, x) => (i, a.eval x)).toList = some (zT.map intV).toArray := by simpa using built_zero
  refine wp_build 26 #[] ho (by rw [hf]; rfl) ?_
  rw [hf]
  exact h
theorem two_fillT {L1 L3 : List Value} (h1 : L1.length = 22) (h3 : L3.length = 22) (f : Nat → Value) : Instr.fill (fun i => some (i * 22, 22)) ((Array.range (2 * 22)).map f) [(0, .agg L1.toArray), (1, .agg L3.toArray)] = some (L1 ++ L3).toArray := by
  refine (Great.fill_whole (s := 22) (by decide) [.agg L1.toArray, .agg L3.toArray] _ (fun v hv => ?_) (by simp)).trans ?_
  · simp only [List.mem_cons, List.not_mem_nil, or_false] at hv
    rcases hv with rfl | rfl <;> simp [Value.cells, h1, h3]
  · simp [Value.cells]
theorem infoTz : ∃ i, Tryd.prog.info? 26 = some i ∧ i.zero = some (talV zT) ∧ i.size = 22 := by
  have h1 := infoT
  have h2 : (Tryd.prog.info? 26).bind (·.zero) = some (talV zT) := by kernel_rfl
  cases h : Tryd.prog.info? 26 with
  | none => rw [h] at h1; cases h1
  | some i =>
    rw [h] at h1 h2
    exact ⟨i, rfl, h2, by simpa using h1⟩
def isTwoT (d x : List Int) : Ph := fun v W => ∃ g, v = .slice (some ⟨g, 0, none⟩) 2 2 ∧ W.heap[g]? = some (.cells (d.map intV ++ x.map intV).toArray 26 (0, 0))
theorem isTwoT.stay {d x : List Int} : ∀ v W W', isTwoT d x v W → RelB W W' → isTwoT d x v W' := fun _ _ _ ⟨g, h1, h2⟩ hb => ⟨g, h1, (hb.block g (Array.getElem?_eq_some_iff.1 h2).1).trans h2⟩
theorem two_at {W : World} {g : Nat} {d x : List Int} (hd : d.length = 22) (h : W.heap[g]? = some (.cells (d.map intV ++ x.map intV).toArray 26 (0, 0))) : TalsAt W (some ⟨g, 0, none⟩) [d, x] := fun _ => ⟨g, 0, rfl, (Array.getElem?_eq_some_iff.1 h).1, fun k t hk j v hv => by
  match k, hk with
  | 0, hk =>
    cases hk
    have hj : j < 22 := by have := (List.getElem?_eq_some_iff.1 hv).1; rw [List.length_map, hd] at this; exact this
    rw [show 0 + 0 * 22 + j = j by omega, cell_of h, List.getElem?_toArray, List.getElem?_append_left (by rw [List.length_map, hd]; exact hj)]
    exact hv
  | 1, hk =>
    cases hk
    rw [show 0 + 1 * 22 + j = 22 + j by omega, cell_of h, List.getElem?_toArray, List.getElem?_append_right (by rw [List.length_map, hd]; omega), List.length_map, hd, Nat.add_sub_cancel_left]
    exact hv
  | k + 2, hk => simp at hk⟩
theorem tals_none (W : World) : TalsAt W none [] := fun h => absurd rfl h
set_option maxRecDepth 100000 in
set_option maxHeartbeats 8000000 in
theorem t_sums (A : Option Addr) (n c : Nat) (l : List (List Int)) (x : List Int) (w : World) (hl : TalsAt w A l) (hn : l.length = n) (hf : ∀ t ∈ l, Tal t) (hx : Tal x) (hT : Tab w)
    (hal : ∀ W, Below w.heap.size w W → Calls Tryd.prog 4 #[] W fun e w' => e = .returned (.bool true) ∧ Below W.heap.size W w') :
    Calls Tryd.prog 3 #[.slice A n c, talV x] w fun e w' => e = .returned (.bool true) ∧ Below w.heap.size w w' := by
  have HL := Lib.hid hl
  have HN := Lib.hid hn
  have HF := Lib.hid hf
  have HX := Lib.hid hx
  have HTB := Lib.hid hT
  have HAL := Lib.hid hal
  clear hl hn hf hx hT hal
  by_cases h60 : n ≤ 60
  · have h60i : ¬ (60 : Int) < n := by omega
    have HN2 : Hid (n ≤ 1000) := by rw [Hid]; omega
    have HST := Lib.hid (sumT_tal l HF.out)
    have HDT := Lib.hid (subT_tal (sumT_tal l HF.out).1 HX.out.1)
    have HBK := Lib.hid (sum_less (sumT_tal l HF.out) HX.out)
    have HSL := Lib.hid (sumT_tal l HF.out).1
    have HXL := Lib.hid HX.out.1
    have HX0 : Hid (TalB (w.alloc (.cells (x.map intV).toArray 26)) w.heap.size x) := heap_alloc_new _ _
    have HW0 := Lib.hid ((Below.refl w.heap.size w).alloc (Nat.le_refl _) (.cells (x.map intV).toArray 26))
    have HSUM : Hid (∀ W, Below w.heap.size w W → Calls Tryd.prog 5 #[.slice A n c] W fun e w' => e = .returned (talV (sumT l)) ∧ Below W.heap.size W w') := fun W h => t_sum A n c l W (HL.out.below h) HN.out HN2.out HF.out
    have HRSUM : Hid (∀ W, Below w.heap.size w W → Calls Tryd.prog 6 #[.slice A n c] W fun e w' => e = .returned (talV (sumT l)) ∧ Below W.heap.size W w') := fun W h => t_rsum A n c l W (HL.out.below h) HN.out HN2.out HF.out
    generalize sumT l = s at HST HDT HBK HSL HSUM HRSUM
    obtain ⟨d, hd⟩ : ∃ d, subT s x = d := ⟨_, rfl⟩
    have HLS : Hid (∀ W, Calls Tryd.prog 7 #[talV s, talV x] W fun e w' => e = .returned (talV d) ∧ Below W.heap.size W w') := fun W => by rw [← hd]; exact t_less s x HSL.out HXL.out W
    have HRLS : Hid (∀ W, Calls Tryd.prog 8 #[talV s, talV x] W fun e w' => e = .returned (talV d) ∧ Below W.heap.size W w') := fun W => by rw [← hd]; exact t_rless s x HSL.out HXL.out W
    rw [hd] at HDT HBK
    clear hd
    have HDL := Lib.hid HDT.out.1
    have HTWO : Hid (∀ (g : Nat) W, W.heap[g]? = some (.cells (d.map intV ++ x.map intV).toArray 26 (0, 0)) → Calls Tryd.prog 5 #[.slice (some ⟨g, 0, none⟩) 2 2] W fun e w' => e = .returned (talV s) ∧ Below W.heap.size W w') := fun g W h => by
      have := t_sum (some ⟨g, 0, none⟩) 2 2 [d, x] W (two_at HDL.out h) rfl (by decide) (fun t ht => by
        simp only [List.mem_cons, List.not_mem_nil, or_false] at ht
        rcases ht with rfl | rfl
        · exact HDT.out
        · exact HX.out)
      rw [HBK.out] at this
      exact this
    have HNIL : Hid (∀ W, Calls Tryd.prog 5 #[.slice none 0 0] W fun e w' => e = .returned (talV zT) ∧ Below W.heap.size W w') := fun W => t_sum none 0 0 [] W (tals_none W) rfl (by decide) (fun t ht => by simp at ht)
    have HLN : Hid (∀ W, Below w.heap.size w W → Calls Tryd.prog 9 #[talV x] W fun e w' => e = .returned (strV (lineT x)) ∧ Below W.heap.size W w') := fun W h => t_line x HX.out W (HTB.out.below h)
    have HRLN : Hid (∀ W, Below w.heap.size w W → Calls Tryd.prog 10 #[talV x] W fun e w' => e = .returned (strV (lineT x)) ∧ Below W.heap.size W w') := fun W h => t_rline x HX.out W (HTB.out.below h)
    obtain ⟨lx, hlx⟩ : ∃ lx, lineT x = lx := ⟨_, rfl⟩
    rw [hlx] at HLN HRLN
    clear hlx
    go_enter Tryd.func3, Tryd.ntmps3
    go_wp2_with (first
      | (go_at_call 5; (with_reducible refine (HSUM.out _ HW0.out).mono ?_); rintro e w1 ⟨rfl, h1⟩
         have HX1 := Lib.hid (HX0.out.below h1)
         have HW1 := Lib.hid (ptrans HW0.out h1)
         have HZ1 : Hid (TalB (w1.alloc (.cells #[.int .i64 0, .int .i64 0, .int .i64 0, .int .i64 0, .int .i64 0, .int .i64 0, .int .i64 0, .int .i64 0, .int .i64 0, .int .i64 0, .int .i64 0, .int .i64 0, .int .i64 0, .int .i64 0, .int .i64 0, .int .i64 0, .int .i64 0, .int .i64 0, .int .i64 0, .int .i64 0, .int .i64 0, .int .i64 0] 26)) w1.heap.size zT) := by rw [Hid, TalB, zT_arr]; exact heap_alloc_new _ _
         clear h1)
      | (refine wpList_store_tal rfl _ _ rfl w1.heap.size zT s rfl HSL.out rfl rfl HZ1.out ?_; intro w2 h2 hg2
         have HS2 := Lib.hid h2
         have HX2 := Lib.hid (HX1.out.below (below_store hg2))
         have HW2 := Lib.hid (ptrans HW1.out (below_store hg2))
         clear h2 hg2))
    obtain ⟨Bs, hBs⟩ : ∃ Bs, w1.heap.size = Bs := ⟨_, rfl⟩
    rw [hBs] at HS2 ⊢
    clear hBs
    have HWX : Hid (∀ W, Below w2.heap.size w2 W → Below w.heap.size w W) := fun W h => ptrans HW2.out h
    refine wp_region_rel RelB (phi [isV (talV s), isV (.slice A n c), isV (talV s), isV (.bool true), isV (.bool true), isV (talV s), isV (talV x), isV (talV d), isV (talV s), isV (talV x), isV (talV d), isV (.bool true), isV (.bool true), isV (.bool true), isV (talV s), isV (talV x), isV (talV d), isV (talV x), (isTwoT d x), isV (talV s), isV (talV s), isV (.bool true), isV (.bool true), isV (.bool true), isV (talV x), isV (.string ⟨lx.toArray⟩), isV (talV x), isV (.string ⟨lx.toArray⟩), isV (.bool true), isV (.bool true), isV (.bool true), isV (talV zT), isV (talV zT), isV (.bool true), isV (.bool true), isV (.bool true), isV (.bool true), isV (.bool true), isV (.bool true)]) (by kernel_rfl) (by kernel_rfl) (by kernel_rfl) (RelB.of (below_drew _)) (fun _ _ _ a b => a.trans b) ?_ ?_ ?_
    · refine stays_phiR ?_
      simp only [List.forall_mem_cons]
      exact ⟨fun _ _ _ h _ => h, fun _ _ _ h _ => h, fun _ _ _ h _ => h, fun _ _ _ h _ => h, fun _ _ _ h _ => h, fun _ _ _ h _ => h, fun _ _ _ h _ => h, fun _ _ _ h _ => h, fun _ _ _ h _ => h, fun _ _ _ h _ => h, fun _ _ _ h _ => h, fun _ _ _ h _ => h, fun _ _ _ h _ => h, fun _ _ _ h _ => h, fun _ _ _ h _ => h, fun _ _ _ h _ => h, fun _ _ _ h _ => h, fun _ _ _ h _ => h, isTwoT.stay, fun _ _ _ h _ => h, fun _ _ _ h _ => h, fun _ _ _ h _ => h, fun _ _ _ h _ => h, fun _ _ _ h _ => h, fun _ _ _ h _ => h, fun _ _ _ h _ => h, fun _ _ _ h _ => h, fun _ _ _ h _ => h, fun _ _ _ h _ => h, fun _ _ _ h _ => h, fun _ _ _ h _ => h, fun _ _ _ h _ => h, fun _ _ _ h _ => h, fun _ _ _ h _ => h, fun _ _ _ h _ => h, fun _ _ _ h _ => h, fun _ _ _ h _ => h, fun _ _ _ h _ => h, fun _ _ _ h _ => h, fun _ h => absurd h (by simp)⟩
    · refine ⟨?_, ?_, ?_, ?_, ?_, ?_, ?_, ?_, ?_, ?_, ?_, ?_, ?_, ?_, ?_, ?_, ?_, ?_, ?_, ?_, ?_, ?_, ?_, ?_, ?_, ?_, ?_, ?_, ?_, ?_, ?_, ?_, ?_, ?_, ?_, ?_, ?_, ?_, ?_, trivial⟩
      · refine opR_mk rfl fun aa W2 hB hp hq K hK => ?_
        have e5 : aa.tmps[5]?.getD undef = .pointer (some ⟨Bs, 0, none⟩) := hp 5 (by kernel_rfl)
        have hb2 : Below w2.heap.size w2 W2 := hB
        clear hp hq
        refine wp_load_tal _ rfl Bs s HSL.out (ev_tmp e5) (HS2.out.below hb2) ?_
        exact hK _ _ (RelB.refl _) rfl
      · refine opR_mk rfl fun aa W2 hB hp hq K hK => ?_
        have e0 : aa.tmps[0]?.getD undef = .slice A n c := hp 0 (by kernel_rfl)
        clear hp hq
        go_simp
        exact hK _ _ (RelB.refl _) rfl
      · refine opR_mk rfl fun aa W2 hB hp hq K hK => ?_
        have e13 : aa.tmps[13]?.getD undef = .slice A n c := hq 1 _ (by kernel_rfl) rfl
        have hb2 : Below w2.heap.size w2 W2 := hB
        clear hp hq
        go_simp
        go_at_call 6
        (with_reducible refine (HRSUM.out _ (HWX.out _ hb2)).mono ?_)
        rintro e5 w7 ⟨rfl, h7⟩
        exact hK _ _ h7 rfl
      · refine opR_mk rfl fun aa W2 hB hp hq K hK => ?_
        have e12 : aa.tmps[12]?.getD undef = talV s := hq 0 _ (by kernel_rfl) rfl
        have e14 : aa.tmps[14]?.getD undef = talV s := hq 2 _ (by kernel_rfl) rfl
        clear hp hq
        refine wp_eql_tal _ _ _ rfl s HSL.out (ev_tmp e12) (ev_tmp e14) ?_
        exact hK _ _ (RelB.refl _) rfl
      · refine opR_mk rfl fun aa W2 hB hp hq K hK => ?_
        have e15 : aa.tmps[15]?.getD undef = .bool true := hq 3 _ (by kernel_rfl) rfl
        clear hp hq
        go_simp
        exact hK _ _ (RelB.refl _) rfl
      · refine opR_guard (j := 4) (d := 16) (c := true) rfl rfl (by kernel_rfl) rfl rfl (fun v W h => h) (fun _ => RelB.refl _) (fun hne => absurd rfl hne) fun hc aa W2 hB hp hq K hK => ?_
        have e5 : aa.tmps[5]?.getD undef = .pointer (some ⟨Bs, 0, none⟩) := hp 5 (by kernel_rfl)
        have hb2 : Below w2.heap.size w2 W2 := hB
        clear hp hq
        refine wp_load_tal _ rfl Bs s HSL.out (ev_tmp e5) (HS2.out.below hb2) ?_
        exact hK _ _ (RelB.refl _) rfl
      · refine opR_guard (j := 4) (d := 16) (c := true) rfl rfl (by kernel_rfl) rfl rfl (fun v W h => h) (fun _ => RelB.refl _) (fun hne => absurd rfl hne) fun hc aa W2 hB hp hq K hK => ?_
        have e3 : aa.tmps[3]?.getD undef = .pointer (some ⟨w.heap.size, 0, none⟩) := hp 3 (by kernel_rfl)
        have hb2 : Below w2.heap.size w2 W2 := hB
        clear hp hq
        refine wp_load_tal _ rfl w.heap.size x HXL.out (ev_tmp e3) (HX2.out.below hb2) ?_
        exact hK _ _ (RelB.refl _) rfl
      · refine opR_guard (j := 4) (d := 16) (c := true) rfl rfl (by kernel_rfl) rfl rfl (fun v W h => h) (fun _ => RelB.refl _) (fun hne => absurd rfl hne) fun hc aa W2 hB hp hq K hK => ?_
        have e17 : aa.tmps[17]?.getD undef = talV s := hq 5 _ (by kernel_rfl) rfl
        have e18 : aa.tmps[18]?.getD undef = talV x := hq 6 _ (by kernel_rfl) rfl
        clear hp hq
        go_simp
        go_at_call 7
        (with_reducible refine (HLS.out _).mono ?_)
        rintro e5 w7 ⟨rfl, h7⟩
        exact hK _ _ h7 rfl
      · refine opR_guard (j := 4) (d := 16) (c := true) rfl rfl (by kernel_rfl) rfl rfl (fun v W h => h) (fun _ => RelB.refl _) (fun hne => absurd rfl hne) fun hc aa W2 hB hp hq K hK => ?_
        have e5 : aa.tmps[5]?.getD undef = .pointer (some ⟨Bs, 0, none⟩) := hp 5 (by kernel_rfl)
        have hb2 : Below w2.heap.size w2 W2 := hB
        clear hp hq
        refine wp_load_tal _ rfl Bs s HSL.out (ev_tmp e5) (HS2.out.below hb2) ?_
        exact hK _ _ (RelB.refl _) rfl
      · refine opR_guard (j := 4) (d := 16) (c := true) rfl rfl (by kernel_rfl) rfl rfl (fun v W h => h) (fun _ => RelB.refl _) (fun hne => absurd rfl hne) fun hc aa W2 hB hp hq K hK => ?_
        have e3 : aa.tmps[3]?.getD undef = .pointer (some ⟨w.heap.size, 0, none⟩) := hp 3 (by kernel_rfl)
        have hb2 : Below w2.heap.size w2 W2 := hB
        clear hp hq
        refine wp_load_tal _ rfl w.heap.size x HXL.out (ev_tmp e3) (HX2.out.below hb2) ?_
        exact hK _ _ (RelB.refl _) rfl
      · refine opR_guard (j := 4) (d := 16) (c := true) rfl rfl (by kernel_rfl) rfl rfl (fun v W h => h) (fun _ => RelB.refl _) (fun hne => absurd rfl hne) fun hc aa W2 hB hp hq K hK => ?_
        have e20 : aa.tmps[20]?.getD undef = talV s := hq 8 _ (by kernel_rfl) rfl
        have e21 : aa.tmps[21]?.getD undef = talV x := hq 9 _ (by kernel_rfl) rfl
        clear hp hq
        go_simp
        go_at_call 8
        (with_reducible refine (HRLS.out _).mono ?_)
        rintro e5 w7 ⟨rfl, h7⟩
        exact hK _ _ h7 rfl
      · refine opR_guard (j := 4) (d := 16) (c := true) rfl rfl (by kernel_rfl) rfl rfl (fun v W h => h) (fun _ => RelB.refl _) (fun hne => absurd rfl hne) fun hc aa W2 hB hp hq K hK => ?_
        have e19 : aa.tmps[19]?.getD undef = talV d := hq 7 _ (by kernel_rfl) rfl
        have e22 : aa.tmps[22]?.getD undef = talV d := hq 10 _ (by kernel_rfl) rfl
        clear hp hq
        refine wp_eql_tal _ _ _ rfl d HDL.out (ev_tmp e19) (ev_tmp e22) ?_
        exact hK _ _ (RelB.refl _) rfl
      · refine opR_mk rfl fun aa W2 hB hp hq K hK => ?_
        have e16 : aa.tmps[16]?.getD undef = .bool true := hq 4 _ (by kernel_rfl) rfl
        have e23 : aa.tmps[23]?.getD undef = .bool true := hq 11 _ (by kernel_rfl) rfl
        clear hp hq
        go_simp
        exact hK _ _ (RelB.refl _) rfl
      · refine opR_mk rfl fun aa W2 hB hp hq K hK => ?_
        have e24 : aa.tmps[24]?.getD undef = .bool true := hq 12 _ (by kernel_rfl) rfl
        clear hp hq
        go_simp
        exact hK _ _ (RelB.refl _) rfl
      · refine opR_guard (j := 13) (d := 25) (c := true) rfl rfl (by kernel_rfl) rfl rfl (fun v W h => h) (fun _ => RelB.refl _) (fun hne => absurd rfl hne) fun hc aa W2 hB hp hq K hK => ?_
        have e5 : aa.tmps[5]?.getD undef = .pointer (some ⟨Bs, 0, none⟩) := hp 5 (by kernel_rfl)
        have hb2 : Below w2.heap.size w2 W2 := hB
        clear hp hq
        refine wp_load_tal _ rfl Bs s HSL.out (ev_tmp e5) (HS2.out.below hb2) ?_
        exact hK _ _ (RelB.refl _) rfl
      · refine opR_guard (j := 13) (d := 25) (c := true) rfl rfl (by kernel_rfl) rfl rfl (fun v W h => h) (fun _ => RelB.refl _) (fun hne => absurd rfl hne) fun hc aa W2 hB hp hq K hK => ?_
        have e3 : aa.tmps[3]?.getD undef = .pointer (some ⟨w.heap.size, 0, none⟩) := hp 3 (by kernel_rfl)
        have hb2 : Below w2.heap.size w2 W2 := hB
        clear hp hq
        refine wp_load_tal _ rfl w.heap.size x HXL.out (ev_tmp e3) (HX2.out.below hb2) ?_
        exact hK _ _ (RelB.refl _) rfl
      · refine opR_guard (j := 13) (d := 25) (c := true) rfl rfl (by kernel_rfl) rfl rfl (fun v W h => h) (fun _ => RelB.refl _) (fun hne => absurd rfl hne) fun hc aa W2 hB hp hq K hK => ?_
        have e26 : aa.tmps[26]?.getD undef = talV s := hq 14 _ (by kernel_rfl) rfl
        have e27 : aa.tmps[27]?.getD undef = talV x := hq 15 _ (by kernel_rfl) rfl
        clear hp hq
        go_simp
        go_at_call 7
        (with_reducible refine (HLS.out _).mono ?_)
        rintro e5 w7 ⟨rfl, h7⟩
        exact hK _ _ h7 rfl
      · refine opR_guard (j := 13) (d := 25) (c := true) rfl rfl (by kernel_rfl) rfl rfl (fun v W h => h) (fun _ => RelB.refl _) (fun hne => absurd rfl hne) fun hc aa W2 hB hp hq K hK => ?_
        have e3 : aa.tmps[3]?.getD undef = .pointer (some ⟨w.heap.size, 0, none⟩) := hp 3 (by kernel_rfl)
        have hb2 : Below w2.heap.size w2 W2 := hB
        clear hp hq
        refine wp_load_tal _ rfl w.heap.size x HXL.out (ev_tmp e3) (HX2.out.below hb2) ?_
        exact hK _ _ (RelB.refl _) rfl
      · refine opR_guard (j := 13) (d := 25) (c := true) rfl rfl (by kernel_rfl) rfl rfl (fun v W h => h) (fun _ => RelB.refl _) (fun hne => absurd rfl hne) fun hc aa W2 hB hp hq K hK => ?_
        have e28 : aa.tmps[28]?.getD undef = talV d := hq 16 _ (by kernel_rfl) rfl
        have e29 : aa.tmps[29]?.getD undef = talV x := hq 17 _ (by kernel_rfl) rfl
        clear hp hq
        obtain ⟨ie, hie, hz, hs⟩ := infoTz
        refine wp_buildSlice 22 26 2 _ rfl (d.map intV ++ x.map intV).toArray ie _ Tryd.underlying22 hie hz (by rw [hs]; decide) (by rw [hs]; decide) ?_ (hK _ _ ((Below.refl _ _).alloc (Nat.le_refl _) _) ⟨_, rfl, heap_alloc_new _ _⟩)
        rw [hs]
        have f1 : aa.eval (.tmp 28) = talV d := ev_tmp e28
        have f2 : aa.eval (.tmp 29) = talV x := ev_tmp e29
        simp only [List.map_toArray, List.map_cons, List.map_nil, f1, f2]
        exact two_fillT (by rw [List.length_map]; exact HDL.out) (by rw [List.length_map]; exact HXL.out) _
      · refine opR_guard (j := 13) (d := 25) (c := true) rfl rfl (by kernel_rfl) rfl rfl (fun v W h => h) (fun _ => RelB.refl _) (fun hne => absurd rfl hne) fun hc aa W2 hB hp hq K hK => ?_
        obtain ⟨g, e30, hg⟩ : isTwoT d x (aa.tmps[30]?.getD undef) W2 := hq 18 _ (by kernel_rfl) rfl
        have HC := Lib.hid (HTWO.out g W2 hg)
        clear hg
        clear hp hq
        go_simp
        go_at_call 5
        (with_reducible refine HC.out.mono ?_)
        rintro e5 w7 ⟨rfl, h7⟩
        exact hK _ _ h7 rfl
      · refine opR_guard (j := 13) (d := 25) (c := true) rfl rfl (by kernel_rfl) rfl rfl (fun v W h => h) (fun _ => RelB.refl _) (fun hne => absurd rfl hne) fun hc aa W2 hB hp hq K hK => ?_
        have e5 : aa.tmps[5]?.getD undef = .pointer (some ⟨Bs, 0, none⟩) := hp 5 (by kernel_rfl)
        have hb2 : Below w2.heap.size w2 W2 := hB
        clear hp hq
        refine wp_load_tal _ rfl Bs s HSL.out (ev_tmp e5) (HS2.out.below hb2) ?_
        exact hK _ _ (RelB.refl _) rfl
      · refine opR_guard (j := 13) (d := 25) (c := true) rfl rfl (by kernel_rfl) rfl rfl (fun v W h => h) (fun _ => RelB.refl _) (fun hne => absurd rfl hne) fun hc aa W2 hB hp hq K hK => ?_
        have e31 : aa.tmps[31]?.getD undef = talV s := hq 19 _ (by kernel_rfl) rfl
        have e32 : aa.tmps[32]?.getD undef = talV s := hq 20 _ (by kernel_rfl) rfl
        clear hp hq
        refine wp_eql_tal _ _ _ rfl s HSL.out (ev_tmp e31) (ev_tmp e32) ?_
        exact hK _ _ (RelB.refl _) rfl
      · refine opR_mk rfl fun aa W2 hB hp hq K hK => ?_
        have e25 : aa.tmps[25]?.getD undef = .bool true := hq 13 _ (by kernel_rfl) rfl
        have e33 : aa.tmps[33]?.getD undef = .bool true := hq 21 _ (by kernel_rfl) rfl
        clear hp hq
        go_simp
        exact hK _ _ (RelB.refl _) rfl
      · refine opR_mk rfl fun aa W2 hB hp hq K hK => ?_
        have e34 : aa.tmps[34]?.getD undef = .bool true := hq 22 _ (by kernel_rfl) rfl
        clear hp hq
        go_simp
        exact hK _ _ (RelB.refl _) rfl
      · refine opR_guard (j := 23) (d := 35) (c := true) rfl rfl (by kernel_rfl) rfl rfl (fun v W h => h) (fun _ => RelB.refl _) (fun hne => absurd rfl hne) fun hc aa W2 hB hp hq K hK => ?_
        have e3 : aa.tmps[3]?.getD undef = .pointer (some ⟨w.heap.size, 0, none⟩) := hp 3 (by kernel_rfl)
        have hb2 : Below w2.heap.size w2 W2 := hB
        clear hp hq
        refine wp_load_tal _ rfl w.heap.size x HXL.out (ev_tmp e3) (HX2.out.below hb2) ?_
        exact hK _ _ (RelB.refl _) rfl
      · refine opR_guard (j := 23) (d := 35) (c := true) rfl rfl (by kernel_rfl) rfl rfl (fun v W h => h) (fun _ => RelB.refl _) (fun hne => absurd rfl hne) fun hc aa W2 hB hp hq K hK => ?_
        have e36 : aa.tmps[36]?.getD undef = talV x := hq 24 _ (by kernel_rfl) rfl
        have hb2 : Below w2.heap.size w2 W2 := hB
        clear hp hq
        go_simp
        go_at_call 9
        (with_reducible refine (HLN.out _ (HWX.out _ hb2)).mono ?_)
        rintro e5 w7 ⟨rfl, h7⟩
        exact hK _ _ h7 rfl
      · refine opR_guard (j := 23) (d := 35) (c := true) rfl rfl (by kernel_rfl) rfl rfl (fun v W h => h) (fun _ => RelB.refl _) (fun hne => absurd rfl hne) fun hc aa W2 hB hp hq K hK => ?_
        have e3 : aa.tmps[3]?.getD undef = .pointer (some ⟨w.heap.size, 0, none⟩) := hp 3 (by kernel_rfl)
        have hb2 : Below w2.heap.size w2 W2 := hB
        clear hp hq
        refine wp_load_tal _ rfl w.heap.size x HXL.out (ev_tmp e3) (HX2.out.below hb2) ?_
        exact hK _ _ (RelB.refl _) rfl
      · refine opR_guard (j := 23) (d := 35) (c := true) rfl rfl (by kernel_rfl) rfl rfl (fun v W h => h) (fun _ => RelB.refl _) (fun hne => absurd rfl hne) fun hc aa W2 hB hp hq K hK => ?_
        have e38 : aa.tmps[38]?.getD undef = talV x := hq 26 _ (by kernel_rfl) rfl
        have hb2 : Below w2.heap.size w2 W2 := hB
        clear hp hq
        go_simp
        go_at_call 10
        (with_reducible refine (HRLN.out _ (HWX.out _ hb2)).mono ?_)
        rintro e5 w7 ⟨rfl, h7⟩
        exact hK _ _ h7 rfl
      · refine opR_guard (j := 23) (d := 35) (c := true) rfl rfl (by kernel_rfl) rfl rfl (fun v W h => h) (fun _ => RelB.refl _) (fun hne => absurd rfl hne) fun hc aa W2 hB hp hq K hK => ?_
        have e37 : aa.tmps[37]?.getD undef = .string ⟨lx.toArray⟩ := hq 25 _ (by kernel_rfl) rfl
        have e39 : aa.tmps[39]?.getD undef = .string ⟨lx.toArray⟩ := hq 27 _ (by kernel_rfl) rfl
        clear hp hq
        go_simp
        exact hK _ _ (RelB.refl _) rfl
      · refine opR_mk rfl fun aa W2 hB hp hq K hK => ?_
        have e35 : aa.tmps[35]?.getD undef = .bool true := hq 23 _ (by kernel_rfl) rfl
        have e40 : aa.tmps[40]?.getD undef = .bool true := hq 28 _ (by kernel_rfl) rfl
        clear hp hq
        go_simp
        exact hK _ _ (RelB.refl _) rfl
      · refine opR_mk rfl fun aa W2 hB hp hq K hK => ?_
        have e41 : aa.tmps[41]?.getD undef = .bool true := hq 29 _ (by kernel_rfl) rfl
        clear hp hq
        go_simp
        exact hK _ _ (RelB.refl _) rfl
      · refine opR_guard (j := 30) (d := 42) (c := true) rfl rfl (by kernel_rfl) rfl rfl (fun v W h => h) (fun _ => RelB.refl _) (fun hne => absurd rfl hne) fun hc aa W2 hB hp hq K hK => ?_
        clear hp hq
        go_simp
        go_at_call 5
        (with_reducible refine (HNIL.out _).mono ?_)
        rintro e5 w7 ⟨rfl, h7⟩
        exact hK _ _ h7 rfl
      · refine opR_guard (j := 30) (d := 42) (c := true) rfl rfl (by kernel_rfl) rfl rfl (fun v W h => h) (fun _ => RelB.refl _) (fun hne => absurd rfl hne) fun hc aa W2 hB hp hq K hK => ?_
        clear hp hq
        refine wp_zero_tal rfl ?_
        exact hK _ _ (RelB.refl _) rfl
      · refine opR_guard (j := 30) (d := 42) (c := true) rfl rfl (by kernel_rfl) rfl rfl (fun v W h => h) (fun _ => RelB.refl _) (fun hne => absurd rfl hne) fun hc aa W2 hB hp hq K hK => ?_
        have e43 : aa.tmps[43]?.getD undef = talV zT := hq 31 _ (by kernel_rfl) rfl
        have e44 : aa.tmps[44]?.getD undef = talV zT := hq 32 _ (by kernel_rfl) rfl
        clear hp hq
        refine wp_eql_tal _ _ _ rfl zT rfl (ev_tmp e43) (ev_tmp e44) ?_
        exact hK _ _ (RelB.refl _) rfl
      · refine opR_mk rfl fun aa W2 hB hp hq K hK => ?_
        have e42 : aa.tmps[42]?.getD undef = .bool true := hq 30 _ (by kernel_rfl) rfl
        have e45 : aa.tmps[45]?.getD undef = .bool true := hq 33 _ (by kernel_rfl) rfl
        clear hp hq
        go_simp
        exact hK _ _ (RelB.refl _) rfl
      · refine opR_mk rfl fun aa W2 hB hp hq K hK => ?_
        have e46 : aa.tmps[46]?.getD undef = .bool true := hq 34 _ (by kernel_rfl) rfl
        clear hp hq
        go_simp
        exact hK _ _ (RelB.refl _) rfl
      · refine opR_guard (j := 35) (d := 47) (c := true) rfl rfl (by kernel_rfl) rfl rfl (fun v W h => h) (fun _ => RelB.refl _) (fun hne => absurd rfl hne) fun hc aa W2 hB hp hq K hK => ?_
        have hb2 : Below w2.heap.size w2 W2 := hB
        clear hp hq
        go_simp
        go_at_call 4
        (with_reducible refine (HAL.out _ (HWX.out _ hb2)).mono ?_)
        rintro e5 w7 ⟨rfl, h7⟩
        exact hK _ _ h7 rfl
      · refine opR_mk rfl fun aa W2 hB hp hq K hK => ?_
        have e47 : aa.tmps[47]?.getD undef = .bool true := hq 35 _ (by kernel_rfl) rfl
        have e48 : aa.tmps[48]?.getD undef = .bool true := hq 36 _ (by kernel_rfl) rfl
        clear hp hq
        go_simp
        exact hK _ _ (RelB.refl _) rfl
      · refine opR_mk rfl fun aa W2 hB hp hq K hK => ?_
        have e49 : aa.tmps[49]?.getD undef = .bool true := hq 37 _ (by kernel_rfl) rfl
        clear hp hq
        go_simp
        exact hK _ _ (RelB.refl _) rfl
    · intro vs W3 hB3 hv3 _
      have f38 : vs 38 = .bool true := hv3 38 _ rfl rfl
      have H3 := Lib.hid (HWX.out _ hB3)
      clear hv3 hB3
      simp only [putAll, Act.put, List.setIfInBounds_toArray, List.set_cons_succ, List.set_cons_zero, Nat.zero_add, Nat.reduceAdd, f38]
      go_wp2
      go_ret
      exact ⟨rfl, H3.out⟩
  · have h60i : (60 : Int) < n := by omega
    have HW0 := Lib.hid ((Below.refl w.heap.size w).alloc (Nat.le_refl _) (.cells (x.map intV).toArray 26))
    go_enter Tryd.func3, Tryd.ntmps3
    go_wp2_with (go_at_call 4; (with_reducible refine (HAL.out _ HW0.out).mono ?_); rintro e w9 ⟨rfl, h9⟩)
    go_ret
    exact ⟨rfl, ptrans HW0.out h9⟩
end Go.Proofs.YtenddeglhjmhcaaDoor
