/- count.Line. -/
import Derived.Test.YtenddeglhjmhcaaDoorUE
import Derived.Lib.ItoaLen
import Derived.Test.YtenddeglhjmhcaaDoorUW
namespace Go.Proofs.YtenddeglhjmhcaaDoor
open Go.RowKit

theorem elStr : ElemOf 62 9 (.string ⟨#[]⟩) := ⟨Tryd.underlying62, ⟨16, by decide, by kernel_rfl⟩, rfl⟩
theorem wp_append_v {o : Oper} {a : Act} {K : Act → World → Prop} {Q : Exit → Act → World → Prop} {w : World} {ts te : TypeId} {z : Value} (E : ElemOf ts te z) (s x : Operand)
    (ho : o.op = .call { callee := .builtin .append, args := #[s, x], argTypes := #[ts, ts] })
    (base : Nat) (v : Value) (l : List Value) (n k : Nat) (hn : l.length = n) (hk : n + 1 = k) (hs : a.eval s = v) (hown : w.ownsRow base te 1 v n l) (q : Nat) (p : Value) (h1 : p.oneCell' = true) (hx : a.eval x = .slice (some ⟨q, 0, none⟩) 1 1)
    (hq : w.heap[q]? = some (.cells #[p] te (0, 0))) (hl : n ≤ 100000) (hbase : base ≤ w.heap.size)
    (h : ∀ A1 c1 w', w'.ownsRow base te 1 (.slice A1 k c1) k (l ++ [p]) → w.grownBy w' v.ownBlock → K (a.put o.dst (.slice A1 k c1)) w') : o.wp Tryd.prog a w K Q := by
  subst hk
  obtain ⟨v', w', hrun, h2, h3⟩ := run_append_v E base o.type w v l n hn hown q p h1 hq hl hbase
  unfold Oper.wp execOp
  simp only [ho, resolve, invoke, builtin, Sem.run_bind, Sem.run_pure, Result.andThen_ok, List.map_toArray, List.map_cons, List.map_nil, hs, hx, hrun]
  obtain ⟨A1, c1, rfl⟩ := slice_of_row h2
  exact h A1 c1 w' h2 h3
theorem str_cons (c : UInt8) (l : List UInt8) : (⟨#[c]⟩ : ByteArray) ++ ⟨l.toArray⟩ = ⟨(c :: l).toArray⟩ := by
  apply ByteArray.ext
  simp
def isS (l : List UInt8) : Ph := fun v W => ∃ g, v = .slice (some ⟨g, 0, none⟩) 1 1 ∧ W.heap[g]? = some (.cells #[strV l] 9 (0, 0))
theorem isS.stay {l : List UInt8} : ∀ v W W', isS l v W → Below W.heap.size W W' → isS l v W' := fun _ _ _ ⟨g, h1, h2⟩ hb => ⟨g, h1, (hb.block g (Array.getElem?_eq_some_iff.1 h2).1).trans h2⟩
theorem grow_row {w W W' : World} {v : Value} {n size : Nat} {e : TypeId} {xs : List Value} (h : Below w.heap.size w W) (hr : W.ownsRow w.heap.size e size v n xs) (hg : W.grownBy W' v.ownBlock) : Below w.heap.size w W' := by
  refine ⟨hg.os.trans h.os, hg.tape.trans h.tape, hg.output.trans h.output, Nat.le_trans h.size hg.size, fun b hb => (hg.block b (Nat.lt_of_lt_of_le hb h.size) fun e => ?_).trans (h.block b hb)⟩
  have := row_geV hr b e.symm
  omega
/-- A row of a tally. -/
def segT (t : List Int) (n : Nat) : List Int := (t.drop (pOff n)).take (pLen n)
/-- Its letter. -/
def letT : Nat → UInt8 | 0 => 107 | 1 => 99 | 2 => 103 | _ => 98
def outsT (t : List Int) : List (List UInt8) := (List.range 4).map fun n => letT n :: rowS (segT t n)
theorem line_outs (t : List Int) : Lib.join (outsT t) [32] = lineT t := by
  unfold lineT outsT
  simp [List.range_succ, letT, segT, pOff, pLen]
theorem outs_get (t : List Int) {n : Nat} (h : n < 4) : (outsT t)[n]? = some (letT n :: rowS (segT t n)) := by simp [outsT, h]
theorem seg_len {t : List Int} (ht : t.length = 22) {n : Nat} (h : n < 4) : (segT t n).length = pLen n := by
  match n, h with
  | 0, _ => simp [segT, pOff, pLen, ht]
  | 1, _ => simp [segT, pOff, pLen, ht]
  | 2, _ => simp [segT, pOff, pLen, ht]
  | 3, _ => simp [segT, pOff, pLen, ht]
theorem seg_get {t : List Int} {n k : Nat} (hk : k < pLen n) : (segT t n)[k]? = t[pOff n + k]? := by
  unfold segT
  rw [List.getElem?_take_of_lt hk, List.getElem?_drop]
theorem seg_i64 {t : List Int} (h : Tal t) {n : Nat} : ∀ x ∈ segT t n, I64 x := fun x hx => h.2 x (List.mem_of_mem_drop (List.mem_of_mem_take hx))
theorem row_len {l : List Int} (h : ∀ x ∈ l, I64 x) (hl : l.length ≤ 16) : (rowS l).length ≤ 1000 := by
  have h1 := join_len [44] (by decide) 21 (l.map Lib.itoa) fun x hx => by
    obtain ⟨y, hy, rfl⟩ := List.mem_map.1 hx
    exact Lib.itoa_length_le y (h y hy).1 (h y hy).2
  rw [List.length_map] at h1
  unfold rowS
  have := Nat.mul_le_mul hl (Nat.le_refl (21 + 8))
  omega
def numV (x : Int) : Value := strV (Lib.itoa x)
theorem map_snoc {α : Type} (f : α → Value) {l : List α} {k : Nat} {x : α} (h : l[k]? = some x) : (l.take (k + 1)).map f = (l.take k).map f ++ [f x] := by rw [List.take_add_one, h]; simp
set_option maxRecDepth 100000 in
set_option maxHeartbeats 8000000 in
theorem t_line (t : List Int) (ht : Tal t) (w : World) (hT : Tab w) :
    Calls Tryd.prog 9 #[talV t] w fun e w' => e = .returned (strV (lineT t)) ∧ Below w.heap.size w w' := by
  have HT := Lib.hid ht
  have HTB := Lib.hid hT
  clear ht hT
  go_enter Tryd.func9, Tryd.ntmps9
  go_wp2_with (first
    | (go_at_call 15; (with_reducible refine (t_parts w.heap.size _).mono ?_); rintro e w2 ⟨vt, rfl, ⟨gt, rfl, hp⟩, hb⟩
       have HP := Lib.hid hp
       have hb0 := ptrans ((Below.refl w.heap.size w).alloc (Nat.le_refl _) (.cells (t.map intV).toArray 26)) hb
       have HA2 : Hid (TalB w2 w.heap.size t) := (hb.block _ (by simp)).trans (heap_alloc_new _ _)
       have HW2 := Lib.hid hb0
       clear hp hb hb0))
  have HTB2 := Lib.hid (HTB.out.below HW2.out)
  have hr0 : VR 9 w2 w2 (.slice none 0 0) (((outsT t).take 0).map strV) := VR.nil _ _
  go_loopw [3, 11] (fun v3 v W => ∃ n : Nat, v = .int .i64 (n : Int) ∧ n ≤ 4 ∧ Hid (VR 9 w2 W v3 (((outsT t).take n).map strV))) (fun _ v _ => 4 - (intOf v).toNat)
  case atStart => exact ⟨0, rfl, Nat.zero_le _, hr0⟩
  case round =>
    clear hr0
    obtain ⟨n, rfl, hn, HR⟩ := hrel
    by_cases he : n = 4
    · subst he
      have hl4 : (((outsT t).take 4).map strV).length = 4 := by simp [outsT]
      obtain ⟨A, c, rfl, hc, hk⟩ := HR.out.reads
      have HK : Hid (VRead wr A ((outsT t).map strV)) := by
        rw [List.take_of_length_le (by simp [outsT])] at hk
        exact hk
      have HC : Hid (4 ≤ c) := by rw [hl4] at hc; exact hc
      have HB := Lib.hid (ptrans HW2.out HR.out.2)
      have HJ := Lib.hid (t_join A 4 c (outsT t) [32] wr HK.out (by simp [outsT]) HC.out (by decide) (by decide) fun x hx => by
        simp only [outsT, List.mem_map, List.mem_range] at hx
        obtain ⟨n, hn, rfl⟩ := hx
        have := row_len (seg_i64 HT.out) (Nat.le_trans (Nat.le_of_eq (seg_len HT.out.1 hn)) pLen_le)
        rw [List.length_cons]
        omega)
      rw [line_outs] at HJ
      rw [hl4]
      clear hk hc HR hl4
      go_wp2_with (go_at_call 18; (with_reducible refine HJ.out.mono ?_); rintro e w7 ⟨rfl, h7⟩)
      go_ret
      exact ⟨rfl, ptrans HB.out h7⟩
    · have hn4 : n < 4 := by omega
      have hni : (n : Int) < 4 := by omega
      obtain ⟨A2, c2, hc1, hrd⟩ := (HP.out.below HR.out.2).2 n hn4
      obtain ⟨g2, p2, rfl⟩ := hrd.blk pLen_pos
      have HRD := Lib.hid (fun (W : World) (hW : Below wr.heap.size wr W) (k : Nat) (hk : k < pLen n) => (hrd.below hW).ptr hk)
      have HSG := Lib.hid (fun (k : Nat) (hk : k < pLen n) => seg_get (t := t) hk)
      have HSL := Lib.hid (seg_len HT.out.1 hn4)
      have HSI := Lib.hid (seg_i64 HT.out (n := n))
      have HOG := Lib.hid (outs_get t hn4)
      have hm16 := pLen_le (n := n)
      obtain ⟨w3, hw3⟩ : ∃ w3, wr = w3 := ⟨_, rfl⟩
      rw [hw3] at HR HRD hc1 ⊢
      clear hw3 hrd
      obtain ⟨sg, hsg⟩ : ∃ sg, segT t n = sg := ⟨_, rfl⟩
      obtain ⟨m, hm⟩ : ∃ m, pLen n = m := ⟨_, rfl⟩
      obtain ⟨q, hq⟩ : ∃ q, pOff n = q := ⟨_, rfl⟩
      rw [hm] at HRD HSG HSL hm16 hc1
      rw [hsg] at HSG HSL HSI HOG
      rw [hq] at HRD HSG
      have HM := Lib.hid hm16
      clear hm hsg hq
      go_wp2
      have hq0 : VR 9 w3 w3 (.slice none 0 0) ((sg.take 0).map numV) := VR.nil _ _
      go_loopw [6, 18] (fun v6 v W => ∃ k : Nat, v = .int .i64 (k : Int) ∧ k ≤ m ∧ Hid (VR 9 w3 W v6 ((sg.take k).map numV))) (fun _ v _ => m - (intOf v).toNat)
      case atStart => exact ⟨0, rfl, Nat.zero_le _, hq0⟩
      case round =>
        clear hq0 hc1
        obtain ⟨k, rfl, hk, HQ⟩ := hrel
        by_cases hkm : k = m
        · subst hkm
          have hls : ((sg.take k).map numV).length = k := by rw [List.length_map, List.length_take, HSL.out]; omega
          obtain ⟨A6, c6, rfl, hc6, hk6⟩ := HQ.out.reads
          rw [hls] at hc6
          rw [hls]
          have hk7 : VRead wr A6 ((sg.map Lib.itoa).map strV) := by
            rw [List.take_of_length_le (by rw [HSL.out]; exact Nat.le_refl _)] at hk6
            rw [List.map_map]
            exact hk6
          have HJ : Hid (∀ W, Below wr.heap.size wr W → Calls Tryd.prog 18 #[.slice A6 k c6, .string ⟨#[44]⟩] W fun e w' => e = .returned (strV (rowS sg)) ∧ Below W.heap.size W w') := fun W hW => t_join A6 k c6 (sg.map Lib.itoa) [44] W (hk7.below hW) (by rw [List.length_map, HSL.out]) hc6 (by omega) (by decide) fun x hx => by
            obtain ⟨y, hy, rfl⟩ := List.mem_map.1 hx
            have := Lib.itoa_length_le y (HSI.out y hy).1 (HSI.out y hy).2
            omega
          have hb23 := ptrans HR.out.2 HQ.out.2
          have hlo : (((outsT t).take n).map strV).length = n := by rw [List.length_map, List.length_take]; simp [outsT]; omega
          have HLO := Lib.hid hlo
          have HOS := Lib.hid (map_snoc strV HOG.out)
          have HRL := Lib.hid (HR.out.later HQ.out.2)
          have hrl := ptrans HR.out.2 HQ.out.2
          have hsz := hb23.size
          clear hk6 hk7 hc6 hls hlo hb23
          have HRW := Lib.hid hrl
          have HRL16 := Lib.hid (row_len HSI.out (by rw [HSL.out]; exact HM.out))
          clear hrl
          go_wp2
          obtain ⟨u, hu⟩ : ∃ u, u3 = u := ⟨_, rfl⟩
          rw [hu] at HRL ⊢
          clear hu
          obtain rfl | rfl | rfl | rfl : n = 0 ∨ n = 1 ∨ n = 2 ∨ n = 3 := by omega
          · refine wp_region_frontM 9 (phi [isV (u), isV (.int .i64 0), isV (.int .i64 0), isV (.int .i64 1), isV (.string ⟨#[107]⟩), isV (.slice A6 k c6), isV (.string ⟨(rowS sg).toArray⟩), isV (.string ⟨(107 :: rowS sg).toArray⟩), (isS (107 :: rowS sg))]) (by kernel_rfl) (by kernel_rfl) (by kernel_rfl) ?_ ?_ ?_
            · refine stays_phiF ?_
              simp only [List.forall_mem_cons]
              exact ⟨fun _ _ _ h _ => h, fun _ _ _ h _ => h, fun _ _ _ h _ => h, fun _ _ _ h _ => h, fun _ _ _ h _ => h, fun _ _ _ h _ => h, fun _ _ _ h _ => h, fun _ _ _ h _ => h, isS.stay, fun _ h => absurd h (by simp)⟩
            · refine ⟨?_, ?_, ?_, ?_, ?_, ?_, ?_, ?_, ?_, trivial⟩
              · refine opM_mk rfl fun aa W2 hB hp hq K hK => ?_
                have e3 : aa.tmps[3]?.getD undef = u := hp 3 (by kernel_rfl)
                clear hp hq
                go_simp
                exact hK _ _ (Below.refl _ _) rfl
              · refine opM_mk rfl fun aa W2 hB hp hq K hK => ?_
                have e4 : aa.tmps[4]?.getD undef = .int .i64 0 := hp 4 (by kernel_rfl)
                clear hp hq
                go_simp
                exact hK _ _ (Below.refl _ _) rfl
              · refine opM_mk rfl fun aa W2 hB hp hq K hK => ?_
                have e4 : aa.tmps[4]?.getD undef = .int .i64 0 := hp 4 (by kernel_rfl)
                clear hp hq
                go_simp
                exact hK _ _ (Below.refl _ _) rfl
              · refine opM_mk rfl fun aa W2 hB hp hq K hK => ?_
                have e32 : aa.tmps[32]?.getD undef = .int .i64 0 := hq 2 _ (by kernel_rfl) rfl
                clear hp hq
                go_simp
                exact hK _ _ (Below.refl _ _) rfl
              · refine opM_mk rfl fun aa W2 hB hp hq K hK => ?_
                have e31 : aa.tmps[31]?.getD undef = .int .i64 0 := hq 1 _ (by kernel_rfl) rfl
                have e33 : aa.tmps[33]?.getD undef = .int .i64 1 := hq 3 _ (by kernel_rfl) rfl
                clear hp hq
                go_simp
                exact hK _ _ (Below.refl _ _) rfl
              · refine opM_mk rfl fun aa W2 hB hp hq K hK => ?_
                have e6 : aa.tmps[6]?.getD undef = .slice A6 k c6 := hp 6 (by kernel_rfl)
                clear hp hq
                go_simp
                exact hK _ _ (Below.refl _ _) rfl
              · refine opM_mk rfl fun aa W2 hB hp hq K hK => ?_
                have e35 : aa.tmps[35]?.getD undef = .slice A6 k c6 := hq 5 _ (by kernel_rfl) rfl
                clear hp hq
                go_simp
                go_at_call 18
                (with_reducible refine (HJ.out _ hB).mono ?_)
                rintro e5 w7 ⟨rfl, h7⟩
                exact hK _ _ h7 rfl
              · refine opM_mk rfl fun aa W2 hB hp hq K hK => ?_
                have e34 : aa.tmps[34]?.getD undef = .string ⟨#[107]⟩ := hq 4 _ (by kernel_rfl) rfl
                have e36 : aa.tmps[36]?.getD undef = .string ⟨(rowS sg).toArray⟩ := hq 6 _ (by kernel_rfl) rfl
                clear hp hq
                go_simp
                rw [if_neg (by have := HRL16.out; omega)]
                exact hK _ _ (Below.refl _ _) (congrArg Value.string (str_cons 107 (rowS sg)))
              · refine opM_mk rfl fun aa W2 hB hp hq K hK => ?_
                have e37 : aa.tmps[37]?.getD undef = .string ⟨(107 :: rowS sg).toArray⟩ := hq 7 _ (by kernel_rfl) rfl
                clear hp hq
                go_simp
                exact hK _ _ ((Below.refl _ _).alloc (Nat.le_refl _) _) ⟨_, rfl, heap_alloc_new _ _⟩
            · intro vs W hB hv
              have f0 : vs 0 = u := hv 0 (by decide) (by kernel_rfl)
              have f1 : vs 1 = .int .i64 0 := hv 1 (by decide) (by kernel_rfl)
              have f2 : vs 2 = .int .i64 0 := hv 2 (by decide) (by kernel_rfl)
              have f3 : vs 3 = .int .i64 1 := hv 3 (by decide) (by kernel_rfl)
              have f4 : vs 4 = .string ⟨#[107]⟩ := hv 4 (by decide) (by kernel_rfl)
              have f5 : vs 5 = .slice A6 k c6 := hv 5 (by decide) (by kernel_rfl)
              have f6 : vs 6 = .string ⟨(rowS sg).toArray⟩ := hv 6 (by decide) (by kernel_rfl)
              have f7 : vs 7 = .string ⟨(107 :: rowS sg).toArray⟩ := hv 7 (by decide) (by kernel_rfl)
              obtain ⟨g, f8, hg⟩ : isS (107 :: rowS sg) (vs 8) W := hv 8 (by decide) (by kernel_rfl)
              have HG := Lib.hid hg
              have HRX := Lib.hid (HRL.out.later hB)
              have HBW := Lib.hid (ptrans HRW.out hB)
              clear hv hg
              refine (show wpAny Tryd.prog .any _ _ 2 _ _ W from ?_)
              refine wpAny_one (i := 9) (by kernel_rfl) (by rfl) rfl (fun K hK => ?_)
              simp only [List.take_succ_cons, List.take_zero, putAll, Act.put, List.setIfInBounds_toArray, List.set_cons_succ, List.set_cons_zero, Nat.zero_add, Nat.reduceAdd, f0, f1, f2, f3, f4, f5, f6, f7, f8] at hK ⊢
              have hown := HRX.out.1
              rw [HLO.out] at hown
              refine wp_append_v elStr _ _ rfl w2.heap.size u _ 0 1 HLO.out rfl rfl hown g (strV (107 :: rowS sg)) rfl rfl HG.out (by decide) HBW.out.size ?_
              intro A1 c1 w8 hown8 hgrow8
              have HRN : Hid (VR 9 w2 w8 (.slice A1 1 c1) (((outsT t).take 1).map strV)) := ⟨by rw [HOS.out, List.length_append, HLO.out]; exact hown8, grow_row HBW.out hown hgrow8⟩
              clear hown hown8 hgrow8
              refine hK _ _ ?_
              clear hK
              refine wpAny_one (i := 10) (by kernel_rfl) (by rfl) rfl (fun K hK => ?_)
              go_simp
              refine hK _ _ (wpAny_end (by kernel_rfl) ?_)
              clear hK
              go_wp2
              exact ⟨⟨1, rfl, by decide, HRN⟩, by simp [intOf]⟩
          · refine wp_region_frontM 9 (phi [isV (u), isV (.int .i64 1), isV (.int .i64 1), isV (.int .i64 2), isV (.string ⟨#[99]⟩), isV (.slice A6 k c6), isV (.string ⟨(rowS sg).toArray⟩), isV (.string ⟨(99 :: rowS sg).toArray⟩), (isS (99 :: rowS sg))]) (by kernel_rfl) (by kernel_rfl) (by kernel_rfl) ?_ ?_ ?_
            · refine stays_phiF ?_
              simp only [List.forall_mem_cons]
              exact ⟨fun _ _ _ h _ => h, fun _ _ _ h _ => h, fun _ _ _ h _ => h, fun _ _ _ h _ => h, fun _ _ _ h _ => h, fun _ _ _ h _ => h, fun _ _ _ h _ => h, fun _ _ _ h _ => h, isS.stay, fun _ h => absurd h (by simp)⟩
            · refine ⟨?_, ?_, ?_, ?_, ?_, ?_, ?_, ?_, ?_, trivial⟩
              · refine opM_mk rfl fun aa W2 hB hp hq K hK => ?_
                have e3 : aa.tmps[3]?.getD undef = u := hp 3 (by kernel_rfl)
                clear hp hq
                go_simp
                exact hK _ _ (Below.refl _ _) rfl
              · refine opM_mk rfl fun aa W2 hB hp hq K hK => ?_
                have e4 : aa.tmps[4]?.getD undef = .int .i64 1 := hp 4 (by kernel_rfl)
                clear hp hq
                go_simp
                exact hK _ _ (Below.refl _ _) rfl
              · refine opM_mk rfl fun aa W2 hB hp hq K hK => ?_
                have e4 : aa.tmps[4]?.getD undef = .int .i64 1 := hp 4 (by kernel_rfl)
                clear hp hq
                go_simp
                exact hK _ _ (Below.refl _ _) rfl
              · refine opM_mk rfl fun aa W2 hB hp hq K hK => ?_
                have e32 : aa.tmps[32]?.getD undef = .int .i64 1 := hq 2 _ (by kernel_rfl) rfl
                clear hp hq
                go_simp
                exact hK _ _ (Below.refl _ _) rfl
              · refine opM_mk rfl fun aa W2 hB hp hq K hK => ?_
                have e31 : aa.tmps[31]?.getD undef = .int .i64 1 := hq 1 _ (by kernel_rfl) rfl
                have e33 : aa.tmps[33]?.getD undef = .int .i64 2 := hq 3 _ (by kernel_rfl) rfl
                clear hp hq
                go_simp
                exact hK _ _ (Below.refl _ _) rfl
              · refine opM_mk rfl fun aa W2 hB hp hq K hK => ?_
                have e6 : aa.tmps[6]?.getD undef = .slice A6 k c6 := hp 6 (by kernel_rfl)
                clear hp hq
                go_simp
                exact hK _ _ (Below.refl _ _) rfl
              · refine opM_mk rfl fun aa W2 hB hp hq K hK => ?_
                have e35 : aa.tmps[35]?.getD undef = .slice A6 k c6 := hq 5 _ (by kernel_rfl) rfl
                clear hp hq
                go_simp
                go_at_call 18
                (with_reducible refine (HJ.out _ hB).mono ?_)
                rintro e5 w7 ⟨rfl, h7⟩
                exact hK _ _ h7 rfl
              · refine opM_mk rfl fun aa W2 hB hp hq K hK => ?_
                have e34 : aa.tmps[34]?.getD undef = .string ⟨#[99]⟩ := hq 4 _ (by kernel_rfl) rfl
                have e36 : aa.tmps[36]?.getD undef = .string ⟨(rowS sg).toArray⟩ := hq 6 _ (by kernel_rfl) rfl
                clear hp hq
                go_simp
                rw [if_neg (by have := HRL16.out; omega)]
                exact hK _ _ (Below.refl _ _) (congrArg Value.string (str_cons 99 (rowS sg)))
              · refine opM_mk rfl fun aa W2 hB hp hq K hK => ?_
                have e37 : aa.tmps[37]?.getD undef = .string ⟨(99 :: rowS sg).toArray⟩ := hq 7 _ (by kernel_rfl) rfl
                clear hp hq
                go_simp
                exact hK _ _ ((Below.refl _ _).alloc (Nat.le_refl _) _) ⟨_, rfl, heap_alloc_new _ _⟩
            · intro vs W hB hv
              have f0 : vs 0 = u := hv 0 (by decide) (by kernel_rfl)
              have f1 : vs 1 = .int .i64 1 := hv 1 (by decide) (by kernel_rfl)
              have f2 : vs 2 = .int .i64 1 := hv 2 (by decide) (by kernel_rfl)
              have f3 : vs 3 = .int .i64 2 := hv 3 (by decide) (by kernel_rfl)
              have f4 : vs 4 = .string ⟨#[99]⟩ := hv 4 (by decide) (by kernel_rfl)
              have f5 : vs 5 = .slice A6 k c6 := hv 5 (by decide) (by kernel_rfl)
              have f6 : vs 6 = .string ⟨(rowS sg).toArray⟩ := hv 6 (by decide) (by kernel_rfl)
              have f7 : vs 7 = .string ⟨(99 :: rowS sg).toArray⟩ := hv 7 (by decide) (by kernel_rfl)
              obtain ⟨g, f8, hg⟩ : isS (99 :: rowS sg) (vs 8) W := hv 8 (by decide) (by kernel_rfl)
              have HG := Lib.hid hg
              have HRX := Lib.hid (HRL.out.later hB)
              have HBW := Lib.hid (ptrans HRW.out hB)
              clear hv hg
              refine (show wpAny Tryd.prog .any _ _ 2 _ _ W from ?_)
              refine wpAny_one (i := 9) (by kernel_rfl) (by rfl) rfl (fun K hK => ?_)
              simp only [List.take_succ_cons, List.take_zero, putAll, Act.put, List.setIfInBounds_toArray, List.set_cons_succ, List.set_cons_zero, Nat.zero_add, Nat.reduceAdd, f0, f1, f2, f3, f4, f5, f6, f7, f8] at hK ⊢
              have hown := HRX.out.1
              rw [HLO.out] at hown
              refine wp_append_v elStr _ _ rfl w2.heap.size u _ 1 2 HLO.out rfl rfl hown g (strV (99 :: rowS sg)) rfl rfl HG.out (by decide) HBW.out.size ?_
              intro A1 c1 w8 hown8 hgrow8
              have HRN : Hid (VR 9 w2 w8 (.slice A1 2 c1) (((outsT t).take 2).map strV)) := ⟨by rw [HOS.out, List.length_append, HLO.out]; exact hown8, grow_row HBW.out hown hgrow8⟩
              clear hown hown8 hgrow8
              refine hK _ _ ?_
              clear hK
              refine wpAny_one (i := 10) (by kernel_rfl) (by rfl) rfl (fun K hK => ?_)
              go_simp
              refine hK _ _ (wpAny_end (by kernel_rfl) ?_)
              clear hK
              go_wp2
              exact ⟨⟨2, rfl, by decide, HRN⟩, by simp [intOf]⟩
          · refine wp_region_frontM 9 (phi [isV (u), isV (.int .i64 2), isV (.int .i64 2), isV (.int .i64 3), isV (.string ⟨#[103]⟩), isV (.slice A6 k c6), isV (.string ⟨(rowS sg).toArray⟩), isV (.string ⟨(103 :: rowS sg).toArray⟩), (isS (103 :: rowS sg))]) (by kernel_rfl) (by kernel_rfl) (by kernel_rfl) ?_ ?_ ?_
            · refine stays_phiF ?_
              simp only [List.forall_mem_cons]
              exact ⟨fun _ _ _ h _ => h, fun _ _ _ h _ => h, fun _ _ _ h _ => h, fun _ _ _ h _ => h, fun _ _ _ h _ => h, fun _ _ _ h _ => h, fun _ _ _ h _ => h, fun _ _ _ h _ => h, isS.stay, fun _ h => absurd h (by simp)⟩
            · refine ⟨?_, ?_, ?_, ?_, ?_, ?_, ?_, ?_, ?_, trivial⟩
              · refine opM_mk rfl fun aa W2 hB hp hq K hK => ?_
                have e3 : aa.tmps[3]?.getD undef = u := hp 3 (by kernel_rfl)
                clear hp hq
                go_simp
                exact hK _ _ (Below.refl _ _) rfl
              · refine opM_mk rfl fun aa W2 hB hp hq K hK => ?_
                have e4 : aa.tmps[4]?.getD undef = .int .i64 2 := hp 4 (by kernel_rfl)
                clear hp hq
                go_simp
                exact hK _ _ (Below.refl _ _) rfl
              · refine opM_mk rfl fun aa W2 hB hp hq K hK => ?_
                have e4 : aa.tmps[4]?.getD undef = .int .i64 2 := hp 4 (by kernel_rfl)
                clear hp hq
                go_simp
                exact hK _ _ (Below.refl _ _) rfl
              · refine opM_mk rfl fun aa W2 hB hp hq K hK => ?_
                have e32 : aa.tmps[32]?.getD undef = .int .i64 2 := hq 2 _ (by kernel_rfl) rfl
                clear hp hq
                go_simp
                exact hK _ _ (Below.refl _ _) rfl
              · refine opM_mk rfl fun aa W2 hB hp hq K hK => ?_
                have e31 : aa.tmps[31]?.getD undef = .int .i64 2 := hq 1 _ (by kernel_rfl) rfl
                have e33 : aa.tmps[33]?.getD undef = .int .i64 3 := hq 3 _ (by kernel_rfl) rfl
                clear hp hq
                go_simp
                exact hK _ _ (Below.refl _ _) rfl
              · refine opM_mk rfl fun aa W2 hB hp hq K hK => ?_
                have e6 : aa.tmps[6]?.getD undef = .slice A6 k c6 := hp 6 (by kernel_rfl)
                clear hp hq
                go_simp
                exact hK _ _ (Below.refl _ _) rfl
              · refine opM_mk rfl fun aa W2 hB hp hq K hK => ?_
                have e35 : aa.tmps[35]?.getD undef = .slice A6 k c6 := hq 5 _ (by kernel_rfl) rfl
                clear hp hq
                go_simp
                go_at_call 18
                (with_reducible refine (HJ.out _ hB).mono ?_)
                rintro e5 w7 ⟨rfl, h7⟩
                exact hK _ _ h7 rfl
              · refine opM_mk rfl fun aa W2 hB hp hq K hK => ?_
                have e34 : aa.tmps[34]?.getD undef = .string ⟨#[103]⟩ := hq 4 _ (by kernel_rfl) rfl
                have e36 : aa.tmps[36]?.getD undef = .string ⟨(rowS sg).toArray⟩ := hq 6 _ (by kernel_rfl) rfl
                clear hp hq
                go_simp
                rw [if_neg (by have := HRL16.out; omega)]
                exact hK _ _ (Below.refl _ _) (congrArg Value.string (str_cons 103 (rowS sg)))
              · refine opM_mk rfl fun aa W2 hB hp hq K hK => ?_
                have e37 : aa.tmps[37]?.getD undef = .string ⟨(103 :: rowS sg).toArray⟩ := hq 7 _ (by kernel_rfl) rfl
                clear hp hq
                go_simp
                exact hK _ _ ((Below.refl _ _).alloc (Nat.le_refl _) _) ⟨_, rfl, heap_alloc_new _ _⟩
            · intro vs W hB hv
              have f0 : vs 0 = u := hv 0 (by decide) (by kernel_rfl)
              have f1 : vs 1 = .int .i64 2 := hv 1 (by decide) (by kernel_rfl)
              have f2 : vs 2 = .int .i64 2 := hv 2 (by decide) (by kernel_rfl)
              have f3 : vs 3 = .int .i64 3 := hv 3 (by decide) (by kernel_rfl)
              have f4 : vs 4 = .string ⟨#[103]⟩ := hv 4 (by decide) (by kernel_rfl)
              have f5 : vs 5 = .slice A6 k c6 := hv 5 (by decide) (by kernel_rfl)
              have f6 : vs 6 = .string ⟨(rowS sg).toArray⟩ := hv 6 (by decide) (by kernel_rfl)
              have f7 : vs 7 = .string ⟨(103 :: rowS sg).toArray⟩ := hv 7 (by decide) (by kernel_rfl)
              obtain ⟨g, f8, hg⟩ : isS (103 :: rowS sg) (vs 8) W := hv 8 (by decide) (by kernel_rfl)
              have HG := Lib.hid hg
              have HRX := Lib.hid (HRL.out.later hB)
              have HBW := Lib.hid (ptrans HRW.out hB)
              clear hv hg
              refine (show wpAny Tryd.prog .any _ _ 2 _ _ W from ?_)
              refine wpAny_one (i := 9) (by kernel_rfl) (by rfl) rfl (fun K hK => ?_)
              simp only [List.take_succ_cons, List.take_zero, putAll, Act.put, List.setIfInBounds_toArray, List.set_cons_succ, List.set_cons_zero, Nat.zero_add, Nat.reduceAdd, f0, f1, f2, f3, f4, f5, f6, f7, f8] at hK ⊢
              have hown := HRX.out.1
              rw [HLO.out] at hown
              refine wp_append_v elStr _ _ rfl w2.heap.size u _ 2 3 HLO.out rfl rfl hown g (strV (103 :: rowS sg)) rfl rfl HG.out (by decide) HBW.out.size ?_
              intro A1 c1 w8 hown8 hgrow8
              have HRN : Hid (VR 9 w2 w8 (.slice A1 3 c1) (((outsT t).take 3).map strV)) := ⟨by rw [HOS.out, List.length_append, HLO.out]; exact hown8, grow_row HBW.out hown hgrow8⟩
              clear hown hown8 hgrow8
              refine hK _ _ ?_
              clear hK
              refine wpAny_one (i := 10) (by kernel_rfl) (by rfl) rfl (fun K hK => ?_)
              go_simp
              refine hK _ _ (wpAny_end (by kernel_rfl) ?_)
              clear hK
              go_wp2
              exact ⟨⟨3, rfl, by decide, HRN⟩, by simp [intOf]⟩
          · refine wp_region_frontM 9 (phi [isV (u), isV (.int .i64 3), isV (.int .i64 3), isV (.int .i64 4), isV (.string ⟨#[98]⟩), isV (.slice A6 k c6), isV (.string ⟨(rowS sg).toArray⟩), isV (.string ⟨(98 :: rowS sg).toArray⟩), (isS (98 :: rowS sg))]) (by kernel_rfl) (by kernel_rfl) (by kernel_rfl) ?_ ?_ ?_
            · refine stays_phiF ?_
              simp only [List.forall_mem_cons]
              exact ⟨fun _ _ _ h _ => h, fun _ _ _ h _ => h, fun _ _ _ h _ => h, fun _ _ _ h _ => h, fun _ _ _ h _ => h, fun _ _ _ h _ => h, fun _ _ _ h _ => h, fun _ _ _ h _ => h, isS.stay, fun _ h => absurd h (by simp)⟩
            · refine ⟨?_, ?_, ?_, ?_, ?_, ?_, ?_, ?_, ?_, trivial⟩
              · refine opM_mk rfl fun aa W2 hB hp hq K hK => ?_
                have e3 : aa.tmps[3]?.getD undef = u := hp 3 (by kernel_rfl)
                clear hp hq
                go_simp
                exact hK _ _ (Below.refl _ _) rfl
              · refine opM_mk rfl fun aa W2 hB hp hq K hK => ?_
                have e4 : aa.tmps[4]?.getD undef = .int .i64 3 := hp 4 (by kernel_rfl)
                clear hp hq
                go_simp
                exact hK _ _ (Below.refl _ _) rfl
              · refine opM_mk rfl fun aa W2 hB hp hq K hK => ?_
                have e4 : aa.tmps[4]?.getD undef = .int .i64 3 := hp 4 (by kernel_rfl)
                clear hp hq
                go_simp
                exact hK _ _ (Below.refl _ _) rfl
              · refine opM_mk rfl fun aa W2 hB hp hq K hK => ?_
                have e32 : aa.tmps[32]?.getD undef = .int .i64 3 := hq 2 _ (by kernel_rfl) rfl
                clear hp hq
                go_simp
                exact hK _ _ (Below.refl _ _) rfl
              · refine opM_mk rfl fun aa W2 hB hp hq K hK => ?_
                have e31 : aa.tmps[31]?.getD undef = .int .i64 3 := hq 1 _ (by kernel_rfl) rfl
                have e33 : aa.tmps[33]?.getD undef = .int .i64 4 := hq 3 _ (by kernel_rfl) rfl
                clear hp hq
                go_simp
                exact hK _ _ (Below.refl _ _) rfl
              · refine opM_mk rfl fun aa W2 hB hp hq K hK => ?_
                have e6 : aa.tmps[6]?.getD undef = .slice A6 k c6 := hp 6 (by kernel_rfl)
                clear hp hq
                go_simp
                exact hK _ _ (Below.refl _ _) rfl
              · refine opM_mk rfl fun aa W2 hB hp hq K hK => ?_
                have e35 : aa.tmps[35]?.getD undef = .slice A6 k c6 := hq 5 _ (by kernel_rfl) rfl
                clear hp hq
                go_simp
                go_at_call 18
                (with_reducible refine (HJ.out _ hB).mono ?_)
                rintro e5 w7 ⟨rfl, h7⟩
                exact hK _ _ h7 rfl
              · refine opM_mk rfl fun aa W2 hB hp hq K hK => ?_
                have e34 : aa.tmps[34]?.getD undef = .string ⟨#[98]⟩ := hq 4 _ (by kernel_rfl) rfl
                have e36 : aa.tmps[36]?.getD undef = .string ⟨(rowS sg).toArray⟩ := hq 6 _ (by kernel_rfl) rfl
                clear hp hq
                go_simp
                rw [if_neg (by have := HRL16.out; omega)]
                exact hK _ _ (Below.refl _ _) (congrArg Value.string (str_cons 98 (rowS sg)))
              · refine opM_mk rfl fun aa W2 hB hp hq K hK => ?_
                have e37 : aa.tmps[37]?.getD undef = .string ⟨(98 :: rowS sg).toArray⟩ := hq 7 _ (by kernel_rfl) rfl
                clear hp hq
                go_simp
                exact hK _ _ ((Below.refl _ _).alloc (Nat.le_refl _) _) ⟨_, rfl, heap_alloc_new _ _⟩
            · intro vs W hB hv
              have f0 : vs 0 = u := hv 0 (by decide) (by kernel_rfl)
              have f1 : vs 1 = .int .i64 3 := hv 1 (by decide) (by kernel_rfl)
              have f2 : vs 2 = .int .i64 3 := hv 2 (by decide) (by kernel_rfl)
              have f3 : vs 3 = .int .i64 4 := hv 3 (by decide) (by kernel_rfl)
              have f4 : vs 4 = .string ⟨#[98]⟩ := hv 4 (by decide) (by kernel_rfl)
              have f5 : vs 5 = .slice A6 k c6 := hv 5 (by decide) (by kernel_rfl)
              have f6 : vs 6 = .string ⟨(rowS sg).toArray⟩ := hv 6 (by decide) (by kernel_rfl)
              have f7 : vs 7 = .string ⟨(98 :: rowS sg).toArray⟩ := hv 7 (by decide) (by kernel_rfl)
              obtain ⟨g, f8, hg⟩ : isS (98 :: rowS sg) (vs 8) W := hv 8 (by decide) (by kernel_rfl)
              have HG := Lib.hid hg
              have HRX := Lib.hid (HRL.out.later hB)
              have HBW := Lib.hid (ptrans HRW.out hB)
              clear hv hg
              refine (show wpAny Tryd.prog .any _ _ 2 _ _ W from ?_)
              refine wpAny_one (i := 9) (by kernel_rfl) (by rfl) rfl (fun K hK => ?_)
              simp only [List.take_succ_cons, List.take_zero, putAll, Act.put, List.setIfInBounds_toArray, List.set_cons_succ, List.set_cons_zero, Nat.zero_add, Nat.reduceAdd, f0, f1, f2, f3, f4, f5, f6, f7, f8] at hK ⊢
              have hown := HRX.out.1
              rw [HLO.out] at hown
              refine wp_append_v elStr _ _ rfl w2.heap.size u _ 3 4 HLO.out rfl rfl hown g (strV (98 :: rowS sg)) rfl rfl HG.out (by decide) HBW.out.size ?_
              intro A1 c1 w8 hown8 hgrow8
              have HRN : Hid (VR 9 w2 w8 (.slice A1 4 c1) (((outsT t).take 4).map strV)) := ⟨by rw [HOS.out, List.length_append, HLO.out]; exact hown8, grow_row HBW.out hown hgrow8⟩
              clear hown hown8 hgrow8
              refine hK _ _ ?_
              clear hK
              refine wpAny_one (i := 10) (by kernel_rfl) (by rfl) rfl (fun K hK => ?_)
              go_simp
              refine hK _ _ (wpAny_end (by kernel_rfl) ?_)
              clear hK
              go_wp2
              exact ⟨⟨4, rfl, by decide, HRN⟩, by simp [intOf]⟩
        · have hk2 : k < m := by omega
          obtain ⟨x, hx⟩ : ∃ x, sg[k]? = some x := ⟨_, List.getElem?_eq_getElem (by rw [HSL.out]; exact hk2)⟩
          have hix := HSI.out x (List.mem_of_getElem? hx)
          have hxt := hx
          rw [HSG.out k hk2] at hxt
          have hb23 := ptrans HR.out.2 HQ.out.2
          have p1 := HRD.out wr HQ.out.2 k hk2
          have c3 := (HA2.out.below hb23).cell hxt
          have hlk : ((sg.take k).map numV).length = k := by rw [List.length_map, List.length_take, HSL.out]; omega
          have hsz := HQ.out.2.size
          have hms := map_snoc numV hx
          have HMS := Lib.hid hms
          have HIT := Lib.hid (t_itoa x hix wr (HTB2.out.below hb23))
          have HLK := Lib.hid hlk
          clear hx hix hxt hb23 hlk hms
          go_wp2_with (first
            | (go_at_call 17; (with_reducible refine HIT.out.mono ?_); rintro e w5 ⟨rfl, h5⟩
               have hsz5 := h5.size
               have hq5 := heap_alloc_new w5 (.cells #[numV x] 9)
               have hb5 : Below wr.heap.size wr (w5.alloc (.cells #[numV x] 9)) := ptrans h5 ((Below.refl _ _).alloc (Nat.le_refl _) _)
               have hown := (HQ.out.later hb5).1
               rw [HLK.out] at hown
               have HOW := Lib.hid hown
               have HQ5 := Lib.hid hq5
               have HB5 := Lib.hid (ptrans HQ.out.2 h5)
               clear h5 hq5 hb5 hown)
            | (refine wpList_append_v elStr rfl _ _ rfl w3.heap.size _ ((sg.take k).map numV) k (k + 1) HLK.out rfl rfl HOW.out w5.heap.size (numV x) rfl rfl HQ5.out (by omega) (by simp; omega) ?_; intro A1 c1 w' hown' hgrow))
          have HRN : Hid (VR 9 w3 w' (.slice A1 (k + 1) c1) ((sg.take (k + 1)).map numV)) := ⟨by rw [HMS.out, List.length_append, HLK.out]; exact hown', grow_below HB5.out HOW.out hgrow⟩
          clear hown' hgrow
          exact ⟨⟨k + 1, by go_num, by omega, HRN⟩, by simp [intOf]; omega⟩
end Go.Proofs.YtenddeglhjmhcaaDoor
