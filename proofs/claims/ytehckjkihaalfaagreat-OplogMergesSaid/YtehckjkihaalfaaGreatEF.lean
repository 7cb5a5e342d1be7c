/- The heap of fronts: Push, Pop, and container/heap over them. -/
import Derived.Test.YtehckjkihaalfaaGreatEE
namespace Go.Proofs.YtehckjkihaalfaaGreat
open Go.RowKit Go.Maps

theorem ta_front (x y : Value) (w : World) : Sem.run Tryz.prog (Instr.typeAssert (.iface 91 (.agg #[x, y])) 20 91 false) w = .ok (.agg #[x, y]) w := by kernel_rfl
theorem infoFr : ∃ i, Tryz.prog.info? 91 = some i ∧ i.zero = some (.agg #[.int .i64 0, .slice none 0 0]) ∧ i.size = 2 ∧ i.bytes = 32 := by
  have : (Tryz.prog.info? 91).map (fun i => (i.zero, i.size, i.bytes)) = some (some (.agg #[.int .i64 0, .slice none 0 0]), 2, 32) := by kernel_rfl
  obtain ⟨i, hi, he⟩ := Option.map_eq_some_iff.1 this
  simp only [Prod.mk.injEq] at he
  exact ⟨i, hi, he.1, he.2.1, he.2.2⟩
abbrev cellsFr (x : Fr) : Array Value := #[.int .i64 (x.c : Int), .slice (some ⟨x.q, x.o, none⟩) x.n x.cap]
theorem run_append_fr (K : Nat → Prop) (ty : Nat) (w : World) (v : Value) (l : List Fr) (n : Nat) (hn : l.length = n) (hown : OwnF w K v n l) (q : Nat) (x : Fr) (hq : w.heap[q]? = some (.cells (cellsFr x) 91 (0, 0)))
    (hl : n ≤ 100000) (hK : ∀ b, K b → b < w.heap.size) :
    ∃ v' w' row, (Builtin.append_ #[87, 87] ty #[v, .slice (some ⟨q, 0, none⟩) 1 1]).run Tryz.prog w = .ok v' w' ∧ OwnF w' K v' (n + 1) (l ++ [x]) ∧ w.grownBy w' row ∧ ∀ b, row = some b → ¬ K b := by
  subst hn
  obtain ⟨i0, hi, hz0, hz1, hz2⟩ := infoFr
  obtain ⟨v', w', hrun, h2, h3, _, h5⟩ := run_append_own_at (P := Tryz.prog) w 0 87 ty 91 i0 _ 2 32 Tryz.underlying87 hi hz0 hz1 hz2 rfl (by decide) v l.length (frV l) hown.1 ⟨q, 0, none⟩ 1 1 x.cells
    rfl (fun j u hu => by
      rw [Addr.add_mid, Nat.zero_add]
      simp only [World.cell?, hq]
      simpa [Fr.cells] using hu) (by simp [Fr.cells, Value.oneCell']) (by unfold maxLen; omega) (by omega) (Nat.zero_le _)
  refine ⟨v', w', v.ownBlock, hrun, ⟨by rw [frV_append, show frV [x] = x.cells by simp [frV]]; exact h2, fun q' hq' => ?_⟩, h3, hown.2⟩
  rcases h5 with h5 | h5
  · exact hown.2 q' (h5 ▸ hq')
  · rw [hq'] at h5
    intro hk
    have := hK q' hk
    have := Option.some.inj h5
    omega
theorem step_append_fr {ops : Array Oper} {o : Oper} {a : Act} {w : World} {K : Act → World → Prop} {Q : Exit → Act → World → Prop} {E : Prop} (hgd : o.guard = none) (s x : Operand)
    (ho : o.op = .call { callee := .builtin .append, args := #[s, x], argTypes := #[87, 87] })
    (K0 : Nat → Prop) (v : Value) (l : List Fr) (n k : Nat) (hn : l.length = n) (hk : n + 1 = k) (hs : a.eval s = v) (hown : OwnF w K0 v n l) (q : Nat) (p : Fr) (hx : a.eval x = .slice (some ⟨q, 0, none⟩) 1 1)
    (hq : w.heap[q]? = some (.cells (cellsFr p) 91 (0, 0))) (hl : n ≤ 100000) (hbase : ∀ b, K0 b → b < w.heap.size)
    (h : ∀ A1 c1 w', OwnF w' K0 (.slice A1 k c1) k (l ++ [p]) → (∃ row, w.grownBy w' row ∧ ∀ b, row = some b → ¬ K0 b) → K (a.put o.dst (.slice A1 k c1)) w') :
    if Region.wanted o (yielded ops a.tmps) = true then Oper.wp Tryz.prog o a w K Q else E := by
  have hw : Region.wanted o (yielded ops a.tmps) = true := by simp [Region.wanted, hgd]
  rw [if_pos hw]
  subst hk
  obtain ⟨v', w', row, hrun, h2, h3⟩ := run_append_fr K0 o.type w v l n hn hown q p hq hl hbase
  unfold Oper.wp execOp
  simp only [ho, resolve, invoke, builtin, Sem.run_bind, Sem.run_pure, Result.andThen_ok, List.map_toArray, List.map_cons, List.map_nil, hs, hx, hrun]
  obtain ⟨A1, c1, rfl⟩ := row_slice h2.1
  exact h A1 c1 w' h2 ⟨row, h3⟩
theorem fr_grow {w w' : World} {Bw : Nat} {K : Nat → Prop} {v : Value} {A : Obj} {row : Option Nat} (hB : w.heap[Bw]? = some (.cells #[v] 87 (0, 0))) (hv : ∀ b, row = some b → ¬ K b) (hBG : K Bw) (hG : ∀ b, K b → b < w.heap.size)
    (hg : (w.alloc A).grownBy w' row) : w'.heap[Bw]? = some (.cells #[v] 87 (0, 0)) ∧ StaysB K Bw w w' := by
  have lB : Bw < w.heap.size := (Array.getElem?_eq_some_iff.1 hB).1
  have hown : ∀ b, K b → some b ≠ row := fun b hb e => hv b e.symm hb
  have hsz : (w.alloc A).heap.size = w.heap.size + 1 := by simp
  have old : ∀ b, b < w.heap.size → (w.alloc A).heap[b]? = w.heap[b]? := fun b hb => heap_alloc_old _ _ hb
  refine ⟨(hg.block Bw (by omega) (hown Bw hBG)).trans ((old Bw lB).trans hB), ⟨hg.os, hg.tape, hg.output, ?_, fun b h1 => (hg.block b (by have := hG b h1.1; omega) (hown b h1.1)).trans (old b (hG b h1.1))⟩⟩
  have := hg.size
  omega
set_option maxRecDepth 100000 in
set_option maxHeartbeats 4000000 in
theorem t_fPush (K : Nat → Prop) (Bw : Nat) (l : List Fr) (x : Fr) (w : World) (h : FrAt w K Bw l) (hx : FrOk w K x ∧ x.q ≠ Bw) (hn : l.length ≤ 50000) (hG : ∀ b, K b → b < w.heap.size) :
    Calls Tryz.prog 236 #[.pointer (some ⟨Bw, 0, none⟩), .iface 91 (.agg #[.int .i64 (x.c : Int), .slice (some ⟨x.q, x.o, none⟩) x.n x.cap])] w fun e w' => e = .returned (.tuple #[]) ∧ FrAt w' K Bw (l ++ [x]) ∧ StaysB K Bw w w' := by
  obtain ⟨A, c, k1, k2⟩ := h.row
  have cW := box_cell k1
  have hlt := h.lt
  have HK := Lib.hid k2
  have HK1 := Lib.hid k1
  have HF := Lib.hid h
  have HX := Lib.hid hx
  clear k1 k2 h hx
  have hta := ta_front (.int .i64 (x.c : Int)) (.slice (some ⟨x.q, x.o, none⟩) x.n x.cap)
  have fW : w.frozen? ⟨Bw, 0, none⟩ = false := box_frozen HK1.out
  go_enter Tryz.func236, Tryz.ntmps236
  go_wp2
  have cA : (w.alloc (.cells (cellsFr x) 91)).cell? ⟨Bw, 0, none⟩ = some (.slice A l.length c) := box_cell ((heap_alloc_old _ _ (lt_heap HK1.out)).trans HK1.out)
  have fA : (w.alloc (.cells (cellsFr x) 91)).frozen? ⟨Bw, 0, none⟩ = false := box_frozen ((heap_alloc_old _ _ (lt_heap HK1.out)).trans HK1.out)
  go_region_law
    ((refine step_append_fr (by rfl) (.tmp 7) (.tmp 10) (by rfl) K (.slice A l.length c) l l.length (l.length + 1) rfl rfl (by rfl) ⟨HK.out.1.alloc _, HK.out.2⟩ w.heap.size x (by rfl) (heap_alloc_new w _) (by omega) (fun b hb => by show b < (w.alloc _).heap.size; rw [World.alloc_size']; have := hG b hb; omega) ?_; intro A1 c1 w' h2 h3; have H2 := Lib.hid h2; have HW := Lib.hid (fr_grow (A := .cells (cellsFr x) 91) (row := h3.choose) HK1.out h3.choose_spec.2 hlt hG ⟨h3.choose_spec.1.os, h3.choose_spec.1.tape, h3.choose_spec.1.output, h3.choose_spec.1.size, h3.choose_spec.1.block⟩); have cB' := box_cell HW.out.1; have fB' := box_frozen HW.out.1; clear h2 h3))
  all_goals
    go_wp2
    go_end0
    have hfin : StaysB K Bw w (w'.setCell ⟨Bw, 0, none⟩ (.slice A1 (l.length + 1) c1)) := by
      have hr := HW.out.2
      have hg := pgrown_set w' Bw 0 (.slice A1 (l.length + 1) c1)
      exact ⟨hg.os.trans hr.os, hg.tape.trans hr.tape, hg.output.trans hr.output, Nat.le_trans hr.size hg.size, fun b h1 => (hg.block b (by have := hr.size; have := hG b h1.1; omega) (fun e => h1.2 (Option.some.inj e))).trans (hr.old b h1)⟩
    refine ⟨rfl, ⟨⟨A1, c1, ?_, ?_⟩, hlt, fun e he => ?_⟩, hfin⟩
    · rw [pheap_set _ Bw 0 _ _ _ HW.out.1, List.length_append]
      rfl
    · rw [List.length_append]
      exact ⟨H2.out.1.kept (pgrown_set w' Bw 0 _) (by
        cases hvo : (Value.slice A1 (l.length + 1) c1).ownBlock with
        | none => exact .inl rfl
        | some x => exact .inr (fun e => H2.out.2 x hvo (Option.some.inj e ▸ hlt))), H2.out.2⟩
    · rcases List.mem_append.1 he with he | he
      · exact ⟨(HF.out.keys e he).1.stays (HF.out.keys e he).2 hfin, (HF.out.keys e he).2⟩
      · rw [List.mem_singleton] at he
        subst he
        exact ⟨HX.out.1.stays HX.out.2 hfin, HX.out.2⟩
set_option maxRecDepth 100000 in
set_option maxHeartbeats 4000000 in
theorem t_fPop (K : Nat → Prop) (Bw : Nat) (l : List Fr) (n : Nat) (w : World) (h : FrAt w K Bw l) (hn : l.length ≤ 50000) (h0 : n + 1 = l.length) (hG : ∀ b, K b → b < w.heap.size) :
    Calls Tryz.prog 235 #[.pointer (some ⟨Bw, 0, none⟩)] w fun e w' => e = .returned (.iface 91 (.agg (cellsFr (fAt l n)))) ∧ FrAt w' K Bw (l.take n) ∧ StaysB K Bw w w' := by
  obtain ⟨A, c, k1, k2⟩ := h.row
  have hlt := h.lt
  rw [← h0] at k1 k2 hn
  have cW := box_cell k1
  obtain ⟨g, rfl, hg, hl, cx, cx1, fx⟩ := fr_cell k2 (Nat.lt_succ_self n)
  have HN := Lib.hid h0
  have HF := Lib.hid h
  have HK := Lib.hid k2
  have HK1 := Lib.hid k1
  have fW : w.frozen? ⟨Bw, 0, none⟩ = false := box_frozen k1
  have hcc := row_cap k2.1
  have hc1 : (n : Int) ≤ (c : Int) := by omega
  clear k1 k2 h h0 hcc hl fx
  have hBs : Bw < w.heap.size := lt_heap HK1.out
  have hs1 : ¬ Bw = w.heap.size := by omega
  have hs2 : ¬ w.heap.size = Bw := by omega
  clear hBs
  have cA : (w.alloc (.cells (cellsFr (fAt l n)) 91)).cell? ⟨Bw, 0, none⟩ = some (.slice (some ⟨g, 0, none⟩) (n + 1) c) := box_cell ((heap_alloc_old _ _ (lt_heap HK1.out)).trans HK1.out)
  have fA : (w.alloc (.cells (cellsFr (fAt l n)) 91)).frozen? ⟨Bw, 0, none⟩ = false := box_frozen ((heap_alloc_old _ _ (lt_heap HK1.out)).trans HK1.out)
  go_enter Tryz.func235, Tryz.ntmps235
  go_wp2
  go_ret
  have hl : l = l.take n ++ [fAt l n] := by
    have h1 := List.take_append_drop n l
    rw [List.drop_eq_getElem_cons (by rw [← HN.out]; omega)] at h1
    have h2 : l.drop (n + 1) = [] := List.drop_of_length_le (by rw [← HN.out]; omega)
    have h3 : l[n]'(by rw [← HN.out]; omega) = fAt l n := by
      have h4 := fAt_get (l := l) (k := n) (by rw [← HN.out]; omega)
      rw [List.getElem?_eq_getElem (by rw [← HN.out]; omega)] at h4
      exact Option.some.inj h4
    rw [h2, h3] at h1
    exact h1.symm
  have hlen : (l.take n).length = n := by rw [List.length_take, ← HN.out]; omega
  have hg1 := pgrown_set (w.alloc (.cells (cellsFr (fAt l n)) 91)) Bw 0 (.slice (some ⟨g, 0, none⟩) n c)
  have hfin : StaysB K Bw w ((w.alloc (.cells (cellsFr (fAt l n)) 91)).setCell ⟨Bw, 0, none⟩ (.slice (some ⟨g, 0, none⟩) n c)) :=
    ⟨hg1.os, hg1.tape, hg1.output, Nat.le_trans (by rw [World.alloc_size']; omega) hg1.size, fun b h1 => (hg1.block b (by rw [World.alloc_size']; have := hG b h1.1; omega) (fun e => h1.2 (Option.some.inj e))).trans (heap_alloc_old _ _ (hG b h1.1))⟩
  have hrow : OwnF ((w.alloc (.cells (cellsFr (fAt l n)) 91)).setCell ⟨Bw, 0, none⟩ (.slice (some ⟨g, 0, none⟩) n c)) K (.slice (some ⟨g, 0, none⟩) n c) n (l.take n) := by
    refine ⟨?_, HK.out.2⟩
    have h0 := HK.out.1
    rw [hl, frV_append] at h0
    have h1 := ownsRow_pop (size := 2) (by rw [frV_len, hlen]) h0
    exact (h1.alloc _).kept hg1 (by
      right
      intro e
      have : g = Bw := Option.some.inj e
      exact hg (this ▸ hlt))
  refine ⟨rfl, ⟨⟨some ⟨g, 0, none⟩, c, ?_, ?_⟩, hlt, fun e he => ?_⟩, hfin⟩
  · rw [hlen, pheap_set _ Bw 0 _ _ _ ((heap_alloc_old _ _ (lt_heap HK1.out)).trans HK1.out)]
    rfl
  · rw [hlen]
    exact hrow
  · have he' := List.mem_of_mem_take he
    exact ⟨(HF.out.keys e he').1.stays (HF.out.keys e he').2 hfin, (HF.out.keys e he').2⟩
set_option maxRecDepth 100000 in
set_option maxHeartbeats 4000000 in
/-- A front goes into the heap. -/
theorem t_fhPush (K : Nat → Prop) (Bw : Nat) (l : List Fr) (x : Fr) (w : World) (h : FrAt w K Bw l) (hh : HeapL l) (hx : FrOk w K x ∧ x.q ≠ Bw) (hpos : ∀ e ∈ x :: l, 1 ≤ e.n) (hn : l.length ≤ 40000) (hG : ∀ b, K b → b < w.heap.size) :
    Calls Tryz.prog 54 #[frI Bw, .iface 91 (.agg #[.int .i64 (x.c : Int), .slice (some ⟨x.q, x.o, none⟩) x.n x.cap])] w fun e w' => e = .returned (.tuple #[]) ∧ ∃ l', l'.Perm (x :: l) ∧ HeapL l' ∧ FrAt w' K Bw l' ∧ StaysB K Bw w w' := by
  go_enter Tryz.func54, Tryz.ntmps54
  go_wp2_with (go_at_call 236; (with_reducible refine (t_fPush K Bw l x _ h hx (by omega) hG).mono ?_); rintro e w1 ⟨rfl, h1, h2⟩; have H1 := Lib.hid (And.intro h1 h2); clear h1 h2)
  obtain ⟨A, c, k1, k2⟩ := H1.out.1.row
  rw [show (l ++ [x]).length = l.length + 1 by simp] at k1 k2
  have hlt := H1.out.1.lt
  have hw := H1.out.2.size
  have hu : UpInv (fAt (l ++ [x])) (l ++ [x]).length l.length := by rw [show (l ++ [x]).length = l.length + 1 by simp]; exact UpInv.push hh x
  have HU := Lib.hid hu
  rw [fmLen _ _ _ (box_cell k1)]
  clear k1 k2 hu
  go_wp2_with (first
    | (go_at_call 228; (with_reducible refine (t_fLen A _ c _).mono ?_); rintro e w' ⟨rfl, rfl⟩)
    | (go_at_call 96; (with_reducible refine (t_fUp K Bw (l ++ [x]) l.length w1 H1.out.1 (by simp) HU.out (fun e he => hpos e ((List.mem_append.1 he).elim (List.mem_cons_of_mem _) (fun he => by rw [List.mem_singleton] at he; rw [he]; exact List.mem_cons_self))) (by simp; omega) (fun b hb => Nat.lt_of_lt_of_le (hG b hb) hw)).mono ?_); rintro e w2 ⟨rfl, l2, h1, h2, h3, h4⟩; have H2 := Lib.hid (And.intro h1 (And.intro h2 (And.intro h3 h4))); clear h1 h2 h3 h4))
  go_end0
  exact ⟨rfl, l2, H2.out.1.trans (List.perm_append_comm (l₁ := l) (l₂ := [x])), H2.out.2.1, H2.out.2.2.1, H1.out.2.trans' H2.out.2.2.2⟩
set_option maxRecDepth 100000 in
set_option maxHeartbeats 4000000 in
/-- The root has turned. -/
theorem t_fhFix (K : Nat → Prop) (Bw : Nat) (l : List Fr) (w : World) (h : FrAt w K Bw l) (hd : DownInv (fAt l) l.length 0) (h0 : 0 < l.length) (hpos : ∀ e ∈ l, 1 ≤ e.n) (hn : l.length ≤ 40000) (hG : ∀ b, K b → b < w.heap.size) :
    Calls Tryz.prog 56 #[frI Bw, .int .i64 0] w fun e w' => e = .returned (.tuple #[]) ∧ ∃ l', l'.Perm l ∧ HeapL l' ∧ FrAt w' K Bw l' ∧ StaysB K Bw w w' := by
  obtain ⟨A, c, k1, k2⟩ := h.row
  have cW := box_cell k1
  have HH := Lib.hid h
  have HD := Lib.hid hd
  clear k1 k2 h hd
  go_enter Tryz.func56, Tryz.ntmps56
  go_wp2
  rw [fmLen _ _ _ cW]
  go_wp2_with (first
    | (go_at_call 228; (with_reducible refine (t_fLen A _ c _).mono ?_); rintro e w' ⟨rfl, rfl⟩)
    | (go_at_call 97; (with_reducible refine (t_fDown K Bw l l.length _ HH.out h0 (Nat.le_refl _) HD.out (fun k hk => hpos _ (fAt_mem hk)) (by omega) hG).mono ?_); rintro e w2 ⟨hr, l2, h1, h2, h3, h4, h5⟩; obtain ⟨b, rfl⟩ := hr.get; have H2 := Lib.hid (And.intro h1 (And.intro h2 (And.intro h4 h5))); clear h1 h2 h3 h4 h5 hr; cases b)
    | (go_at_call 96; (with_reducible refine (t_fUp0 Bw _).mono ?_); rintro e w' ⟨rfl, rfl⟩))
  all_goals
    go_end0
    refine ⟨rfl, l2, H2.out.1, ?_, H2.out.2.2.1, H2.out.2.2.2⟩
    unfold HeapL
    rw [H2.out.1.length_eq]
    exact H2.out.2.1
/-- The list without its root. -/
theorem remove_list {e : Fr} {l l3 : List Fr} {n : Nat} (hn : n = l.length) (hp : l3.Perm (((e :: l).set 0 (fAt (e :: l) n)).set n (fAt (e :: l) 0))) (hh : HeapF (fAt l3) n) (ht : ∀ k, n ≤ k → fAt l3 k = fAt (((e :: l).set 0 (fAt (e :: l) n)).set n (fAt (e :: l) 0)) k) :
    (l3.take n).Perm l ∧ HeapL (l3.take n) := by
  have hp2 : (((e :: l).set 0 (fAt (e :: l) n)).set n (fAt (e :: l) 0)).Perm (e :: l) := swap_perm (e :: l) 0 n _ _ rfl (fAt_get (by simp; omega))
  have hlen : l3.length = n + 1 := by rw [(hp.trans hp2).length_eq]; simp; omega
  have hlast : fAt l3 n = e := by
    rw [ht n (Nat.le_refl _)]
    apply fAt_eq
    rw [List.getElem?_set_self (by simp; omega)]
    rfl
  have hsplit : l3 = l3.take n ++ [e] := by
    have h1 := List.take_append_drop n l3
    rw [List.drop_eq_getElem_cons (by omega), List.drop_of_length_le (by omega)] at h1
    have h4 := fAt_get (l := l3) (k := n) (by omega)
    rw [List.getElem?_eq_getElem (by omega)] at h4
    rw [Option.some.inj h4, hlast] at h1
    exact h1.symm
  have hl3 : (l3.take n).length = n := by rw [List.length_take]; omega
  refine ⟨?_, ?_⟩
  · have h1 := hp.trans hp2
    rw [hsplit] at h1
    exact (List.perm_cons e).1 ((List.perm_append_comm (l₁ := [e]) (l₂ := l3.take n)).trans h1)
  · unfold HeapL
    rw [hl3]
    exact hh.congr fun k hk => by unfold fAt; rw [List.getElem?_take_of_lt hk]
set_option maxRecDepth 100000 in
set_option maxHeartbeats 4000000 in
/-- The root goes. -/
theorem t_fhRemove (K : Nat → Prop) (Bw : Nat) (e0 : Fr) (l : List Fr) (w : World) (h : FrAt w K Bw (e0 :: l)) (hd : DownInv (fAt (((e0 :: l).set 0 (fAt (e0 :: l) l.length)).set l.length e0)) l.length 0) (hpos : ∀ e ∈ l, 1 ≤ e.n) (hn : l.length ≤ 40000) (hG : ∀ b, K b → b < w.heap.size) :
    Calls Tryz.prog 55 #[frI Bw, .int .i64 0] w fun e w' => (∃ v : Value, e = .returned v) ∧ ∃ l', l'.Perm l ∧ HeapL l' ∧ FrAt w' K Bw l' ∧ StaysB K Bw w w' := by
  obtain ⟨A, c, k1, k2⟩ := h.row
  obtain ⟨n, hnn⟩ : ∃ n, n = l.length := ⟨_, rfl⟩
  rw [List.length_cons, ← hnn] at k1 k2
  rw [← hnn] at hd hn
  have cW := box_cell k1
  have HH := Lib.hid h
  have HD : Hid (DownInv (fAt (((e0 :: l).set 0 (fAt (e0 :: l) n)).set n (fAt (e0 :: l) 0))) n 0) := hd
  have HN := Lib.hid hnn
  have HK := Lib.hid k2
  have HK1 := Lib.hid k1
  have HGr := Lib.hid hG
  have HPOS : Hid (∀ k, k < n → 1 ≤ (fAt (((e0 :: l).set 0 (fAt (e0 :: l) n)).set n (fAt (e0 :: l) 0)) k).n) := fun k hk => by
    rw [fAt_set (by simp) (by simp; omega)]
    unfold swapF
    rw [if_neg (by omega)]
    split
    · obtain ⟨m, rfl⟩ : ∃ q, n = q + 1 := ⟨n - 1, by omega⟩
      exact hpos _ (fAt_mem (l := l) (k := m) (by omega))
    · obtain ⟨m, rfl⟩ : ∃ q, k = q + 1 := ⟨k - 1, by omega⟩
      exact hpos _ (fAt_mem (l := l) (k := m) (by omega))
  clear k1 k2 h hd hnn hpos
  by_cases hn0 : n = 0
  · subst hn0
    go_enter Tryz.func55, Tryz.ntmps55
    go_wp2
    rw [fmLen _ _ _ cW]
    go_wp2_with (first
      | (go_at_call 228; (with_reducible refine (t_fLen A _ c _).mono ?_); rintro e w' ⟨rfl, rfl⟩)
      | (go_at_call 235; (with_reducible refine (t_fPop K Bw (e0 :: l) 0 _ HH.out (by rw [List.length_cons, ← HN.out]; omega) (by rw [List.length_cons, ← HN.out]) HGr.out).mono ?_); rintro e w2 ⟨rfl, h1, h2⟩; have H2 := Lib.hid (And.intro h1 h2); clear h1 h2))
    go_ret
    refine ⟨⟨_, rfl⟩, [], ?_, HeapL.nil, H2.out.1, H2.out.2⟩
    rw [List.length_eq_zero_iff.1 HN.out.symm]
  · have hn1 : 0 < n := by omega
    have hne : ((n : Int) != 0) = true := by simp; omega
    have HSW : Hid (Calls Tryz.prog 230 #[.slice A (n + 1) c, .int .i64 0, .int .i64 (n : Int)] w fun e w' => e = .returned (.tuple #[]) ∧ OwnF w' K (.slice A (n + 1) c) (n + 1) (((e0 :: l).set 0 (fAt (e0 :: l) n)).set n (fAt (e0 :: l) 0)) ∧ Stays K w w') := t_fSwap K (n + 1) c A (e0 :: l) 0 n w HK.out (by omega) (by omega) hn1 (by omega)
    clear hn0
    go_enter Tryz.func55, Tryz.ntmps55
    go_wp2
    rw [fmLen _ _ _ cW]
    go_wp2_with (first
      | (go_at_call 228; (with_reducible refine (t_fLen A _ c _).mono ?_); rintro e w' ⟨rfl, rfl⟩))
    rw [fmSwap _ _ _ cW]
    go_wp2_with (first
      | (go_at_call 230; (with_reducible refine HSW.out.mono ?_); rintro e w2 ⟨rfl, h1, h2⟩; have HS := Lib.hid (HH.out.swapped HK1.out (by rw [List.length_cons, ← HN.out]) (by omega : 0 < n + 1) (Nat.lt_succ_self n) (Stays.refl' _ _) h1 h2); clear h1 h2)
      | (go_at_call 97; (with_reducible refine (t_fDown K Bw _ n w2 HS.out.2.1 hn1 (by rw [HS.out.1.length_eq, List.length_cons, ← HN.out]; omega) HD.out HPOS.out (by rw [HS.out.1.length_eq, List.length_cons, ← HN.out]; omega) (fun b hb => Nat.lt_of_lt_of_le (HGr.out b hb) HS.out.2.2.size)).mono ?_); rintro e w3 ⟨hr, l3, h1, h2, h3, h4, h5⟩; obtain ⟨b, rfl⟩ := hr.get; have H3 := Lib.hid (And.intro h1 (And.intro h2 (And.intro h3 (And.intro h4 h5)))); clear h1 h2 h3 h4 h5 hr; cases b)
      | (go_at_call 96; (with_reducible refine (t_fUp0 Bw _).mono ?_); rintro e w' ⟨rfl, rfl⟩)
      | (go_at_call 235; go_loud ((with_reducible refine (t_fPop K Bw l3 n _ H3.out.2.2.2.1 (by rw [H3.out.1.length_eq, HS.out.1.length_eq, List.length_cons, ← HN.out]; omega) (by rw [H3.out.1.length_eq, HS.out.1.length_eq, List.length_cons, ← HN.out]) (fun b hb => Nat.lt_of_lt_of_le (HGr.out b hb) (Nat.le_trans HS.out.2.2.size H3.out.2.2.2.2.size))).mono ?_); rintro e w4 ⟨rfl, h1, h2⟩; have H4 := Lib.hid (And.intro h1 h2); clear h1 h2)))
    all_goals
      go_ret
      have hrem := remove_list HN.out H3.out.1 H3.out.2.1 H3.out.2.2.1
      exact ⟨⟨_, rfl⟩, l3.take n, hrem.1, hrem.2, H4.out.1, (HS.out.2.2.trans' H3.out.2.2.2.2).trans' H4.out.2⟩
end Go.Proofs.YtehckjkihaalfaaGreat
