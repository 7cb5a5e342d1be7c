/- Parts of a record, walked. -/
import Derived.Test.YtehckjkihaalfaaGreatB0
import Derived.Laws.OwnMore
namespace Go.Proofs.YtehckjkihaalfaaGreat
open Go.RowKit Go.Maps

structure Pt where
  kind : Int
  ino : Int
  name : ByteArray
  write : Bool
abbrev Pt.val (p : Pt) : Value := .agg #[.int .u8 p.kind, .int .u32 p.ino, .string p.name, .bool p.write]
def Pt.cells (p : Pt) : List Value := [.int .u8 p.kind, .int .u32 p.ino, .string p.name, .bool p.write]
def flatP (l : List Pt) : List Value := l.flatMap Pt.cells
/-- All but box B stays, below G. -/
structure RelO (B G : Nat) (W W' : World) : Prop where
  os : W'.os = W.os
  tape : W'.tape = W.tape
  output : W'.output = W.output
  size : W.heap.size ≤ W'.heap.size
  old : ∀ b, b < G → b ≠ B → W'.heap[b]? = W.heap[b]?
theorem row_slice {w : World} {base n size : Nat} {e : TypeId} {v : Value} {xs : List Value} (h : w.ownsRow base e size v n xs) : ∃ A c, v = .slice A n c := by
  rcases h.2 with ⟨rfl, rfl⟩ | ⟨g, cap, cur, rfl, _⟩
  · exact ⟨none, 0, rfl⟩
  · exact ⟨_, cap, rfl⟩
theorem infoPt : ∃ i, Tryz.prog.info? 142 = some i ∧ i.zero = some (.agg #[.int .u8 0, .int .u32 0, .string ⟨#[]⟩, .bool false]) ∧ i.size = 4 ∧ i.bytes = 32 := by
  have : (Tryz.prog.info? 142).map (fun i => (i.zero, i.size, i.bytes)) = some (some (.agg #[.int .u8 0, .int .u32 0, .string ⟨#[]⟩, .bool false]), 4, 32) := by kernel_rfl
  obtain ⟨i, hi, he⟩ := Option.map_eq_some_iff.1 this
  simp only [Prod.mk.injEq] at he
  exact ⟨i, hi, he.1, he.2.1, he.2.2⟩
theorem flatP_append (a b : List Pt) : flatP (a ++ b) = flatP a ++ flatP b := by unfold flatP; rw [List.flatMap_append]
theorem run_append_pt (base ty : Nat) (w : World) (v : Value) (l : List Pt) (hown : w.ownsRow base 142 4 v l.length (flatP l)) (q : Nat) (p : Pt) (hq : w.heap[q]? = some (.cells p.cells.toArray 142 (0, 0)))
    (hl : l.length ≤ 100000) (hbase : base ≤ w.heap.size) :
    ∃ v' w', (Builtin.append_ #[106, 106] ty #[v, .slice (some ⟨q, 0, none⟩) 1 1]).run Tryz.prog w = .ok v' w' ∧ w'.ownsRow base 142 4 v' (l.length + 1) (flatP (l ++ [p])) ∧ w.grownBy w' v.ownBlock := by
  obtain ⟨i0, hi, hz0, hz1, hz2⟩ := infoPt
  obtain ⟨v', w', hrun, h2, h3, _, _⟩ := run_append_own_at (P := Tryz.prog) w base 106 ty 142 i0 _ 4 32 Tryz.underlying106 hi hz0 hz1 hz2 rfl (by decide) v l.length (flatP l) hown ⟨q, 0, none⟩ 1 1 p.cells
    rfl (fun j u hu => by
      rw [Addr.add_mid, Nat.zero_add]
      simp only [World.cell?, hq]
      simpa using hu) (by simp [Pt.cells, Value.oneCell']) (by unfold maxLen; omega) (by omega) hbase
  exact ⟨v', w', hrun, by rw [flatP_append, show flatP [p] = p.cells by simp [flatP]]; exact h2, h3⟩
theorem wpList_append_pt {ops : Array Oper} {rest : List Oper} {o : Oper} {a : Act} {Q : Exit → Act → World → Prop} {w : World} (hgd : o.guard = none) (s x : Operand)
    (ho : o.op = .call { callee := .builtin .append, args := #[s, x], argTypes := #[106, 106] })
    (base : Nat) (v : Value) (l : List Pt) (n k : Nat) (hn : l.length = n) (hk : n + 1 = k) (hs : a.eval s = v) (hown : w.ownsRow base 142 4 v n (flatP l)) (q : Nat) (p : Pt) (hx : a.eval x = .slice (some ⟨q, 0, none⟩) 1 1)
    (hq : w.heap[q]? = some (.cells p.cells.toArray 142 (0, 0))) (hl : l.length ≤ 100000) (hbase : base ≤ w.heap.size)
    (h : ∀ A1 c1 w', w'.ownsRow base 142 4 (.slice A1 k c1) k (flatP (l ++ [p])) → w.grownBy w' v.ownBlock → wpList Tryz.prog ops Q rest (a.put o.dst (.slice A1 k c1)) w') : wpList Tryz.prog ops Q (o :: rest) a w :=
  wpList_plain hgd fun _ hK => by
    subst hk
    subst hn
    obtain ⟨v', w', hrun, h2, h3⟩ := run_append_pt base o.type w v l hown q p hq hl hbase
    unfold Oper.wp execOp
    simp only [ho, resolve, invoke, builtin, Sem.run_bind, Sem.run_pure, Result.andThen_ok, List.map_toArray, List.map_cons, List.map_nil, hs, hx, hrun]
    obtain ⟨A1, c1, rfl⟩ := row_slice h2
    exact hK _ _ (h A1 c1 w' h2 h3)
theorem part_grow {w w' : World} {Bo G : Nat} {v : Value} {l : List Pt} {A B : Obj} (hB : w.heap[Bo]? = some (.cells #[v] 106 (0, 0))) (hv : w.ownsRow G 142 4 v l.length (flatP l)) (hBG : Bo < G) (hG : G ≤ w.heap.size)
    (hg : ((w.alloc A).alloc B).grownBy w' v.ownBlock) : w'.cell? ⟨Bo, 0, none⟩ = some v ∧ w'.frozen? ⟨Bo, 0, none⟩ = false ∧ w'.heap[Bo]? = some (.cells #[v] 106 (0, 0)) ∧ RelO Bo G w w' := by
  have lB : Bo < w.heap.size := (Array.getElem?_eq_some_iff.1 hB).1
  have hown : ∀ b, b < G → some b ≠ v.ownBlock := fun b hb e => by have := (hv.lt b e.symm).1; omega
  have hsz : ((w.alloc A).alloc B).heap.size = w.heap.size + 1 + 1 := by simp
  have old : ∀ b, b < w.heap.size → ((w.alloc A).alloc B).heap[b]? = w.heap[b]? := fun b hb => (heap_alloc_old _ _ (by simp; omega)).trans (heap_alloc_old _ _ hb)
  have hh : w'.heap[Bo]? = some (.cells #[v] 106 (0, 0)) := by
    rw [hg.block Bo (by omega) (hown Bo hBG), old Bo lB, hB]
  refine ⟨by simp only [World.cell?, hh]; rfl, by simp [World.frozen?, hh], hh, hg.os, hg.tape, hg.output, by have := hg.size; omega, fun b h1 h2 => ?_⟩
  by_cases hb : b < w.heap.size
  · rw [hg.block b (by omega) (hown b h1), old b hb]
  · omega
set_option maxRecDepth 100000 in
set_option maxHeartbeats 4000000 in
theorem t_write (p : Pt) (g Bo G : Nat) (v : Value) (l : List Pt) (w : World) (hg : w.heap[g]? = some (.cells p.cells.toArray 142 (0, 0)))
    (hB : w.heap[Bo]? = some (.cells #[v] 106 (0, 0))) (hBG : Bo < G) (hG : G ≤ w.heap.size) (hv : w.ownsRow G 142 4 v l.length (flatP l)) (hl : l.length ≤ 1000) :
    Calls Tryz.prog 103 #[.slice (some ⟨g, 0, none⟩) 1 1, .pointer (some ⟨Bo, 0, none⟩)] w fun e w' => e = .returned (.tuple #[]) ∧ ∃ v', w'.heap[Bo]? = some (.cells #[v'] 106 (0, 0)) ∧ w'.ownsRow G 142 4 v' (l.length + 1) (flatP (l ++ [{ p with write := true }])) ∧ RelO Bo G w w' := by
  obtain ⟨k, i, n, b⟩ := p
  have cg : ∀ (j : Nat) (u : Value), (Pt.cells ⟨k, i, n, b⟩)[j]? = some u → w.cell? ⟨g, j, none⟩ = some u := fun j u hu => by
    simp only [World.cell?, hg]
    simpa using hu
  have g0 := cg 0 _ rfl
  have g1 := cg 1 _ rfl
  have g2 := cg 2 _ rfl
  have g3 := cg 3 _ rfl
  have cB : w.cell? ⟨Bo, 0, none⟩ = some v := by simp only [World.cell?, hB]; rfl
  have lB : Bo < w.heap.size := (Array.getElem?_eq_some_iff.1 hB).1
  have HB := Lib.hid hB
  have HV := Lib.hid hv
  clear hg hB hv cg
  go_enter Tryz.func103, Tryz.ntmps103
  go_wp2
  go_loopw [7] (fun x wr => (x = .int .i64 0 ∧ wr = w) ∨ (x = .int .i64 1 ∧ Hid (∃ v', wr.heap[Bo]? = some (.cells #[v'] 106 (0, 0)) ∧ wr.ownsRow G 142 4 v' (l.length + 1) (flatP (l ++ [(⟨k, i, n, true⟩ : Pt)])) ∧ RelO Bo G w wr))) (fun x _ => 2 - (intOf x).toNat)
  case atStart => exact .inl ⟨rfl, rfl⟩
  case round =>
    rcases hrel with ⟨rfl, rfl⟩ | ⟨rfl, HR⟩
    · have hx1 : ∀ c : Array Value, ((wr.alloc (.cells c 142)).alloc (.cells #[.int .u8 k, .int .u32 i, .string n, .bool true] 142)).heap[wr.heap.size + 1]? = some (.cells (Pt.cells ⟨k, i, n, true⟩).toArray 142 (0, 0)) := fun c => by
        have := heap_alloc_new (wr.alloc (.cells c 142)) (.cells #[.int .u8 k, .int .u32 i, .string n, .bool true] 142)
        rw [show (wr.alloc (.cells c 142)).heap.size = wr.heap.size + 1 by simp] at this
        exact this
      have HX := Lib.hid hx1
      clear hx1
      go_wp2_with (at_builtin; refine wpList_append_pt rfl (.tmp 12) (.tmp 14) rfl G v l l.length (l.length + 1) rfl rfl rfl ((HV.out.alloc _).alloc _) (wr.heap.size + 1) ⟨k, i, n, true⟩ rfl (HX.out _) (by omega) (by simp; omega) ?_; intro A1 c1 w' h2 h3; have H2 := Lib.hid h2; have hw := part_grow HB.out HV.out hBG hG h3; have cB' := hw.1; have fB' := hw.2.1; have HW := Lib.hid hw; clear h2 h3 hw)
      refine ⟨.inr ⟨rfl, ?_⟩, by decide⟩
      have hb := HW.out.2.2.1
      refine ⟨_, by rw [pheap_set _ Bo 0 _ _ _ hb]; rfl, ?_, ?_⟩
      · exact H2.out.kept (pgrown_set w' Bo 0 _) (by
          cases hvo : (Value.slice A1 (l.length + 1) c1).ownBlock with
          | none => exact .inl rfl
          | some x => exact .inr (fun e => by injection e with e; have := (H2.out.lt x hvo).1; omega))
      · have hr := HW.out.2.2.2
        have hg := pgrown_set w' Bo 0 (.slice A1 (l.length + 1) c1)
        exact ⟨hg.os.trans hr.os, hg.tape.trans hr.tape, hg.output.trans hr.output, Nat.le_trans hr.size hg.size, fun b h1 h2 => (hg.block b (by have := hr.size; omega) (fun e => h2 (by injection e))).trans (hr.old b h1 h2)⟩
    · go_wp2
      go_end0
      exact ⟨rfl, HR.out⟩
end Go.Proofs.YtehckjkihaalfaaGreat
