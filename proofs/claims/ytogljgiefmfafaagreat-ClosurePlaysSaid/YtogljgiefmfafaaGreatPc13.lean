/- A record in a block; what stays. -/
import Derived.Test.YtogljgiefmfafaaGreatPc02
import Derived.Test.YtogljgiefmfafaaGreatPc10
import Derived.Test.YtogljgiefmfafaaGreatPc12
import Derived.Laws.OwnMore
namespace Go.Proofs.YtogljgiefmfafaaGreat
section
open Go.RowKit Go.Maps
abbrev cellsR (r : R) : Array Value := #[.int .u64 r.stamp, .int .u8 r.act, .int .u32 r.dir, .string r.name, .int .u32 r.ino, .int .u8 r.kind, .int .u32 r.dir2, .string r.name2, .int .u32 r.old, .int .u32 r.size, .int .i64 r.page, .string r.data]
theorem lt_heap {W : World} {B : Nat} {o : Obj} (h : W.heap[B]? = some o) : B < W.heap.size := (Array.getElem?_eq_some_iff.1 h).1
theorem below_a1' (w : World) (a : Obj) : Below w.heap.size w (w.alloc a) := (Below.refl _ _).alloc (Nat.le_refl _) _
theorem rec_cell0 {w : World} {B : Nat} {r : R} (h : w.heap[B]? = some (.cells (cellsR r) 50 (0, 0))) (i : Nat) (v : Value) (hv : (cellsR r)[i]? = some v) : w.cell? ⟨B, i, none⟩ = some v := by
 simp only [World.cell?, h]; exact hv
def RelB (W W' : World) : Prop := Below W.heap.size W W'
theorem RelB.refl (W : World) : RelB W W := Below.refl _ _
theorem RelB.of {W W' : World} (h : Below W.heap.size W W') : RelB W W' := h
theorem RelB.trans {W W' W'' : World} (h : RelB W W') (g : RelB W' W'') : RelB W W'' := ptrans h g
theorem RelB.rec {W W' : World} {B : Nat} {o : Obj} (h : RelB W W') (ho : W.heap[B]? = some o) : W'.heap[B]? = some o := (Below.block h B (lt_heap ho)).trans ho
theorem below_drew (w : World) : Below w.heap.size w w.drew := ⟨rfl, rfl, rfl, Nat.le_refl _, fun _ _ => rfl⟩
theorem bare_of_check {r : R} (hr : r.Ok) (h : checkB r = true) : r.Bare := by
 have hsz : ∀ s : ByteArray, s.data.toList.length = s.size := fun s => (Lib.size_eq s).symm
 have hnil : ∀ s : ByteArray, s.size = 0 → s.data.toList = [] := fun s h => List.eq_nil_of_length_eq_zero (by rw [hsz]; exact h)
 unfold checkB fitB at h
 simp only [Bool.and_eq_true, Bool.or_eq_true, Bool.not_eq_true', decide_eq_true_eq, beq_iff_eq] at h
 obtain ⟨⟨⟨⟨⟨⟨⟨a1, a2⟩, a3⟩, h1⟩, h2⟩, h3⟩, h4⟩, h5⟩ := h
 have hp : ∀ s : ByteArray, pnameB s = true → s.size ≤ 27 := fun s hs => by
  unfold pnameB at hs
  simp only [Bool.and_eq_true, decide_eq_true_eq] at hs
  exact hs.1.1.1.2
 refine ⟨hr, ?_, ?_, ?_, ?_, ?_, ?_, ?_, ?_, ?_, ?_, ?_, ?_, ?_⟩
 · intro c; rcases h1 with ⟨e, _⟩ | ⟨_, e⟩
   · rw [c] at e; cases e
   · exact e.1
 · intro c; rcases h1 with ⟨e, _⟩ | ⟨_, e⟩
   · rw [c] at e; cases e
   · exact hnil _ e.2
 · rcases h1 with ⟨_, e⟩ | ⟨_, e⟩
   · rw [hsz]; have := hp _ e.2; omega
   · rw [hsz]; omega
 · intro c; rcases h2 with ⟨e, _⟩ | ⟨_, e⟩
   · rw [c] at e; cases e
   · exact e
 · intro c; rcases h3 with ⟨e, _⟩ | ⟨_, e⟩
   · rw [c] at e; cases e
   · exact e.1.1
 · intro c; rcases h3 with ⟨e, _⟩ | ⟨_, e⟩
   · rw [c] at e; cases e
   · exact hnil _ e.1.2
 · rcases h3 with ⟨_, e⟩ | ⟨_, e⟩
   · rw [hsz]; have := hp _ e.1.2; omega
   · rw [hsz]; omega
 · intro c; rcases h3 with ⟨e, _⟩ | ⟨_, e⟩
   · rw [c] at e; cases e
   · exact e.2
 · intro c; rcases h4 with ⟨e, _⟩ | ⟨_, e⟩
   · rw [c] at e; cases e
   · exact e
 · intro c; rcases h5 with ⟨e, _⟩ | ⟨_, e⟩
   · rw [c] at e; cases e
   · exact e.1
 · rcases h5 with ⟨_, e⟩ | ⟨_, e⟩
   · omega
   · omega
 · intro c; rcases h5 with ⟨e, _⟩ | ⟨_, e⟩
   · rw [c] at e; cases e
   · exact hnil _ e.2
 · intro c; rcases h5 with ⟨_, e⟩ | ⟨e, _⟩
   · rw [hsz]; exact e.2
   · rw [c] at e; cases e
end

section
open Go.RowKit Go.Maps
section
variable {t : PT}
def lookA (t : PT) (r : R) : Int := if (lookP t r.dir r.name).2 = 0 ∧ (lookP t r.dir r.name).1 ≠ r.ino then 2 else (lookP t r.dir r.name).2
def madeA (t : PT) (r : R) : Int × PT := if (makeAtP t r.dir r.name r.kind r.ino).1 ≠ 0 ∨ r.kind = 2 then makeAtP t r.dir r.name r.kind r.ino else holdP (makeAtP t r.dir r.name r.kind r.ino).2 r.ino
def linkA (t : PT) (r : R) : Int × PT := linkP t r.dir r.name r.ino
noncomputable def unlinkA (t : PT) (r : R) : Int × PT :=
 if lookA t r ≠ 0 then (lookA t r, t)
 else if r.kind = 2 then ((dropP t r.dir r.name rmdirE).1.2, (dropP t r.dir r.name rmdirE).2)
 else ((dropP t r.dir r.name unlinkE).1.2, (dropP t r.dir r.name unlinkE).2)
def kindAt (t : PT) (i : Int) : Int := match t.n i with | some x => x.kind | none => 0
def oldAt (t : PT) (r : R) : Int := if (lookP t r.dir2 r.name2).2 = 0 then (lookP t r.dir2 r.name2).1 else 0
noncomputable def renameA (t : PT) (r : R) : Int × PT :=
 if lookA t r ≠ 0 then (lookA t r, t)
 else if kindAt t r.ino ≠ r.kind ∨ oldAt t r ≠ r.old then (2, t)
 else renameP t r.dir r.name r.dir2 r.name2
def sizeA (t : PT) (r : R) : Int × PT := resizeP t r.ino r.size
def pageA (t : PT) (r : R) : Int × PT := if (writeP t r.ino r.page r.data).1 ≠ 0 then writeP t r.ino r.page r.data else resizeP (writeP t r.ino r.page r.data).2 r.ino r.size
def freeA (t : PT) (r : R) : Int × PT := match t.n r.ino with
 | none => (3, t)
 | some x => if 0 < x.links then (2, t) else unholdP t r.ino
noncomputable def actA (t : PT) (r : R) : Int × PT :=
 if r.act = 1 then madeA t r
 else if r.act = 2 then linkA t r
 else if r.act = 3 then unlinkA t r
 else if r.act = 4 then renameA t r
 else if r.act = 5 then sizeA t r
 else if r.act = 6 then pageA t r
 else freeA t r
noncomputable def playA (t : PT) (r : R) : Int × PT := if checkB r = true then actA t r else (2, t)
theorem WellP.actA_ (h : WellP t) {r : R} (hr : r.Ok) : WellP (actA t r).2 := by
 have hs := hr.size
 unfold actA
 split
 · unfold madeA
   split
   · exact h.makeAtP_ _ _ _ _
   · exact (h.makeAtP_ _ _ _ _).holdP_ _
 · split
   · exact h.linkP_ _ _ _
   · split
     · unfold unlinkA
       split
       · exact h
       · split
         · exact h.rmdirP _ _
         · exact h.unlinkP _ _
     · split
       · unfold renameA
         split
         · exact h
         · split
           · exact h
           · exact h.renameP_ _ _ _ _
       · split
         · exact h.resizeP_ _ _ (by omega)
         · split
           · unfold pageA
             split
             · exact h.writeP_ _ _ _
             · exact (h.writeP_ _ _ _).resizeP_ _ _ (by omega)
           · unfold freeA
             split
             · exact h
             · split
               · exact h
               · exact h.unholdP_ _
theorem WellP.playA_ (h : WellP t) {r : R} (hr : r.Ok) : WellP (playA t r).2 := by
 unfold playA
 split
 · exact h.actA_ hr
 · exact h
theorem HeldK.actA_ {K : Int} (h : HeldK K t) (hK : 0 ≤ K) (r : R) : HeldK (K + 1) (actA t r).2 := by
 have hk : K ≤ K + 1 := by omega
 unfold actA
 split
 · unfold madeA
   split
   · exact (h.makeAtP_ hK _).mono hk
   · exact (h.makeAtP_ hK _).holdP_
 · split
   · exact h.linkP_.mono hk
   · split
     · unfold unlinkA
       split
       · exact h.mono hk
       · split
         · exact (h.dropP_ _).mono hk
         · exact (h.dropP_ _).mono hk
     · split
       · unfold renameA
         split
         · exact h.mono hk
         · split
           · exact h.mono hk
           · exact (h.renameP_ _ _).mono hk
       · split
         · exact (h.resizeP_ _).mono hk
         · split
           · unfold pageA
             split
             · exact (h.writeP_ _ _).mono hk
             · exact ((h.writeP_ _ _).resizeP_ _).mono hk
           · unfold freeA
             split
             · exact h.mono hk
             · split
               · exact h.mono hk
               · exact h.unholdP_.mono hk
theorem HeldK.playA_ {K : Int} (h : HeldK K t) (hK : 0 ≤ K) (r : R) : HeldK (K + 1) (playA t r).2 := by
 unfold playA
 split
 · exact h.actA_ hK r
 · exact h.mono (by omega)
end
end

section
open Go.RowKit Go.Maps
structure Pt where
 kind : Int
 ino : Int
 name : ByteArray
 write : Bool
abbrev Pt.val (p : Pt) : Value := .agg #[.int .u8 p.kind, .int .u32 p.ino, .string p.name, .bool p.write]
def Pt.cells (p : Pt) : List Value := [.int .u8 p.kind, .int .u32 p.ino, .string p.name, .bool p.write]
def flatP (l : List Pt) : List Value := l.flatMap Pt.cells
structure RelO (B G : Nat) (W W' : World) : Prop where
 os : W'.os = W.os
 tape : W'.tape = W.tape
 output : W'.output = W.output
 size : W.heap.size ≤ W'.heap.size
 old : ∀ b, b < G → b ≠ B → W'.heap[b]? = W.heap[b]?
theorem row_slice {w : World} {base n size : Nat} {e : TypeId} {v : Value} {xs : List Value} (h : w.ownsRow base e size v n xs) : ∃ A c, v = .slice A n c := by
 rcases h.2 with ⟨rfl, rfl⟩ | ⟨g, cap, cur, rfl, _⟩
 · exact ⟨none, 0, rfl⟩
 · exact ⟨_, cap, rfl⟩
theorem infoPt : ∃ i, Tryz.prog.info? 125 = some i ∧ i.zero = some (.agg #[.int .u8 0, .int .u32 0, .string ⟨#[]⟩, .bool false]) ∧ i.size = 4 ∧ i.bytes = 32 := by
 have : (Tryz.prog.info? 125).map (fun i => (i.zero, i.size, i.bytes)) = some (some (.agg #[.int .u8 0, .int .u32 0, .string ⟨#[]⟩, .bool false]), 4, 32) := by kernel_rfl
 obtain ⟨i, hi, he⟩ := Option.map_eq_some_iff.1 this
 simp only [Prod.mk.injEq] at he
 exact ⟨i, hi, he.1, he.2.1, he.2.2⟩
theorem flatP_append (a b : List Pt) : flatP (a ++ b) = flatP a ++ flatP b := by unfold flatP; rw [List.flatMap_append]
theorem run_append_pt (base ty : Nat) (w : World) (v : Value) (l : List Pt) (hown : w.ownsRow base 125 4 v l.length (flatP l)) (q : Nat) (p : Pt) (hq : w.heap[q]? = some (.cells p.cells.toArray 125 (0, 0)))
  (hl : l.length ≤ 100000) (hbase : base ≤ w.heap.size) :
  ∃ v' w', (Builtin.append_ #[99, 99] ty #[v, .slice (some ⟨q, 0, none⟩) 1 1]).run Tryz.prog w = .ok v' w' ∧ w'.ownsRow base 125 4 v' (l.length + 1) (flatP (l ++ [p])) ∧ w.grownBy w' v.ownBlock := by
 obtain ⟨i0, hi, hz0, hz1, hz2⟩ := infoPt
 obtain ⟨v', w', hrun, h2, h3, _, _⟩ := run_append_own_at (P := Tryz.prog) w base 99 ty 125 i0 _ 4 32 Tryz.underlying99 hi hz0 hz1 hz2 rfl (by decide) v l.length (flatP l) hown ⟨q, 0, none⟩ 1 1 p.cells
  rfl (fun j u hu => by
   rw [Addr.add_mid, Nat.zero_add]
   simp only [World.cell?, hq]
   simpa using hu) (by simp [Pt.cells, Value.oneCell']) (by unfold maxLen; omega) (by omega) hbase
 exact ⟨v', w', hrun, by rw [flatP_append, show flatP [p] = p.cells by simp [flatP]]; exact h2, h3⟩
theorem wpList_append_pt {ops : Array Oper} {rest : List Oper} {o : Oper} {a : Act} {Q : Exit → Act → World → Prop} {w : World} (hgd : o.guard = none) (s x : Operand)
  (ho : o.op = .call { callee := .builtin .append, args := #[s, x], argTypes := #[99, 99] })
  (base : Nat) (v : Value) (l : List Pt) (n k : Nat) (hn : l.length = n) (hk : n + 1 = k) (hs : a.eval s = v) (hown : w.ownsRow base 125 4 v n (flatP l)) (q : Nat) (p : Pt) (hx : a.eval x = .slice (some ⟨q, 0, none⟩) 1 1)
  (hq : w.heap[q]? = some (.cells p.cells.toArray 125 (0, 0))) (hl : l.length ≤ 100000) (hbase : base ≤ w.heap.size)
  (h : ∀ A1 c1 w', w'.ownsRow base 125 4 (.slice A1 k c1) k (flatP (l ++ [p])) → w.grownBy w' v.ownBlock → wpList Tryz.prog ops Q rest (a.put o.dst (.slice A1 k c1)) w') : wpList Tryz.prog ops Q (o :: rest) a w :=
 wpList_plain hgd fun _ hK => by
  subst hk
  subst hn
  obtain ⟨v', w', hrun, h2, h3⟩ := run_append_pt base o.type w v l hown q p hq hl hbase
  unfold Oper.wp execOp
  simp only [ho, resolve, invoke, builtin, Sem.run_bind, Sem.run_pure, Result.andThen_ok, List.map_toArray, List.map_cons, List.map_nil, hs, hx, hrun]
  obtain ⟨A1, c1, rfl⟩ := row_slice h2
  exact hK _ _ (h A1 c1 w' h2 h3)
theorem part_grow {w w' : World} {Bo G : Nat} {v : Value} {l : List Pt} {A B : Obj} (hB : w.heap[Bo]? = some (.cells #[v] 99 (0, 0))) (hv : w.ownsRow G 125 4 v l.length (flatP l)) (hBG : Bo < G) (hG : G ≤ w.heap.size)
  (hg : ((w.alloc A).alloc B).grownBy w' v.ownBlock) : w'.cell? ⟨Bo, 0, none⟩ = some v ∧ w'.frozen? ⟨Bo, 0, none⟩ = false ∧ w'.heap[Bo]? = some (.cells #[v] 99 (0, 0)) ∧ RelO Bo G w w' := by
 have lB : Bo < w.heap.size := (Array.getElem?_eq_some_iff.1 hB).1
 have hown : ∀ b, b < G → some b ≠ v.ownBlock := fun b hb e => by have := (hv.lt b e.symm).1; omega
 have hsz : ((w.alloc A).alloc B).heap.size = w.heap.size + 1 + 1 := by simp
 have old : ∀ b, b < w.heap.size → ((w.alloc A).alloc B).heap[b]? = w.heap[b]? := fun b hb => (heap_alloc_old _ _ (by simp; omega)).trans (heap_alloc_old _ _ hb)
 have hh : w'.heap[Bo]? = some (.cells #[v] 99 (0, 0)) := by
  rw [hg.block Bo (by omega) (hown Bo hBG), old Bo lB, hB]
 refine ⟨by simp only [World.cell?, hh]; rfl, by simp [World.frozen?, hh], hh, hg.os, hg.tape, hg.output, by have := hg.size; omega, fun b h1 h2 => ?_⟩
 by_cases hb : b < w.heap.size
 · rw [hg.block b (by omega) (hown b h1), old b hb]
 · omega
set_option maxRecDepth 100000 in
set_option maxHeartbeats 4000000 in
theorem t_write (p : Pt) (g Bo G : Nat) (v : Value) (l : List Pt) (w : World) (hg : w.heap[g]? = some (.cells p.cells.toArray 125 (0, 0)))
  (hB : w.heap[Bo]? = some (.cells #[v] 99 (0, 0))) (hBG : Bo < G) (hG : G ≤ w.heap.size) (hv : w.ownsRow G 125 4 v l.length (flatP l)) (hl : l.length ≤ 1000) :
  Calls Tryz.prog 110 #[.slice (some ⟨g, 0, none⟩) 1 1, .pointer (some ⟨Bo, 0, none⟩)] w fun e w' => e = .returned (.tuple #[]) ∧ ∃ v', w'.heap[Bo]? = some (.cells #[v'] 99 (0, 0)) ∧ w'.ownsRow G 125 4 v' (l.length + 1) (flatP (l ++ [{ p with write := true }])) ∧ RelO Bo G w w' := by
 obtain ⟨k, i, n, b⟩ := p
 have cg : ∀ (j : Nat) (u : Value), (Pt.cells ⟨k, i, n, b⟩)[j]? = some u → w.cell? ⟨g, j, none⟩ = some u := fun j u hu => by
  simp only [World.cell?, hg]
  simpa using hu
 have g0 := cg 0 _ rfl
 have g1 := cg 1 _ rfl
 have g2 := cg 2 _ rfl
 have g3 := cg 3 _ rfl
 have cB : w.cell? ⟨Bo, 0, none⟩ = some v := by simp only [World.cell?, hB]; rfl
 have lB : Bo < w.heap.size := (Array.getElem?_eq_some_iff.1 hB).1
 have HB := zz hB
 have HV := zz hv
 clear hg hB hv cg
 go_enter Tryz.func110, Tryz.ntmps110
 go_wp2
 go_loopw [7] (fun x wr => (x = .int .i64 0 ∧ wr = w) ∨ (x = .int .i64 1 ∧ Hid (∃ v', wr.heap[Bo]? = some (.cells #[v'] 99 (0, 0)) ∧ wr.ownsRow G 125 4 v' (l.length + 1) (flatP (l ++ [(⟨k, i, n, true⟩ : Pt)])) ∧ RelO Bo G w wr))) (fun x _ => 2 - (intOf x).toNat)
 case atStart => exact .inl ⟨rfl, rfl⟩
 case round =>
  rcases hrel with ⟨rfl, rfl⟩ | ⟨rfl, HR⟩
  · have hx1 : ∀ c : Array Value, ((wr.alloc (.cells c 125)).alloc (.cells #[.int .u8 k, .int .u32 i, .string n, .bool true] 125)).heap[wr.heap.size + 1]? = some (.cells (Pt.cells ⟨k, i, n, true⟩).toArray 125 (0, 0)) := fun c => by
     have := heap_alloc_new (wr.alloc (.cells c 125)) (.cells #[.int .u8 k, .int .u32 i, .string n, .bool true] 125)
     rw [show (wr.alloc (.cells c 125)).heap.size = wr.heap.size + 1 by simp] at this
     exact this
    have HX := zz hx1
    clear hx1
    go_wp2_with (at_builtin; refine wpList_append_pt rfl (.tmp 12) (.tmp 14) rfl G v l l.length (l.length + 1) rfl rfl rfl ((HV.out.alloc _).alloc _) (wr.heap.size + 1) ⟨k, i, n, true⟩ rfl (HX.out _) (by omega) (by simp; omega) ?_; intro A1 c1 w' h2 h3; have H2 := zz h2; have hw := part_grow HB.out HV.out hBG hG h3; have cB' := hw.1; have fB' := hw.2.1; have HW := zz hw; clear h2 h3 hw)
    refine ⟨.inr ⟨rfl, ?_⟩, by decide⟩
    have hb := HW.out.2.2.1
    refine ⟨_, by rw [pheap_set _ Bo 0 _ _ _ hb]; rfl, ?_, ?_⟩
    · exact H2.out.kept (pgrown_set w' Bo 0 _) (by
       cases hvo : (Value.slice A1 (l.length + 1) c1).ownBlock with
       | none => exact .inl rfl
       | some x => exact .inr (fun e => by injection e with e; have := (H2.out.lt x hvo).1; omega))
    · have hr := HW.out.2.2.2
      have hg := pgrown_set w' Bo 0 (.slice A1 (l.length + 1) c1)
      exact ⟨hg.os.trans hr.os, hg.tape.trans hr.tape, hg.output.trans hr.output, Nat.le_trans hr.size hg.size, fun b h1 h2 => (hg.block b (by have := hr.size; omega) (fun e => h2 (by injection e))).trans (hr.old b h1 h2)⟩
  · go_wp2
    go_end0
    exact ⟨rfl, HR.out⟩
end

section
open Go.RowKit Go.Maps
def partsL (r : R) : List Pt :=
 if checkB r = true then
  (if kEntry r.act = true then
   [⟨1, r.dir, r.name, true⟩] ++ (if (r.act == 4) = true then [⟨1, r.dir2, r.name2, true⟩] else []) ++ [⟨2, r.ino, ⟨#[]⟩, true⟩] ++ (if (r.old != 0) = true then [⟨2, r.old, ⟨#[]⟩, true⟩] else []) ++ (if (r.act == 4 && r.kind == 2) = true then [⟨3, 0, ⟨#[]⟩, true⟩] else []) ++ [⟨2, r.dir, ⟨#[]⟩, false⟩] ++ (if (r.act == 4) = true then [⟨2, r.dir2, ⟨#[]⟩, false⟩] else [])
  else [⟨2, r.ino, ⟨#[]⟩, true⟩])
 else []
structure StQ (w : World) (r : R) (Bo Bw : Nat) (p : Pt) (l : List Pt) (W : World) : Prop where
 rc : W.heap[w.heap.size]? = some (.cells (cellsR r) 50 (0, 0))
 own : W.heap[Bw]? = some (.cells #[.int .u8 p.kind, .int .u32 p.ino, .string p.name, .bool p.write] 125 (0, 0))
 out : ∃ v, W.heap[Bo]? = some (.cells #[v] 99 (0, 0)) ∧ W.ownsRow (Bw + 1) 125 4 v l.length (flatP l)
 below : Below w.heap.size w W
 lo : w.heap.size < Bo
 lw : Bo < Bw
 len : l.length ≤ 900
section
variable {w W W' : World} {r : R} {Bo Bw : Nat} {p : Pt} {l : List Pt}
theorem StQ.cr (h : StQ w r Bo Bw p l W) (i : Nat) (v : Value) (hv : (cellsR r)[i]? = some v) : W.cell? ⟨w.heap.size, i, none⟩ = some v := by simp only [World.cell?, h.rc]; exact hv
theorem StQ.cw (h : StQ w r Bo Bw p l W) (i : Nat) (v : Value) (hv : (#[.int .u8 p.kind, .int .u32 p.ino, .string p.name, .bool p.write] : Array Value)[i]? = some v) : W.cell? ⟨Bw, i, none⟩ = some v := by simp only [World.cell?, h.own]; exact hv
theorem StQ.out2 (h : StQ w r Bo Bw p l W) (n : Nat) (hn : l.length = n) : ∃ A c, W.heap[Bo]? = some (.cells #[.slice A n c] 99 (0, 0)) ∧ W.ownsRow (Bw + 1) 125 4 (.slice A n c) n (flatP l) := by
 subst hn
 obtain ⟨v, h1, h2⟩ := h.out
 obtain ⟨A, c, rfl⟩ := row_slice h2
 exact ⟨A, c, h1, h2⟩
theorem StQ.mono (h : StQ w r Bo Bw p l W) (hb : Below W.heap.size W W') : StQ w r Bo Bw p l W' := by
 obtain ⟨v, h1, h2⟩ := h.out
 have hg : W.grownBy W' none := ⟨hb.os, hb.tape, hb.output, hb.size, fun k hk _ => hb.block k hk⟩
 exact ⟨(hb.block _ (lt_heap h.rc)).trans h.rc, (hb.block _ (lt_heap h.own)).trans h.own, ⟨v, (hb.block _ (lt_heap h1)).trans h1, h2.kept hg (by cases hv : v.ownBlock with | none => exact .inl rfl | some x => exact .inr (by simp))⟩, h.below.trans (hb.mono h.below.size), h.lo, h.lw, h.len⟩
theorem StQ.put (h : StQ w r Bo Bw p l W) (x : Pt) (hl : l.length < 900) (h1 : ∃ v', W'.heap[Bo]? = some (.cells #[v'] 99 (0, 0)) ∧ W'.ownsRow (Bw + 1) 125 4 v' (l.length + 1) (flatP (l ++ [x]))) (h2 : RelO Bo (Bw + 1) W W') : StQ w r Bo Bw p (l ++ [x]) W' := by
 obtain ⟨v', h3, h4⟩ := h1
 have e1 := h.lo
 have e2 := h.lw
 refine ⟨(h2.old _ (by omega) (by omega)).trans h.rc, (h2.old _ (by omega) (by omega)).trans h.own, ⟨v', h3, by rw [List.length_append]; exact h4⟩, ?_, h.lo, h.lw, by rw [List.length_append]; simp; omega⟩
 exact ⟨h2.os.trans h.below.os, h2.tape.trans h.below.tape, h2.output.trans h.below.output, Nat.le_trans h.below.size h2.size, fun b hb => (h2.old b (by omega) (by omega)).trans (h.below.block b hb)⟩
theorem World.alloc_size' (W : World) (o : Obj) : (W.alloc o).heap.size = W.heap.size + 1 := by simp
theorem le_alloc {W : World} {B : Nat} {o : Obj} (h : B < W.heap.size) : B + 1 ≤ (W.alloc o).heap.size := by rw [World.alloc_size']; omega
theorem qp_write (h : StQ w r Bo Bw p l W) (hl : l.length < 900) (k i : Int) (n : ByteArray) (b : Bool) :
  Calls Tryz.prog 110 #[.slice (some ⟨W.heap.size, 0, none⟩) 1 1, .pointer (some ⟨Bo, 0, none⟩)] (W.alloc (.cells #[.int .u8 k, .int .u32 i, .string n, .bool b] 125)) fun e W' => e = .returned (.tuple #[]) ∧ StQ w r Bo Bw p (l ++ [⟨k, i, n, true⟩]) W' := by
 have h' := h.mono (below_a1' W (.cells #[.int .u8 k, .int .u32 i, .string n, .bool b] 125))
 obtain ⟨v, h1, h2⟩ := h'.out
 have hsz : (W.alloc (.cells #[.int .u8 k, .int .u32 i, .string n, .bool b] 125)).heap.size = W.heap.size + 1 := by simp
 have hw := lt_heap h.own
 refine (t_write ⟨k, i, n, b⟩ W.heap.size Bo (Bw + 1) v l _ (heap_alloc_new _ _) h1 (by have := h.lw; omega) (by rw [World.alloc_size']; omega) h2 (by omega)).mono ?_
 rintro e W' ⟨rfl, v', g1, g2, g3⟩
 exact ⟨rfl, h'.put _ hl ⟨v', g1, g2⟩ g3⟩
theorem qp_append {w1 : World} {v : Value} {A1 : Option Addr} {c1 : Nat} (h : StQ w r Bo Bw p l W) (hl : l.length < 900) (x : Pt) {A : Obj} (n k : Nat) (hn : l.length = n) (hk : n + 1 = k) (hv : W.heap[Bo]? = some (.cells #[v] 99 (0, 0))) (hr : W.ownsRow (Bw + 1) 125 4 v n (flatP l))
  (h1 : w1.ownsRow (Bw + 1) 125 4 (.slice A1 k c1) k (flatP (l ++ [x]))) (h2 : (W.alloc A).grownBy w1 v.ownBlock) :
  w1.cell? ⟨Bo, 0, none⟩ = some v ∧ w1.frozen? ⟨Bo, 0, none⟩ = false ∧ w1.cell? ⟨w.heap.size, 1, none⟩ = some (.int .u8 r.act) ∧ w1.cell? ⟨w.heap.size, 6, none⟩ = some (.int .u32 r.dir2) ∧ ((w1.setCell ⟨Bo, 0, none⟩ (.slice A1 k c1)).heap[Bo]? = some (.cells #[.slice A1 k c1] 99 (0, 0)) ∧ (w1.setCell ⟨Bo, 0, none⟩ (.slice A1 k c1)).ownsRow (Bw + 1) 125 4 (.slice A1 k c1) k (flatP (l ++ [x]))) ∧ StQ w r Bo Bw p (l ++ [x]) (w1.setCell ⟨Bo, 0, none⟩ (.slice A1 k c1)) := by
 subst hk
 subst hn
 have e2 := h.lw
 have lB : Bo < W.heap.size := lt_heap hv
 have lW := lt_heap h.own
 have hown : ∀ b, b < Bw + 1 → some b ≠ v.ownBlock := fun b hb e => by have := (hr.lt b e.symm).1; omega
 have old : ∀ b, b < Bw + 1 → w1.heap[b]? = W.heap[b]? := fun b hb => by
  rw [h2.block b (by simp; omega) (hown b hb)]
  exact heap_alloc_old _ _ (by omega)
 have hh : w1.heap[Bo]? = some (.cells #[v] 99 (0, 0)) := (old Bo (by omega)).trans hv
 have hsz : W.heap.size ≤ w1.heap.size := by have := h2.size; simp at this; omega
 have hrc : w1.heap[w.heap.size]? = some (.cells (cellsR r) 50 (0, 0)) := (old _ (by have := h.lo; omega)).trans h.rc
 have hg := pgrown_set w1 Bo 0 (.slice A1 (l.length + 1) c1)
 have k1 : (w1.setCell ⟨Bo, 0, none⟩ (.slice A1 (l.length + 1) c1)).heap[Bo]? = some (.cells #[.slice A1 (l.length + 1) c1] 99 (0, 0)) := by rw [pheap_set _ Bo 0 _ _ _ hh]; rfl
 have k2 := h1.kept hg (by
  cases hvo : (Value.slice A1 (l.length + 1) c1).ownBlock with
  | none => exact .inl rfl
  | some x => exact .inr (fun e => by injection e with e; have := (h1.lt x hvo).1; omega))
 refine ⟨by simp only [World.cell?, hh]; rfl, by simp [World.frozen?, hh], by simp only [World.cell?, hrc]; rfl, by simp only [World.cell?, hrc]; rfl, ⟨k1, k2⟩, ?_⟩
 exact h.put x hl ⟨_, k1, k2⟩ ⟨hg.os.trans h2.os, hg.tape.trans h2.tape, hg.output.trans h2.output, Nat.le_trans hsz hg.size, fun b h3 h4 => (hg.block b (by omega) (fun e => h4 (by injection e))).trans (old b h3)⟩
theorem StQ.done (h : StQ w r Bo Bw p l W) {A : Option Addr} {c : Nat} (n : Nat) (hn : l.length = n) (hb : W.heap[Bo]? = some (.cells #[.slice A n c] 99 (0, 0))) (hr : W.ownsRow (Bw + 1) 125 4 (.slice A n c) n (flatP l)) :
  (W.setCell ⟨Bo, 0, none⟩ (.slice A n c)).cell? ⟨Bo, 0, none⟩ = some (.slice A n c) ∧ (W.setCell ⟨Bo, 0, none⟩ (.slice A n c)).ownsRow w.heap.size 125 4 (.slice A n c) n (flatP l) ∧ Below w.heap.size w (W.setCell ⟨Bo, 0, none⟩ (.slice A n c)) := by
 subst hn
 have hg := pgrown_set W Bo 0 (.slice A l.length c)
 have e1 := h.lo
 have e2 := h.lw
 refine ⟨?_, ?_, below_grown h.below hg (by omega)⟩
 · have := pheap_set W Bo 0 (.slice A l.length c) _ _ hb
   simp only [World.cell?, this]
   rfl
 · have h3 := hr.kept hg (by
    cases hvo : (Value.slice A l.length c).ownBlock with
    | none => exact .inl rfl
    | some x => exact .inr (fun e => by injection e with e; have := (hr.lt x hvo).1; omega))
   rcases h3 with ⟨h4, h5⟩
   refine ⟨h4, ?_⟩
   rcases h5 with h5 | ⟨g, cap, cur, a1, a2, a3⟩
   · exact .inl h5
   · exact .inr ⟨g, cap, cur, a1, by omega, a3⟩
end
theorem results_box {fn : Func} {p : Tmp} (h : fn.results = #[.cell p 99]) (tmps : Array Value) (w : World) (g : Nat) (v : Value)
  (hp : tmps.getD p undef = .pointer (some ⟨g, 0, none⟩)) (hc : w.cell? ⟨g, 0, none⟩ = some v) : (results fn tmps).run Tryz.prog w = .ok v w := by
 have hp' : tmps[p]?.getD undef = .pointer (some ⟨g, 0, none⟩) := by simpa using hp
 simp [results, h, hp', asAddr, loadVar, Tryz.isAgg99, run_load, hc]
end

section
open Go.RowKit Go.Maps
def bareN (x : PN) : PN := { x with l := fun _ => none }
def hdP (t : PT) (j : Int) : Option PN := (t.n j).map bareN
def entP (t : PT) (j : Int) (k : List UInt8) : Option Int := match t.n j with | some x => x.l k | none => none
section
variable {t u v : PT} {i j d : Int} {x z : PN} {k : List UInt8} {s : ByteArray}
theorem ent_some (h : t.n j = some x) : entP t j k = x.l k := by unfold entP; rw [h]
theorem ent_none (h : t.n j = none) : entP t j k = none := by unfold entP; rw [h]
theorem hd_same (h : hdP u j = hdP t j) : (u.n j).isSome = (t.n j).isSome := by
 unfold hdP at h
 cases h1 : u.n j <;> cases h2 : t.n j <;> rw [h1, h2] at h <;> first | rfl | cases h
theorem hd_get (h : hdP u j = hdP t j) (hx : t.n j = some x) : ∃ z, u.n j = some z ∧ bareN z = bareN x := by
 unfold hdP at h
 rw [hx] at h
 cases h1 : u.n j with
 | none => rw [h1] at h; cases h
 | some z =>
  rw [h1] at h
  exact ⟨z, rfl, Option.some.inj h⟩
theorem bare_kind (h : bareN z = bareN x) : z.kind = x.kind := by have := congrArg PN.kind h; exact this
theorem bare_links (h : bareN z = bareN x) : z.links = x.links := by have := congrArg PN.links h; exact this
theorem bare_up (h : bareN z = bareN x) : z.up = x.up := by have := congrArg PN.up h; exact this
theorem bare_ext (h : bareN z = bareN x) (hl : ∀ k, z.l k = x.l k) : z = x := by
 have h1 := congrArg PN.kind h
 have h2 := congrArg PN.links h
 have h3 := congrArg PN.size h
 have h4 := congrArg PN.pages h
 have h5 := congrArg PN.held h
 have h6 := congrArg PN.up h
 obtain ⟨z1, z2, z3, z4, z5, z6, z7⟩ := z
 obtain ⟨x1, x2, x3, x4, x5, x6, x7⟩ := x
 simp only [bareN] at h1 h2 h3 h4 h5 h6 hl
 obtain rfl : z4 = x4 := funext hl
 subst h1 h2 h3 h4 h5 h6
 rfl
theorem cells_ext (h0 : u.room = t.room) (h1 : ∀ j, hdP u j = hdP t j) (h2 : ∀ j k, entP u j k = entP t j k) : u = t := by
 refine PT.ext' h0 fun j => ?_
 cases hx : t.n j with
 | none =>
  have := hd_same (h1 j)
  rw [hx] at this
  simpa using this
 | some x =>
  obtain ⟨z, hz, hb⟩ := hd_get (h1 j) hx
  rw [hz]
  congr 1
  refine bare_ext hb fun k => ?_
  rw [← ent_some (k := k) hz, ← ent_some (k := k) hx]
  exact h2 j k
structure Keeps (wI : Int → Prop) (wE : Int → List UInt8 → Prop) (t u : PT) : Prop where
 room : u.room = t.room
 hd : ∀ j, ¬ wI j → hdP u j = hdP t j
 ent : ∀ d k, ¬ wE d k → entP u d k = entP t d k
variable {wI rI : Int → Prop} {wE : Int → List UInt8 → Prop}
theorem Keeps.refl (t : PT) : Keeps wI wE t t := ⟨rfl, fun _ _ => rfl, fun _ _ _ => rfl⟩
theorem Keeps.trans (h : Keeps wI wE t u) (g : Keeps wI wE u v) : Keeps wI wE t v := ⟨g.room.trans h.room, fun j hj => (g.hd j hj).trans (h.hd j hj), fun d k hk => (g.ent d k hk).trans (h.ent d k hk)⟩
theorem Keeps.ents (hx : t.n d = some x) (l' : List UInt8 → Option Int) (hl : ∀ k, ¬ wE d k → l' k = x.l k) : Keeps wI wE t (t.set d { x with l := l' }) := by
 refine ⟨rfl, fun j _ => ?_, fun e k hk => ?_⟩
 · unfold hdP
   rw [PT.set_n]
   split
   · rename_i e; rw [e, hx]; rfl
   · rfl
 · unfold entP
   rw [PT.set_n]
   by_cases e1 : e = d
   · subst e1
     rw [if_pos rfl, hx]
     exact hl k hk
   · rw [if_neg e1]
theorem Keeps.set (hi : wI i) (hl : ∀ k, z.l k = entP t i k) : Keeps wI wE t (t.set i z) := by
 refine ⟨rfl, fun j hj => ?_, fun e k _ => ?_⟩
 · unfold hdP
   rw [PT.set_n, if_neg (fun e => hj (by rw [e]; exact hi))]
 · by_cases e1 : e = i
   · subst e1
     rw [ent_some (x := z) (by rw [PT.set_n, if_pos rfl])]
     exact hl k
   · unfold entP
     rw [PT.set_n, if_neg e1]
theorem Keeps.del (hi : wI i) (hl : ∀ k, entP t i k = none) : Keeps wI wE t (t.del i) := by
 refine ⟨rfl, fun j hj => ?_, fun e k _ => ?_⟩
 · unfold hdP
   rw [PT.del_n, if_neg (fun e => hj (by rw [e]; exact hi))]
 · by_cases e1 : e = i
   · subst e1
     rw [hl k, ent_none (by rw [PT.del_n, if_pos rfl])]
   · unfold entP
     rw [PT.del_n, if_neg e1]
theorem in_l (x : PN) (d : Int) : (inN x d).l = x.l := by unfold inN; split <;> rfl
theorem out_l (x : PN) : (outN x).l = x.l := by unfold outN; split <;> rfl
theorem updL_ne {l : List UInt8 → Option Int} {q : List UInt8} {v : Int} (h : k ≠ q) : updL l q v k = l k := by unfold updL; rw [if_neg h]
theorem delL_ne {l : List UInt8 → Option Int} {q : List UInt8} (h : k ≠ q) : delL l q k = l k := by unfold delL; rw [if_neg h]
theorem Keeps.enter (hd : t.n d = some x) (hz : t.n i = some z) (hne : i ≠ d) (hi : wI i) (he : wE d s.data.toList) : Keeps wI wE t (enterT t d x s i z) := by
 unfold enterT
 refine (Keeps.ents hd _ fun k hk => updL_ne fun e => hk (e ▸ he)).trans (Keeps.set hi fun k => ?_)
 rw [in_l, ent_some (x := z) (by rw [PT.set_n, if_neg hne]; exact hz)]
theorem Keeps.leave (hd : t.n d = some x) (hz : t.n i = some z) (hne : i ≠ d) (hi : wI i) (he : wE d s.data.toList) : Keeps wI wE t (leaveT t d x s i z) := by
 unfold leaveT
 refine (Keeps.set hi fun k => ?_).trans (Keeps.ents (by rw [PT.set_n, if_neg (fun e => hne e.symm)]; exact hd) _ fun k hk => delL_ne fun e => hk (e ▸ he))
 rw [out_l, ent_some hz]
theorem Keeps.free (hi : wI i) (hl : goneB i z = true → ∀ k, entP t i k = none) : Keeps wI wE t (freeP t i z) := by
 unfold freeP
 split
 · rename_i h
   exact .del hi (hl h)
 · exact .refl t
theorem leave_entP (hne : i ≠ d) (_hz : t.n i = some z) : entP (leaveT t d x s i z) i k = z.l k := by
 rw [ent_some (x := outN z) (by rw [leave_n hne, if_neg hne, if_pos rfl]), out_l]
theorem Keeps.drop (hd : t.n d = some x) (hz : t.n i = some z) (hne : i ≠ d) (hi : wI i) (he : wE d s.data.toList) (hl : ∀ k, z.l k = none) : Keeps wI wE t (dropT t d x s i z) := by
 unfold dropT
 exact (Keeps.leave hd hz hne hi he).trans (.free hi fun _ k => by rw [leave_entP hne hz]; exact hl k)
structure Agree (wI rI : Int → Prop) (wE : Int → List UInt8 → Prop) (t u : PT) : Prop where
 room : u.room = t.room
 own : ∀ j, wI j → u.n j = t.n j
 dir : ∀ j, rI j → hdP u j = hdP t j
 ent : ∀ d k, wE d k → entP u d k = entP t d k
theorem Agree.set (h : Agree wI rI wE t u) (i : Int) (x : PN) : Agree wI rI wE (t.set i x) (u.set i x) := by
 refine ⟨h.room, fun j hj => ?_, fun j hj => ?_, fun d k hk => ?_⟩
 · rw [PT.set_n, PT.set_n, h.own j hj]
 · have := h.dir j hj
   unfold hdP at this ⊢
   rw [PT.set_n, PT.set_n]
   by_cases e : j = i
   · rw [if_pos e, if_pos e]
   · rw [if_neg e, if_neg e]
     exact this
 · have := h.ent d k hk
   unfold entP at this ⊢
   rw [PT.set_n, PT.set_n]
   by_cases e : d = i
   · rw [if_pos e, if_pos e]
   · rw [if_neg e, if_neg e]
     exact this
theorem Agree.del (h : Agree wI rI wE t u) (i : Int) : Agree wI rI wE (t.del i) (u.del i) := by
 refine ⟨h.room, fun j hj => ?_, fun j hj => ?_, fun d k hk => ?_⟩
 · rw [PT.del_n, PT.del_n, h.own j hj]
 · have := h.dir j hj
   unfold hdP at this ⊢
   rw [PT.del_n, PT.del_n]
   by_cases e : j = i
   · rw [if_pos e, if_pos e]
   · rw [if_neg e, if_neg e]
     exact this
 · have := h.ent d k hk
   unfold entP at this ⊢
   rw [PT.del_n, PT.del_n]
   by_cases e : d = i
   · rw [if_pos e, if_pos e]
   · rw [if_neg e, if_neg e]
     exact this
theorem Agree.ents (h : Agree wI rI wE t u) (hx : t.n d = some x) (hz : u.n d = some z) (hb : bareN z = bareN x) (lx lz : List UInt8 → Option Int) (hl : ∀ k, lz k = lx k ∨ (lz k = z.l k ∧ lx k = x.l k)) : Agree wI rI wE (t.set d { x with l := lx }) (u.set d { z with l := lz }) := by
 refine ⟨h.room, fun j hj => ?_, fun j hj => ?_, fun e k hk => ?_⟩
 · rw [PT.set_n, PT.set_n]
   by_cases e : j = d
   · subst e
     rw [if_pos rfl, if_pos rfl]
     have e1 := h.own j hj
     rw [hx, hz] at e1
     obtain rfl := Option.some.inj e1
     congr 2
     funext k
     rcases hl k with e2 | ⟨e2, e3⟩
     · exact e2
     · rw [e2, e3]
   · rw [if_neg e, if_neg e]
     exact h.own j hj
 · have := h.dir j hj
   unfold hdP at this ⊢
   rw [PT.set_n, PT.set_n]
   split
   · show some (bareN _) = some (bareN _)
     have e1 : bareN { z with l := lz } = bareN z := rfl
     have e2 : bareN { x with l := lx } = bareN x := rfl
     rw [e1, e2, hb]
   · exact this
 · have h1 := h.ent e k hk
   unfold entP at h1 ⊢
   rw [PT.set_n, PT.set_n]
   by_cases e1 : e = d
   · subst e1
     rw [if_pos rfl, if_pos rfl]
     rw [hx, hz] at h1
     simp only at h1 ⊢
     rcases hl k with e2 | ⟨e2, e3⟩
     · exact e2
     · rw [e2, e3]; exact h1
   · rw [if_neg e1, if_neg e1]
     exact h1
theorem Agree.upd (h : Agree wI rI wE t u) (hx : t.n d = some x) (hz : u.n d = some z) (hb : bareN z = bareN x) (q : List UInt8) (w : Int) : Agree wI rI wE (t.set d { x with l := updL x.l q w }) (u.set d { z with l := updL z.l q w }) := by
 refine h.ents hx hz hb _ _ fun k => ?_
 by_cases e : k = q
 · left
   unfold updL
   rw [if_pos e, if_pos e]
 · exact .inr ⟨updL_ne e, updL_ne e⟩
theorem Agree.cut (h : Agree wI rI wE t u) (hx : t.n d = some x) (hz : u.n d = some z) (hb : bareN z = bareN x) (q : List UInt8) : Agree wI rI wE (t.set d { x with l := delL x.l q }) (u.set d { z with l := delL z.l q }) := by
 refine h.ents hx hz hb _ _ fun k => ?_
 by_cases e : k = q
 · left
   unfold delL
   rw [if_pos e, if_pos e]
 · exact .inr ⟨delL_ne e, delL_ne e⟩
theorem Agree.enter (h : Agree wI rI wE t u) (hx : t.n d = some x) (hz : u.n d = some z) (hb : bareN z = bareN x) (s : ByteArray) (i : Int) (y : PN) : Agree wI rI wE (enterT t d x s i y) (enterT u d z s i y) := by
 unfold enterT
 exact (h.upd hx hz hb _ _).set _ _
theorem Agree.leave (h : Agree wI rI wE t u) (hx : t.n d = some x) (hz : u.n d = some z) (hb : bareN z = bareN x) (s : ByteArray) (i : Int) (hne : i ≠ d) (y : PN) : Agree wI rI wE (leaveT t d x s i y) (leaveT u d z s i y) := by
 unfold leaveT
 exact (h.set _ _).cut (by rw [PT.set_n, if_neg (fun e => hne e.symm)]; exact hx) (by rw [PT.set_n, if_neg (fun e => hne e.symm)]; exact hz) hb _
theorem Agree.free (h : Agree wI rI wE t u) (i : Int) (y : PN) : Agree wI rI wE (freeP t i y) (freeP u i y) := by
 unfold freeP
 split
 · exact h.del _
 · exact h
theorem Agree.drop (h : Agree wI rI wE t u) (hx : t.n d = some x) (hz : u.n d = some z) (hb : bareN z = bareN x) (s : ByteArray) (i : Int) (hne : i ≠ d) (y : PN) : Agree wI rI wE (dropT t d x s i y) (dropT u d z s i y) := by
 unfold dropT
 exact (h.leave hx hz hb s i hne y).free _ _
theorem Agree.get (h : Agree wI rI wE t u) (hd : rI d) (hx : t.n d = some x) : ∃ z, u.n d = some z ∧ bareN z = bareN x := hd_get (h.dir d hd) hx
theorem there_congr {is : List Int} (h : ∀ i ∈ is, (u.n i).isSome = (t.n i).isSome) : thereE u is = thereE t is := by
 have e : (is.any fun i => (u.n i).isNone) = is.any fun i => (t.n i).isNone := by
  induction is with
  | nil => rfl
  | cons a is ih =>
   rw [List.any_cons, List.any_cons, ih fun i hi => h i (List.mem_cons_of_mem _ hi)]
   have := h a (by simp)
   cases h1 : u.n a <;> cases h2 : t.n a <;> rw [h1, h2] at this <;> first | rfl | cases this
 unfold thereE
 rw [e]
theorem dirs_congr {is : List Int} (h : ∀ i ∈ is, hdP u i = hdP t i) : dirsE u is = dirsE t is := by
 have e : is.any (isFile u) = is.any (isFile t) := by
  induction is with
  | nil => rfl
  | cons a is ih =>
   rw [List.any_cons, List.any_cons, ih fun i hi => h i (List.mem_cons_of_mem _ hi)]
   congr 1
   have h1 := h a (by simp)
   unfold isFile
   cases hx : t.n a with
   | none =>
    have := hd_same h1
    rw [hx] at this
    cases hu : u.n a with
    | none => rfl
    | some z => rw [hu] at this; cases this
   | some x =>
    obtain ⟨z, hz, hb⟩ := hd_get h1 hx
    rw [hz]
    show (z.kind != 2) = (x.kind != 2)
    rw [bare_kind hb]
 unfold dirsE
 rw [e]
theorem fresh_congr (h1 : hdP u d = hdP t d) (h2 : entP u d s.data.toList = entP t d s.data.toList) : freshE' u d s = freshE' t d s := by
 unfold freshE'
 cases hx : t.n d with
 | none =>
  have := hd_same h1
  rw [hx] at this
  cases hu : u.n d with
  | none => rfl
  | some z => rw [hu] at this; cases this
 | some x =>
  obtain ⟨z, hz, hb⟩ := hd_get h1 hx
  rw [hz]
  rw [ent_some hz, ent_some hx] at h2
  unfold freshE
  simp only [h2]
theorem look_congr (h1 : hdP u d = hdP t d) (h2 : entP u d s.data.toList = entP t d s.data.toList) : lookP u d s = lookP t d s := by
 unfold lookP
 rw [there_congr (u := u) (t := t) (is := [d]) (by simpa using hd_same h1), dirs_congr (u := u) (t := t) (is := [d]) (by simpa using h1)]
 cases hx : t.n d with
 | none =>
  have := hd_same h1
  rw [hx] at this
  cases hu : u.n d with
  | none => rfl
  | some z => rw [hu] at this; cases this
 | some x =>
  obtain ⟨z, hz, hb⟩ := hd_get h1 hx
  rw [hz]
  rw [ent_some hz, ent_some hx] at h2
  simp only [h2]
end
def wIr (r : R) (j : Int) : Prop := j = r.ino ∨ (r.old ≠ 0 ∧ j = r.old)
def rIr (r : R) (j : Int) : Prop := (1 ≤ r.act ∧ r.act ≤ 4) ∧ (j = r.dir ∨ (r.act = 4 ∧ j = r.dir2))
def wEr (r : R) (d : Int) (k : List UInt8) : Prop := (1 ≤ r.act ∧ r.act ≤ 4) ∧ ((d = r.dir ∧ k = r.name.data.toList) ∨ (r.act = 4 ∧ d = r.dir2 ∧ k = r.name2.data.toList))
def mvB (r : R) : Prop := r.act = 4 ∧ r.kind = 2
abbrev AgreeR (r : R) (t u : PT) : Prop := Agree (wIr r) (rIr r) (wEr r) t u
abbrev KeepsR (r : R) (t u : PT) : Prop := Keeps (wIr r) (wEr r) t u
section
variable {t u : PT} {r : R}
theorem names_both' {s s2 : ByteArray} (h : namesE [s, s2] = 0) : namesE [s] = 0 ∧ namesE [s2] = 0 ∧ namesE [s2, s] = 0 := by
 unfold namesE at *
 cases e1 : pnameB s <;> cases e2 : pnameB s2 <;> simp [e1, e2] at h ⊢
theorem look_of' {d : Int} {s : ByteArray} {xd : PN} (hn : namesE [s] = 0) (ha : t.n d = some xd) (hk : xd.kind = 2) : lookP t d s = ((xd.l s.data.toList).getD 0, if (xd.l s.data.toList).getD 0 = 0 then 3 else 0) := by
 have h1 : thereE t [d] = 0 := by simp [thereE, ha]
 have h2 : dirsE t [d] = 0 := by simp [dirsE, isFile, ha, hk]
 unfold lookP
 rw [hn, h1, h2, if_neg (by simp [firstE]), ha]
theorem wI_ino (r : R) : wIr r r.ino := .inl rfl
theorem file_no_ent (h : WellP t) {i : Int} {x : PN} (hx : t.n i = some x) (hk : x.kind ≠ 2) (k : List UInt8) : x.l k = none := by
 cases hl : x.l k with
 | none => rfl
 | some v => exact absurd (h.ent i x k v hx hl).1 hk
theorem look_zero {d : Int} {s : ByteArray} (h : WellP t) (h0 : (lookP t d s).2 = 0) : ∃ xd xi, t.n d = some xd ∧ xd.l s.data.toList = some (lookP t d s).1 ∧ t.n (lookP t d s).1 = some xi ∧ (lookP t d s).1 ≠ d ∧ xd.kind = 2 := by
 obtain ⟨xa, y, ha, hl, hi, hia, _, _, hak⟩ := look_okP h.good h0
 exact ⟨xa, y, ha, hl, hi, hia, hak⟩
theorem lookA_zero (h : lookA t r = 0) : (lookP t r.dir r.name).2 = 0 ∧ (lookP t r.dir r.name).1 = r.ino := by
 unfold lookA at h
 split at h
 · cases h
 · rename_i h1
   exact ⟨h, Decidable.byContradiction fun c => h1 ⟨h, c⟩⟩
theorem gone_ents (h : WellP t) {i : Int} {x : PN} (hx : t.n i = some x) (q : PN → Int) (hq : q = unlinkE ∨ q = rmdirE) (h0 : q x = 0) (k : List UInt8) : x.l k = none := by
 rcases hq with rfl | rfl
 · refine file_no_ent h hx (fun c => ?_) k
   unfold unlinkE at h0
   rw [c] at h0
   cases h0
 · unfold rmdirE at h0
   split at h0
   · cases h0
   · split at h0
     · rename_i h2
       exact emptyB_iff.1 h2 k
     · cases h0
theorem keeps_drop (h : WellP t) (hr : 1 ≤ r.act ∧ r.act ≤ 4) (hl : lookA t r = 0) (q : PN → Int) (hq : q = unlinkE ∨ q = rmdirE) : KeepsR r t (dropP t r.dir r.name q).2 := by
 obtain ⟨h0, h1⟩ := lookA_zero hl
 obtain ⟨xd, xi, hd, hx, hi, hne, _⟩ := look_zero h h0
 unfold dropP
 rw [if_neg (by rw [h0]; simp), hd, hi]
 simp only
 split
 · exact .refl t
 · rename_i hq0
   have hq0 := Decidable.not_not.1 hq0
   exact Keeps.drop hd hi hne (by rw [h1]; exact wI_ino r) ⟨hr, .inl ⟨rfl, rfl⟩⟩ (gone_ents h hi q hq hq0)
theorem keeps_move {t : PT} {i : Int} {xa xb y : PN} (hr : r.act = 4) (ha : t.n r.dir = some xa) (hi : t.n i = some y) (hb : t.n r.dir2 = some xb) (hia : i ≠ r.dir) (hib : i ≠ r.dir2) (hw : wIr r i) : KeepsR r t (moveT t r.dir r.name r.dir2 r.name2 i) := by
 have hr4 : 1 ≤ r.act ∧ r.act ≤ 4 := by omega
 have h3 : ∃ xb', (leaveT t r.dir xa r.name i y).n r.dir2 = some xb' := by
  rw [leave_n hia]
  split
  · exact ⟨_, rfl⟩
  · rw [if_neg (fun e => hib e.symm)]
    exact ⟨_, hb⟩
 obtain ⟨xb', h3⟩ := h3
 unfold moveT
 rw [ha, hi]
 simp only
 rw [h3]
 exact (Keeps.leave ha hi hia hw ⟨hr4, .inl ⟨rfl, rfl⟩⟩).trans (Keeps.enter h3 (by rw [leave_n hia, if_neg hia, if_pos rfl]) hib hw ⟨hr4, .inr ⟨hr, rfl, rfl⟩⟩)
theorem old_of {d : Int} {s : ByteArray} {xb : PN} {v : Int} (h : WellP t) (hn : namesE [s] = 0) (hb : t.n d = some xb) (hk : xb.kind = 2) (hv : xb.l s.data.toList = some v) : (lookP t d s) = (v, 0) := by
 obtain ⟨_, _, _, z, hz, _⟩ := h.ent d xb _ v hb hv
 have := (h.range v z hz).1
 rw [look_of' hn hb hk, hv]
 simp
 omega
theorem keeps_actA (h : WellP t) (hc : checkB r = true) : KeepsR r t (actA t r).2 := by
 have hact : 1 ≤ r.act ∧ r.act ≤ 7 := by
  unfold checkB at hc
  simp only [Bool.and_eq_true, decide_eq_true_eq] at hc
  exact hc.1.1.1.1.1.1
 unfold actA
 split
 · rename_i h1
   have hm : KeepsR r t (makeAtP t r.dir r.name r.kind r.ino).2 := by
    unfold makeAtP
    split
    · rename_i h0
      obtain ⟨_, _, _, ⟨xd, hd, _, _⟩, hn⟩ := makeAtE_zero h0
      have hne : r.ino ≠ r.dir := fun e => by rw [e, hd] at hn; cases hn
      unfold makeT
      rw [hd]
      have g : KeepsR r t (t.set r.ino (newN r.kind)) := Keeps.set (wI_ino r) fun k => by rw [ent_none hn]; rfl
      exact g.trans (Keeps.enter (by rw [PT.set_n, if_neg (fun e => hne e.symm)]; exact hd) (by rw [PT.set_n, if_pos rfl]) hne (wI_ino r) ⟨by omega, .inl ⟨rfl, rfl⟩⟩)
    · exact .refl t
   unfold madeA
   split
   · exact hm
   · refine hm.trans ?_
     unfold holdP
     split
     · cases hx : (makeAtP t r.dir r.name r.kind r.ino).2.n r.ino with
       | none => exact .refl _
       | some x => exact Keeps.set (wI_ino r) fun k => by rw [ent_some hx]
     · exact .refl _
 · split
   · rename_i h1
     unfold linkA linkP
     split
     · rename_i h0
       obtain ⟨xd, xi, hd, hi, hne⟩ : ∃ xd xi, t.n r.dir = some xd ∧ t.n r.ino = some xi ∧ r.ino ≠ r.dir := by
        unfold linkE at h0
        obtain ⟨_, h0⟩ := firstE_cons h0
        obtain ⟨z1, h0⟩ := firstE_cons h0
        obtain ⟨z2, h0⟩ := firstE_cons h0
        obtain ⟨z3, h0⟩ := firstE_cons h0
        have q1 : (t.n r.dir).isSome = true := there_all z1 _ (by simp)
        have q2 : (t.n r.ino).isSome = true := there_all z1 _ (by simp)
        obtain ⟨xd, hd⟩ := Option.isSome_iff_exists.1 q1
        obtain ⟨xi, hi⟩ := Option.isSome_iff_exists.1 q2
        refine ⟨xd, xi, hd, hi, fun e => ?_⟩
        have k1 := dirs_zero z2 (i := r.dir) (by simp) hd
        have k2 := file_zero hi z3
        rw [e, hd] at hi
        cases hi
        exact k2 k1
       show KeepsR r t (linkT t r.dir r.name r.ino)
       unfold linkT
       rw [hd, hi]
       exact Keeps.enter hd hi hne (wI_ino r) ⟨by omega, .inl ⟨rfl, rfl⟩⟩
     · exact .refl t
   · split
     · rename_i h1
       unfold unlinkA
       split
       · exact .refl t
       · rename_i hl
         have hl := Decidable.not_not.1 hl
         split
         · exact keeps_drop h (by omega) hl _ (.inr rfl)
         · exact keeps_drop h (by omega) hl _ (.inl rfl)
     · split
       · rename_i h4
         have hr4 : 1 ≤ r.act ∧ r.act ≤ 4 := by omega
         unfold renameA
         split
         · exact .refl t
         · rename_i hl
           have hl := Decidable.not_not.1 hl
           obtain ⟨l0, l1⟩ := lookA_zero hl
           obtain ⟨xd, xi, hd, hx, hi, hne, _⟩ := look_zero h l0
           split
           · exact .refl t
           · rename_i hko
             have hold : oldAt t r = r.old := Decidable.byContradiction fun c => hko (.inr c)
             unfold renameP
             split
             · exact .refl t
             · rename_i h2
               have h2 := Decidable.not_not.1 h2
               obtain ⟨xa, xb, hxa, hxb, hak, hbk⟩ := rename_dirs h2
               rw [if_neg (by rw [l0]; simp)]
               rw [l1] at hx hi hne ⊢
               rw [hi, hxb]
               simp only
               split
               · exact .refl t
               · rename_i hnb
                 have hib : r.ino ≠ r.dir2 := fun e => by
                  rw [← e, hi] at hxb
                  cases hxb
                  have := (h.range _ _ hi).1
                  exact hnb ⟨hbk, e ▸ bel_self (by omega)⟩
                 cases ho : xb.l r.name2.data.toList with
                 | none => exact keeps_move h4 hd hi hxb hne hib (wI_ino r)
                 | some old =>
                  simp only
                  split
                  · exact .refl t
                  · rename_i hne2
                    cases hxo : t.n old with
                    | none => exact .refl t
                    | some xo =>
                     simp only
                     split
                     · exact .refl t
                     · rename_i hg
                       have hg := Decidable.not_not.1 hg
                       obtain ⟨n1, n2, n3⟩ := names_both' (firstE_cons h2).1
                       have e1 := old_of h n2 hxb hbk ho
                       have e2 : old = r.old := by
                        unfold oldAt at hold
                        rw [e1] at hold
                        simpa using hold
                       have ho0 : r.old ≠ 0 := by
                        have := (h.range _ _ hxo).1
                        omega
                       have hwo : wIr r old := .inr ⟨ho0, e2⟩
                       obtain ⟨gk, ge⟩ := gives_zero hg
                       have hob : old ≠ r.dir2 := (h.ent _ _ _ _ hxb ho).2.2.1
                       have hod : old ≠ r.dir := fun e => by
                        rw [← e, hxo] at hd
                        cases hd
                        rw [ge] at hx
                        cases hx
                       have g1 : KeepsR r t (dropT t r.dir2 xb r.name2 old xo) := Keeps.drop hxb hxo hob hwo ⟨hr4, .inr ⟨h4, rfl, rfl⟩⟩ ge
                       have hne3 : r.ino ≠ old := fun e => hne2 e.symm
                       have n1 : (dropT t r.dir2 xb r.name2 old xo).n r.ino = some xi := by
                        rw [drop_n hob, if_neg hib, if_neg hne3]
                        exact hi
                       have n2 : ∃ xa', (dropT t r.dir2 xb r.name2 old xo).n r.dir = some xa' := by
                        rw [drop_n hob]
                        split
                        · exact ⟨_, rfl⟩
                        · rw [if_neg (fun e => hod e.symm)]
                          exact ⟨_, hd⟩
                       have n3 : ∃ xb', (dropT t r.dir2 xb r.name2 old xo).n r.dir2 = some xb' := by
                        rw [drop_n hob, if_pos rfl]
                        exact ⟨_, rfl⟩
                       obtain ⟨_, n2⟩ := n2
                       obtain ⟨_, n3⟩ := n3
                       exact g1.trans (keeps_move h4 n2 n1 n3 hne hib (wI_ino r))
       · have hset : ∀ (t : PT) (x z : PN), t.n r.ino = some x → z.l = x.l → KeepsR r t (t.set r.ino z) := fun t x z hx hz => Keeps.set (wI_ino r) fun k => by rw [ent_some hx, hz]
         have hres : ∀ t : PT, KeepsR r t (resizeP t r.ino r.size).2 := fun t => by
          unfold resizeP
          split
          · show KeepsR r t (resizeT t r.ino r.size)
            unfold resizeT
            cases hx : t.n r.ino with
            | none => exact .refl t
            | some x => exact hset t x _ hx rfl
          · exact .refl t
         split
         · exact hres t
         · split
           · have hwr : KeepsR r t (writeP t r.ino r.page r.data).2 := by
              unfold writeP
              split
              · show KeepsR r t (writeT t r.ino r.page r.data)
                unfold writeT
                cases hx : t.n r.ino with
                | none => exact .refl t
                | some x => exact hset t x _ hx rfl
              · exact .refl t
             unfold pageA
             split
             · exact hwr
             · exact hwr.trans (hres _)
           · unfold freeA
             cases hx : t.n r.ino with
             | none => exact .refl t
             | some x =>
              simp only
              split
              · exact .refl t
              · unfold unholdP
                split
                · rename_i h0
                  rw [hx]
                  show KeepsR r t (unholdT t r.ino x)
                  unfold unholdT
                  refine (hset t x { x with held := x.held - 1 } hx rfl).trans (.free (wI_ino r) fun _ k => ?_)
                  rw [ent_some (x := { x with held := x.held - 1 }) (by rw [PT.set_n, if_pos rfl])]
                  refine file_no_ent h hx (fun hk => ?_) k
                  have z := (h.dirs _ _ hx hk).2
                  unfold unholdE at h0
                  obtain ⟨_, h0⟩ := firstE_cons h0
                  obtain ⟨h0, _⟩ := firstE_cons h0
                  unfold heldE' at h0
                  rw [hx] at h0
                  unfold heldE at h0
                  simp [z] at h0
                · exact .refl t
end
end
end Go.Proofs.YtogljgiefmfafaaGreat
