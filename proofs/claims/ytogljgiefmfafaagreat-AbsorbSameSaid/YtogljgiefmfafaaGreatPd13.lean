/- A record in a block; what stays. -/
import Derived.Test.YtogljgiefmfafaaGreatPd02
import Derived.Test.YtogljgiefmfafaaGreatPd03
import Derived.Test.YtogljgiefmfafaaGreatPd05
import Derived.Test.YtogljgiefmfafaaGreatPd10
import Derived.Test.YtogljgiefmfafaaGreatPd12
import Derived.Laws.OwnMore
import Derived.Handy
import Derived.Deep.AppendLies
import Derived.Deep.RegionHeld3
import Derived.Deep.DeepCutAuto
import Derived.Deep.RegionLaw
import Derived.Deep.CutBlock
import Derived.Test.YtogljgiefmfafaaGreatProg
import Derived.Shelf.Lays
import Derived.WalkKit
import Derived.Shelf.Sort.Plain
import Derived.Shelf.Slices.In.SortNone
import Derived.Sort.OwnSortedInts
namespace Go.Proofs.YtogljgiefmfafaaGreat
open Go.RowKit Go.Maps
abbrev cellsR (r : R) : Array Value := #[.int .u64 r.stamp, .int .u8 r.act, .int .u32 r.dir, .string r.name, .int .u32 r.ino, .int .u8 r.kind, .int .u32 r.dir2, .string r.name2, .int .u32 r.old, .int .u32 r.size, .int .i64 r.page, .string r.data]
theorem lt_heap {W : World} {B : Nat} {o : Obj} (h : W.heap[B]? = some o) : B < W.heap.size := (Array.getElem?_eq_some_iff.1 h).1
theorem below_a1' (w : World) (a : Obj) : Below w.heap.size w (w.alloc a) := (Below.refl _ _).alloc (Nat.le_refl _) _
theorem rec_cell0 {w : World} {B : Nat} {r : R} (h : w.heap[B]? = some (.cells (cellsR r) 50 (0, 0))) (i : Nat) (v : Value) (hv : (cellsR r)[i]? = some v) : w.cell? ⟨B, i, none⟩ = some v := by
 simp only [World.cell?, h]; exact hv
theorem below_drew (w : World) : Below w.heap.size w w.drew := ⟨rfl, rfl, rfl, Nat.le_refl _, fun _ _ => rfl⟩
end Go.Proofs.YtogljgiefmfafaaGreat

namespace Go.Proofs.YtogljgiefmfafaaGreat
open Go.RowKit Go.Maps
section
variable {t : PT}
def lookA (t : PT) (r : R) : Int := if (lookP t r.dir r.name).2 = 0 ∧ (lookP t r.dir r.name).1 ≠ r.ino then 2 else (lookP t r.dir r.name).2
def madeA (t : PT) (r : R) : Int × PT := if (makeAtP t r.dir r.name r.kind r.ino).1 ≠ 0 ∨ r.kind = 2 then makeAtP t r.dir r.name r.kind r.ino else holdP (makeAtP t r.dir r.name r.kind r.ino).2 r.ino
def linkA (t : PT) (r : R) : Int × PT := linkP t r.dir r.name r.ino
noncomputable def unlinkA (t : PT) (r : R) : Int × PT :=
 if lookA t r ≠ 0 then (lookA t r, t)
 else if r.kind = 2 then ((dropP t r.dir r.name rmdirE).1.2, (dropP t r.dir r.name rmdirE).2)
 else ((dropP t r.dir r.name unlinkE).1.2, (dropP t r.dir r.name unlinkE).2)
def kindAt (t : PT) (i : Int) : Int := match t.n i with | some x => x.kind | none => 0
def oldAt (t : PT) (r : R) : Int := if (lookP t r.dir2 r.name2).2 = 0 then (lookP t r.dir2 r.name2).1 else 0
noncomputable def renameA (t : PT) (r : R) : Int × PT :=
 if lookA t r ≠ 0 then (lookA t r, t)
 else if kindAt t r.ino ≠ r.kind ∨ oldAt t r ≠ r.old then (2, t)
 else renameP t r.dir r.name r.dir2 r.name2
def sizeA (t : PT) (r : R) : Int × PT := resizeP t r.ino r.size
def pageA (t : PT) (r : R) : Int × PT := if (writeP t r.ino r.page r.data).1 ≠ 0 then writeP t r.ino r.page r.data else resizeP (writeP t r.ino r.page r.data).2 r.ino r.size
def freeA (t : PT) (r : R) : Int × PT := match t.n r.ino with
 | none => (3, t)
 | some x => if 0 < x.links then (2, t) else unholdP t r.ino
noncomputable def actA (t : PT) (r : R) : Int × PT :=
 if r.act = 1 then madeA t r
 else if r.act = 2 then linkA t r
 else if r.act = 3 then unlinkA t r
 else if r.act = 4 then renameA t r
 else if r.act = 5 then sizeA t r
 else if r.act = 6 then pageA t r
 else freeA t r
noncomputable def playA (t : PT) (r : R) : Int × PT := if checkB r = true then actA t r else (2, t)
theorem WellP.actA_ (h : WellP t) {r : R} (hr : r.Ok) : WellP (actA t r).2 := by
 have hs := hr.size
 unfold actA
 split
 · unfold madeA
   split
   · exact h.makeAtP_ _ _ _ _
   · exact (h.makeAtP_ _ _ _ _).holdP_ _
 · split
   · exact h.linkP_ _ _ _
   · split
     · unfold unlinkA
       split
       · exact h
       · split
         · exact h.rmdirP _ _
         · exact h.unlinkP _ _
     · split
       · unfold renameA
         split
         · exact h
         · split
           · exact h
           · exact h.renameP_ _ _ _ _
       · split
         · exact h.resizeP_ _ _ (by omega)
         · split
           · unfold pageA
             split
             · exact h.writeP_ _ _ _
             · exact (h.writeP_ _ _ _).resizeP_ _ _ (by omega)
           · unfold freeA
             split
             · exact h
             · split
               · exact h
               · exact h.unholdP_ _
theorem WellP.playA_ (h : WellP t) {r : R} (hr : r.Ok) : WellP (playA t r).2 := by
 unfold playA
 split
 · exact h.actA_ hr
 · exact h
theorem HeldK.actA_ {K : Int} (h : HeldK K t) (hK : 0 ≤ K) (r : R) : HeldK (K + 1) (actA t r).2 := by
 have hk : K ≤ K + 1 := by omega
 unfold actA
 split
 · unfold madeA
   split
   · exact (h.makeAtP_ hK _).mono hk
   · exact (h.makeAtP_ hK _).holdP_
 · split
   · exact h.linkP_.mono hk
   · split
     · unfold unlinkA
       split
       · exact h.mono hk
       · split
         · exact (h.dropP_ _).mono hk
         · exact (h.dropP_ _).mono hk
     · split
       · unfold renameA
         split
         · exact h.mono hk
         · split
           · exact h.mono hk
           · exact (h.renameP_ _ _).mono hk
       · split
         · exact (h.resizeP_ _).mono hk
         · split
           · unfold pageA
             split
             · exact (h.writeP_ _ _).mono hk
             · exact ((h.writeP_ _ _).resizeP_ _).mono hk
           · unfold freeA
             split
             · exact h.mono hk
             · split
               · exact h.mono hk
               · exact h.unholdP_.mono hk
theorem HeldK.playA_ {K : Int} (h : HeldK K t) (hK : 0 ≤ K) (r : R) : HeldK (K + 1) (playA t r).2 := by
 unfold playA
 split
 · exact h.actA_ hK r
 · exact h.mono (by omega)
end
end Go.Proofs.YtogljgiefmfafaaGreat

namespace Go.Proofs.YtogljgiefmfafaaGreat
open Go.RowKit Go.Maps
structure Pt where
 kind : Int
 ino : Int
 name : ByteArray
 write : Bool
def Pt.cells (p : Pt) : List Value := [.int .u8 p.kind, .int .u32 p.ino, .string p.name, .bool p.write]
def flatP (l : List Pt) : List Value := l.flatMap Pt.cells
structure RelO (B G : Nat) (W W' : World) : Prop where
 os : W'.os = W.os
 tape : W'.tape = W.tape
 output : W'.output = W.output
 size : W.heap.size ≤ W'.heap.size
 old : ∀ b, b < G → b ≠ B → W'.heap[b]? = W.heap[b]?
theorem row_slice {w : World} {base n size : Nat} {e : TypeId} {v : Value} {xs : List Value} (h : w.ownsRow base e size v n xs) : ∃ A c, v = .slice A n c := by
 rcases h.2 with ⟨rfl, rfl⟩ | ⟨g, cap, cur, rfl, _⟩
 · exact ⟨none, 0, rfl⟩
 · exact ⟨_, cap, rfl⟩
theorem infoPt : ∃ i, Tryz.prog.info? 125 = some i ∧ i.zero = some (.agg #[.int .u8 0, .int .u32 0, .string ⟨#[]⟩, .bool false]) ∧ i.size = 4 ∧ i.bytes = 32 := by
 have : (Tryz.prog.info? 125).map (fun i => (i.zero, i.size, i.bytes)) = some (some (.agg #[.int .u8 0, .int .u32 0, .string ⟨#[]⟩, .bool false]), 4, 32) := by kernel_rfl
 obtain ⟨i, hi, he⟩ := Option.map_eq_some_iff.1 this
 simp only [Prod.mk.injEq] at he
 exact ⟨i, hi, he.1, he.2.1, he.2.2⟩
theorem flatP_append (a b : List Pt) : flatP (a ++ b) = flatP a ++ flatP b := by unfold flatP; rw [List.flatMap_append]
theorem run_append_pt (base ty : Nat) (w : World) (v : Value) (l : List Pt) (hown : w.ownsRow base 125 4 v l.length (flatP l)) (q : Nat) (p : Pt) (hq : w.heap[q]? = some (.cells p.cells.toArray 125 (0, 0)))
  (hl : l.length ≤ 100000) (hbase : base ≤ w.heap.size) :
  ∃ v' w', (Builtin.append_ #[99, 99] ty #[v, .slice (some ⟨q, 0, none⟩) 1 1]).run Tryz.prog w = .ok v' w' ∧ w'.ownsRow base 125 4 v' (l.length + 1) (flatP (l ++ [p])) ∧ w.grownBy w' v.ownBlock := by
 obtain ⟨i0, hi, hz0, hz1, hz2⟩ := infoPt
 obtain ⟨v', w', hrun, h2, h3, _, _⟩ := run_append_own_at (P := Tryz.prog) w base 99 ty 125 i0 _ 4 32 Tryz.underlying99 hi hz0 hz1 hz2 rfl (by decide) v l.length (flatP l) hown ⟨q, 0, none⟩ 1 1 p.cells
  rfl (fun j u hu => by
   rw [Addr.add_mid, Nat.zero_add]
   simp only [World.cell?, hq]
   simpa using hu) (by simp [Pt.cells, Value.oneCell']) (by unfold maxLen; omega) (by omega) hbase
 exact ⟨v', w', hrun, by rw [flatP_append, show flatP [p] = p.cells by simp [flatP]]; exact h2, h3⟩
theorem wpList_append_pt {ops : Array Oper} {rest : List Oper} {o : Oper} {a : Act} {Q : Exit → Act → World → Prop} {w : World} (hgd : o.guard = none) (s x : Operand)
  (ho : o.op = .call { callee := .builtin .append, args := #[s, x], argTypes := #[99, 99] })
  (base : Nat) (v : Value) (l : List Pt) (n k : Nat) (hn : l.length = n) (hk : n + 1 = k) (hs : a.eval s = v) (hown : w.ownsRow base 125 4 v n (flatP l)) (q : Nat) (p : Pt) (hx : a.eval x = .slice (some ⟨q, 0, none⟩) 1 1)
  (hq : w.heap[q]? = some (.cells p.cells.toArray 125 (0, 0))) (hl : l.length ≤ 100000) (hbase : base ≤ w.heap.size)
  (h : ∀ A1 c1 w', w'.ownsRow base 125 4 (.slice A1 k c1) k (flatP (l ++ [p])) → w.grownBy w' v.ownBlock → wpList Tryz.prog ops Q rest (a.put o.dst (.slice A1 k c1)) w') : wpList Tryz.prog ops Q (o :: rest) a w :=
 wpList_plain hgd fun _ hK => by
  subst hk
  subst hn
  obtain ⟨v', w', hrun, h2, h3⟩ := run_append_pt base o.type w v l hown q p hq hl hbase
  unfold Oper.wp execOp
  simp only [ho, resolve, invoke, builtin, Sem.run_bind, Sem.run_pure, Result.andThen_ok, List.map_toArray, List.map_cons, List.map_nil, hs, hx, hrun]
  obtain ⟨A1, c1, rfl⟩ := row_slice h2
  exact hK _ _ (h A1 c1 w' h2 h3)
theorem part_grow {w w' : World} {Bo G : Nat} {v : Value} {l : List Pt} {A B : Obj} (hB : w.heap[Bo]? = some (.cells #[v] 99 (0, 0))) (hv : w.ownsRow G 125 4 v l.length (flatP l)) (hBG : Bo < G) (hG : G ≤ w.heap.size)
  (hg : ((w.alloc A).alloc B).grownBy w' v.ownBlock) : w'.cell? ⟨Bo, 0, none⟩ = some v ∧ w'.frozen? ⟨Bo, 0, none⟩ = false ∧ w'.heap[Bo]? = some (.cells #[v] 99 (0, 0)) ∧ RelO Bo G w w' := by
 have lB : Bo < w.heap.size := (Array.getElem?_eq_some_iff.1 hB).1
 have hown : ∀ b, b < G → some b ≠ v.ownBlock := fun b hb e => by have := (hv.lt b e.symm).1; omega
 have hsz : ((w.alloc A).alloc B).heap.size = w.heap.size + 1 + 1 := by simp
 have old : ∀ b, b < w.heap.size → ((w.alloc A).alloc B).heap[b]? = w.heap[b]? := fun b hb => (heap_alloc_old _ _ (by simp; omega)).trans (heap_alloc_old _ _ hb)
 have hh : w'.heap[Bo]? = some (.cells #[v] 99 (0, 0)) := by
  rw [hg.block Bo (by omega) (hown Bo hBG), old Bo lB, hB]
 refine ⟨by simp only [World.cell?, hh]; rfl, by simp [World.frozen?, hh], hh, hg.os, hg.tape, hg.output, by have := hg.size; omega, fun b h1 h2 => ?_⟩
 by_cases hb : b < w.heap.size
 · rw [hg.block b (by omega) (hown b h1), old b hb]
 · omega
set_option maxRecDepth 100000 in
set_option maxHeartbeats 4000000 in
theorem t_write (p : Pt) (g Bo G : Nat) (v : Value) (l : List Pt) (w : World) (hg : w.heap[g]? = some (.cells p.cells.toArray 125 (0, 0)))
  (hB : w.heap[Bo]? = some (.cells #[v] 99 (0, 0))) (hBG : Bo < G) (hG : G ≤ w.heap.size) (hv : w.ownsRow G 125 4 v l.length (flatP l)) (hl : l.length ≤ 1000) :
  Calls Tryz.prog 110 #[.slice (some ⟨g, 0, none⟩) 1 1, .pointer (some ⟨Bo, 0, none⟩)] w fun e w' => e = .returned (.tuple #[]) ∧ ∃ v', w'.heap[Bo]? = some (.cells #[v'] 99 (0, 0)) ∧ w'.ownsRow G 125 4 v' (l.length + 1) (flatP (l ++ [{ p with write := true }])) ∧ RelO Bo G w w' := by
 obtain ⟨k, i, n, b⟩ := p
 have cg : ∀ (j : Nat) (u : Value), (Pt.cells ⟨k, i, n, b⟩)[j]? = some u → w.cell? ⟨g, j, none⟩ = some u := fun j u hu => by
  simp only [World.cell?, hg]
  simpa using hu
 have g0 := cg 0 _ rfl
 have g1 := cg 1 _ rfl
 have g2 := cg 2 _ rfl
 have g3 := cg 3 _ rfl
 have cB : w.cell? ⟨Bo, 0, none⟩ = some v := by simp only [World.cell?, hB]; rfl
 have lB : Bo < w.heap.size := (Array.getElem?_eq_some_iff.1 hB).1
 have HB := Lib.hid hB
 have HV := Lib.hid hv
 clear hg hB hv cg
 go_enter Tryz.func110, Tryz.ntmps110
 go_wp2
 go_loopw [7] (fun x wr => (x = .int .i64 0 ∧ wr = w) ∨ (x = .int .i64 1 ∧ Hid (∃ v', wr.heap[Bo]? = some (.cells #[v'] 99 (0, 0)) ∧ wr.ownsRow G 125 4 v' (l.length + 1) (flatP (l ++ [(⟨k, i, n, true⟩ : Pt)])) ∧ RelO Bo G w wr))) (fun x _ => 2 - (intOf x).toNat)
 case atStart => exact .inl ⟨rfl, rfl⟩
 case round =>
  rcases hrel with ⟨rfl, rfl⟩ | ⟨rfl, HR⟩
  · have hx1 : ∀ c : Array Value, ((wr.alloc (.cells c 125)).alloc (.cells #[.int .u8 k, .int .u32 i, .string n, .bool true] 125)).heap[wr.heap.size + 1]? = some (.cells (Pt.cells ⟨k, i, n, true⟩).toArray 125 (0, 0)) := fun c => by
     have := heap_alloc_new (wr.alloc (.cells c 125)) (.cells #[.int .u8 k, .int .u32 i, .string n, .bool true] 125)
     rw [show (wr.alloc (.cells c 125)).heap.size = wr.heap.size + 1 by simp] at this
     exact this
    have HX := Lib.hid hx1
    clear hx1
    go_wp2_with (at_builtin; refine wpList_append_pt rfl (.tmp 12) (.tmp 14) rfl G v l l.length (l.length + 1) rfl rfl rfl ((HV.out.alloc _).alloc _) (wr.heap.size + 1) ⟨k, i, n, true⟩ rfl (HX.out _) (by omega) (by simp; omega) ?_; intro A1 c1 w' h2 h3; have H2 := Lib.hid h2; have hw := part_grow HB.out HV.out hBG hG h3; have cB' := hw.1; have fB' := hw.2.1; have HW := Lib.hid hw; clear h2 h3 hw)
    refine ⟨.inr ⟨rfl, ?_⟩, by decide⟩
    have hb := HW.out.2.2.1
    refine ⟨_, by rw [pheap_set _ Bo 0 _ _ _ hb]; rfl, ?_, ?_⟩
    · exact H2.out.kept (pgrown_set w' Bo 0 _) (by
       cases hvo : (Value.slice A1 (l.length + 1) c1).ownBlock with
       | none => exact .inl rfl
       | some x => exact .inr (fun e => by injection e with e; have := (H2.out.lt x hvo).1; omega))
    · have hr := HW.out.2.2.2
      have hg := pgrown_set w' Bo 0 (.slice A1 (l.length + 1) c1)
      exact ⟨hg.os.trans hr.os, hg.tape.trans hr.tape, hg.output.trans hr.output, Nat.le_trans hr.size hg.size, fun b h1 h2 => (hg.block b (by have := hr.size; omega) (fun e => h2 (by injection e))).trans (hr.old b h1 h2)⟩
  · go_wp2
    go_end0
    exact ⟨rfl, HR.out⟩
end Go.Proofs.YtogljgiefmfafaaGreat

namespace Go.Proofs.YtogljgiefmfafaaGreat
open Go.RowKit Go.Maps
def bareN (x : PN) : PN := { x with l := fun _ => none }
def hdP (t : PT) (j : Int) : Option PN := (t.n j).map bareN
def entP (t : PT) (j : Int) (k : List UInt8) : Option Int := match t.n j with | some x => x.l k | none => none
section
variable {t u v : PT} {i j d : Int} {x z : PN} {k : List UInt8} {s : ByteArray}
theorem ent_some (h : t.n j = some x) : entP t j k = x.l k := by unfold entP; rw [h]
theorem ent_none (h : t.n j = none) : entP t j k = none := by unfold entP; rw [h]
theorem hd_same (h : hdP u j = hdP t j) : (u.n j).isSome = (t.n j).isSome := by
 unfold hdP at h
 cases h1 : u.n j <;> cases h2 : t.n j <;> rw [h1, h2] at h <;> first | rfl | cases h
theorem hd_get (h : hdP u j = hdP t j) (hx : t.n j = some x) : ∃ z, u.n j = some z ∧ bareN z = bareN x := by
 unfold hdP at h
 rw [hx] at h
 cases h1 : u.n j with
 | none => rw [h1] at h; cases h
 | some z =>
  rw [h1] at h
  exact ⟨z, rfl, Option.some.inj h⟩
theorem bare_ext (h : bareN z = bareN x) (hl : ∀ k, z.l k = x.l k) : z = x := by
 have h1 := congrArg PN.kind h
 have h2 := congrArg PN.links h
 have h3 := congrArg PN.size h
 have h4 := congrArg PN.pages h
 have h5 := congrArg PN.held h
 have h6 := congrArg PN.up h
 obtain ⟨z1, z2, z3, z4, z5, z6, z7⟩ := z
 obtain ⟨x1, x2, x3, x4, x5, x6, x7⟩ := x
 simp only [bareN] at h1 h2 h3 h4 h5 h6 hl
 obtain rfl : z4 = x4 := funext hl
 subst h1 h2 h3 h4 h5 h6
 rfl
structure Keeps (wI : Int → Prop) (wE : Int → List UInt8 → Prop) (t u : PT) : Prop where
 room : u.room = t.room
 hd : ∀ j, ¬ wI j → hdP u j = hdP t j
 ent : ∀ d k, ¬ wE d k → entP u d k = entP t d k
variable {wI rI : Int → Prop} {wE : Int → List UInt8 → Prop}
theorem Keeps.refl (t : PT) : Keeps wI wE t t := ⟨rfl, fun _ _ => rfl, fun _ _ _ => rfl⟩
theorem Keeps.trans (h : Keeps wI wE t u) (g : Keeps wI wE u v) : Keeps wI wE t v := ⟨g.room.trans h.room, fun j hj => (g.hd j hj).trans (h.hd j hj), fun d k hk => (g.ent d k hk).trans (h.ent d k hk)⟩
theorem Keeps.ents (hx : t.n d = some x) (l' : List UInt8 → Option Int) (hl : ∀ k, ¬ wE d k → l' k = x.l k) : Keeps wI wE t (t.set d { x with l := l' }) := by
 refine ⟨rfl, fun j _ => ?_, fun e k hk => ?_⟩
 · unfold hdP
   rw [PT.set_n]
   split
   · rename_i e; rw [e, hx]; rfl
   · rfl
 · unfold entP
   rw [PT.set_n]
   by_cases e1 : e = d
   · subst e1
     rw [if_pos rfl, hx]
     exact hl k hk
   · rw [if_neg e1]
theorem Keeps.set (hi : wI i) (hl : ∀ k, z.l k = entP t i k) : Keeps wI wE t (t.set i z) := by
 refine ⟨rfl, fun j hj => ?_, fun e k _ => ?_⟩
 · unfold hdP
   rw [PT.set_n, if_neg (fun e => hj (by rw [e]; exact hi))]
 · by_cases e1 : e = i
   · subst e1
     rw [ent_some (x := z) (by rw [PT.set_n, if_pos rfl])]
     exact hl k
   · unfold entP
     rw [PT.set_n, if_neg e1]
theorem Keeps.del (hi : wI i) (hl : ∀ k, entP t i k = none) : Keeps wI wE t (t.del i) := by
 refine ⟨rfl, fun j hj => ?_, fun e k _ => ?_⟩
 · unfold hdP
   rw [PT.del_n, if_neg (fun e => hj (by rw [e]; exact hi))]
 · by_cases e1 : e = i
   · subst e1
     rw [hl k, ent_none (by rw [PT.del_n, if_pos rfl])]
   · unfold entP
     rw [PT.del_n, if_neg e1]
theorem in_l (x : PN) (d : Int) : (inN x d).l = x.l := by unfold inN; split <;> rfl
theorem out_l (x : PN) : (outN x).l = x.l := by unfold outN; split <;> rfl
theorem updL_ne {l : List UInt8 → Option Int} {q : List UInt8} {v : Int} (h : k ≠ q) : updL l q v k = l k := by unfold updL; rw [if_neg h]
theorem delL_ne {l : List UInt8 → Option Int} {q : List UInt8} (h : k ≠ q) : delL l q k = l k := by unfold delL; rw [if_neg h]
theorem Keeps.enter (hd : t.n d = some x) (hz : t.n i = some z) (hne : i ≠ d) (hi : wI i) (he : wE d s.data.toList) : Keeps wI wE t (enterT t d x s i z) := by
 unfold enterT
 refine (Keeps.ents hd _ fun k hk => updL_ne fun e => hk (e ▸ he)).trans (Keeps.set hi fun k => ?_)
 rw [in_l, ent_some (x := z) (by rw [PT.set_n, if_neg hne]; exact hz)]
theorem Keeps.leave (hd : t.n d = some x) (hz : t.n i = some z) (hne : i ≠ d) (hi : wI i) (he : wE d s.data.toList) : Keeps wI wE t (leaveT t d x s i z) := by
 unfold leaveT
 refine (Keeps.set hi fun k => ?_).trans (Keeps.ents (by rw [PT.set_n, if_neg (fun e => hne e.symm)]; exact hd) _ fun k hk => delL_ne fun e => hk (e ▸ he))
 rw [out_l, ent_some hz]
theorem Keeps.free (hi : wI i) (hl : goneB i z = true → ∀ k, entP t i k = none) : Keeps wI wE t (freeP t i z) := by
 unfold freeP
 split
 · rename_i h
   exact .del hi (hl h)
 · exact .refl t
theorem leave_entP (hne : i ≠ d) (_hz : t.n i = some z) : entP (leaveT t d x s i z) i k = z.l k := by
 rw [ent_some (x := outN z) (by rw [leave_n hne, if_neg hne, if_pos rfl]), out_l]
theorem Keeps.drop (hd : t.n d = some x) (hz : t.n i = some z) (hne : i ≠ d) (hi : wI i) (he : wE d s.data.toList) (hl : ∀ k, z.l k = none) : Keeps wI wE t (dropT t d x s i z) := by
 unfold dropT
 exact (Keeps.leave hd hz hne hi he).trans (.free hi fun _ k => by rw [leave_entP hne hz]; exact hl k)
theorem there_congr {is : List Int} (h : ∀ i ∈ is, (u.n i).isSome = (t.n i).isSome) : thereE u is = thereE t is := by
 have e : (is.any fun i => (u.n i).isNone) = is.any fun i => (t.n i).isNone := by
  induction is with
  | nil => rfl
  | cons a is ih =>
   rw [List.any_cons, List.any_cons, ih fun i hi => h i (List.mem_cons_of_mem _ hi)]
   have := h a (by simp)
   cases h1 : u.n a <;> cases h2 : t.n a <;> rw [h1, h2] at this <;> first | rfl | cases this
 unfold thereE
 rw [e]
end
def wIr (r : R) (j : Int) : Prop := j = r.ino ∨ (r.old ≠ 0 ∧ j = r.old)
def wEr (r : R) (d : Int) (k : List UInt8) : Prop := (1 ≤ r.act ∧ r.act ≤ 4) ∧ ((d = r.dir ∧ k = r.name.data.toList) ∨ (r.act = 4 ∧ d = r.dir2 ∧ k = r.name2.data.toList))
abbrev KeepsR (r : R) (t u : PT) : Prop := Keeps (wIr r) (wEr r) t u
section
variable {t u : PT} {r : R}
theorem names_both' {s s2 : ByteArray} (h : namesE [s, s2] = 0) : namesE [s] = 0 ∧ namesE [s2] = 0 ∧ namesE [s2, s] = 0 := by
 unfold namesE at *
 cases e1 : pnameB s <;> cases e2 : pnameB s2 <;> simp [e1, e2] at h ⊢
theorem look_of' {d : Int} {s : ByteArray} {xd : PN} (hn : namesE [s] = 0) (ha : t.n d = some xd) (hk : xd.kind = 2) : lookP t d s = ((xd.l s.data.toList).getD 0, if (xd.l s.data.toList).getD 0 = 0 then 3 else 0) := by
 have h1 : thereE t [d] = 0 := by simp [thereE, ha]
 have h2 : dirsE t [d] = 0 := by simp [dirsE, isFile, ha, hk]
 unfold lookP
 rw [hn, h1, h2, if_neg (by simp [firstE]), ha]
theorem wI_ino (r : R) : wIr r r.ino := .inl rfl
theorem file_no_ent (h : WellP t) {i : Int} {x : PN} (hx : t.n i = some x) (hk : x.kind ≠ 2) (k : List UInt8) : x.l k = none := by
 cases hl : x.l k with
 | none => rfl
 | some v => exact absurd (h.ent i x k v hx hl).1 hk
theorem look_zero {d : Int} {s : ByteArray} (h : WellP t) (h0 : (lookP t d s).2 = 0) : ∃ xd xi, t.n d = some xd ∧ xd.l s.data.toList = some (lookP t d s).1 ∧ t.n (lookP t d s).1 = some xi ∧ (lookP t d s).1 ≠ d ∧ xd.kind = 2 := by
 obtain ⟨xa, y, ha, hl, hi, hia, _, _, hak⟩ := look_okP h.good h0
 exact ⟨xa, y, ha, hl, hi, hia, hak⟩
theorem lookA_zero (h : lookA t r = 0) : (lookP t r.dir r.name).2 = 0 ∧ (lookP t r.dir r.name).1 = r.ino := by
 unfold lookA at h
 split at h
 · cases h
 · rename_i h1
   exact ⟨h, Decidable.byContradiction fun c => h1 ⟨h, c⟩⟩
theorem gone_ents (h : WellP t) {i : Int} {x : PN} (hx : t.n i = some x) (q : PN → Int) (hq : q = unlinkE ∨ q = rmdirE) (h0 : q x = 0) (k : List UInt8) : x.l k = none := by
 rcases hq with rfl | rfl
 · refine file_no_ent h hx (fun c => ?_) k
   unfold unlinkE at h0
   rw [c] at h0
   cases h0
 · unfold rmdirE at h0
   split at h0
   · cases h0
   · split at h0
     · rename_i h2
       exact emptyB_iff.1 h2 k
     · cases h0
theorem keeps_drop (h : WellP t) (hr : 1 ≤ r.act ∧ r.act ≤ 4) (hl : lookA t r = 0) (q : PN → Int) (hq : q = unlinkE ∨ q = rmdirE) : KeepsR r t (dropP t r.dir r.name q).2 := by
 obtain ⟨h0, h1⟩ := lookA_zero hl
 obtain ⟨xd, xi, hd, hx, hi, hne, _⟩ := look_zero h h0
 unfold dropP
 rw [if_neg (by rw [h0]; simp), hd, hi]
 simp only
 split
 · exact .refl t
 · rename_i hq0
   have hq0 := Decidable.not_not.1 hq0
   exact Keeps.drop hd hi hne (by rw [h1]; exact wI_ino r) ⟨hr, .inl ⟨rfl, rfl⟩⟩ (gone_ents h hi q hq hq0)
theorem keeps_move {t : PT} {i : Int} {xa xb y : PN} (hr : r.act = 4) (ha : t.n r.dir = some xa) (hi : t.n i = some y) (hb : t.n r.dir2 = some xb) (hia : i ≠ r.dir) (hib : i ≠ r.dir2) (hw : wIr r i) : KeepsR r t (moveT t r.dir r.name r.dir2 r.name2 i) := by
 have hr4 : 1 ≤ r.act ∧ r.act ≤ 4 := by omega
 have h3 : ∃ xb', (leaveT t r.dir xa r.name i y).n r.dir2 = some xb' := by
  rw [leave_n hia]
  split
  · exact ⟨_, rfl⟩
  · rw [if_neg (fun e => hib e.symm)]
    exact ⟨_, hb⟩
 obtain ⟨xb', h3⟩ := h3
 unfold moveT
 rw [ha, hi]
 simp only
 rw [h3]
 exact (Keeps.leave ha hi hia hw ⟨hr4, .inl ⟨rfl, rfl⟩⟩).trans (Keeps.enter h3 (by rw [leave_n hia, if_neg hia, if_pos rfl]) hib hw ⟨hr4, .inr ⟨hr, rfl, rfl⟩⟩)
theorem old_of {d : Int} {s : ByteArray} {xb : PN} {v : Int} (h : WellP t) (hn : namesE [s] = 0) (hb : t.n d = some xb) (hk : xb.kind = 2) (hv : xb.l s.data.toList = some v) : (lookP t d s) = (v, 0) := by
 obtain ⟨_, _, _, z, hz, _⟩ := h.ent d xb _ v hb hv
 have := (h.range v z hz).1
 rw [look_of' hn hb hk, hv]
 simp
 omega
theorem keeps_actA (h : WellP t) (hc : checkB r = true) : KeepsR r t (actA t r).2 := by
 have hact : 1 ≤ r.act ∧ r.act ≤ 7 := by
  unfold checkB at hc
  simp only [Bool.and_eq_true, decide_eq_true_eq] at hc
  exact hc.1.1.1.1.1.1
 unfold actA
 split
 · rename_i h1
   have hm : KeepsR r t (makeAtP t r.dir r.name r.kind r.ino).2 := by
    unfold makeAtP
    split
    · rename_i h0
      obtain ⟨_, _, _, ⟨xd, hd, _, _⟩, hn⟩ := makeAtE_zero h0
      have hne : r.ino ≠ r.dir := fun e => by rw [e, hd] at hn; cases hn
      unfold makeT
      rw [hd]
      have g : KeepsR r t (t.set r.ino (newN r.kind)) := Keeps.set (wI_ino r) fun k => by rw [ent_none hn]; rfl
      exact g.trans (Keeps.enter (by rw [PT.set_n, if_neg (fun e => hne e.symm)]; exact hd) (by rw [PT.set_n, if_pos rfl]) hne (wI_ino r) ⟨by omega, .inl ⟨rfl, rfl⟩⟩)
    · exact .refl t
   unfold madeA
   split
   · exact hm
   · refine hm.trans ?_
     unfold holdP
     split
     · cases hx : (makeAtP t r.dir r.name r.kind r.ino).2.n r.ino with
       | none => exact .refl _
       | some x => exact Keeps.set (wI_ino r) fun k => by rw [ent_some hx]
     · exact .refl _
 · split
   · rename_i h1
     unfold linkA linkP
     split
     · rename_i h0
       obtain ⟨xd, xi, hd, hi, hne⟩ : ∃ xd xi, t.n r.dir = some xd ∧ t.n r.ino = some xi ∧ r.ino ≠ r.dir := by
        unfold linkE at h0
        obtain ⟨_, h0⟩ := firstE_cons h0
        obtain ⟨z1, h0⟩ := firstE_cons h0
        obtain ⟨z2, h0⟩ := firstE_cons h0
        obtain ⟨z3, h0⟩ := firstE_cons h0
        have q1 : (t.n r.dir).isSome = true := there_all z1 _ (by simp)
        have q2 : (t.n r.ino).isSome = true := there_all z1 _ (by simp)
        obtain ⟨xd, hd⟩ := Option.isSome_iff_exists.1 q1
        obtain ⟨xi, hi⟩ := Option.isSome_iff_exists.1 q2
        refine ⟨xd, xi, hd, hi, fun e => ?_⟩
        have k1 := dirs_zero z2 (i := r.dir) (by simp) hd
        have k2 := file_zero hi z3
        rw [e, hd] at hi
        cases hi
        exact k2 k1
       show KeepsR r t (linkT t r.dir r.name r.ino)
       unfold linkT
       rw [hd, hi]
       exact Keeps.enter hd hi hne (wI_ino r) ⟨by omega, .inl ⟨rfl, rfl⟩⟩
     · exact .refl t
   · split
     · rename_i h1
       unfold unlinkA
       split
       · exact .refl t
       · rename_i hl
         have hl := Decidable.not_not.1 hl
         split
         · exact keeps_drop h (by omega) hl _ (.inr rfl)
         · exact keeps_drop h (by omega) hl _ (.inl rfl)
     · split
       · rename_i h4
         have hr4 : 1 ≤ r.act ∧ r.act ≤ 4 := by omega
         unfold renameA
         split
         · exact .refl t
         · rename_i hl
           have hl := Decidable.not_not.1 hl
           obtain ⟨l0, l1⟩ := lookA_zero hl
           obtain ⟨xd, xi, hd, hx, hi, hne, _⟩ := look_zero h l0
           split
           · exact .refl t
           · rename_i hko
             have hold : oldAt t r = r.old := Decidable.byContradiction fun c => hko (.inr c)
             unfold renameP
             split
             · exact .refl t
             · rename_i h2
               have h2 := Decidable.not_not.1 h2
               obtain ⟨xa, xb, hxa, hxb, hak, hbk⟩ := rename_dirs h2
               rw [if_neg (by rw [l0]; simp)]
               rw [l1] at hx hi hne ⊢
               rw [hi, hxb]
               simp only
               split
               · exact .refl t
               · rename_i hnb
                 have hib : r.ino ≠ r.dir2 := fun e => by
                  rw [← e, hi] at hxb
                  cases hxb
                  have := (h.range _ _ hi).1
                  exact hnb ⟨hbk, e ▸ bel_self (by omega)⟩
                 cases ho : xb.l r.name2.data.toList with
                 | none => exact keeps_move h4 hd hi hxb hne hib (wI_ino r)
                 | some old =>
                  simp only
                  split
                  · exact .refl t
                  · rename_i hne2
                    cases hxo : t.n old with
                    | none => exact .refl t
                    | some xo =>
                     simp only
                     split
                     · exact .refl t
                     · rename_i hg
                       have hg := Decidable.not_not.1 hg
                       obtain ⟨n1, n2, n3⟩ := names_both' (firstE_cons h2).1
                       have e1 := old_of h n2 hxb hbk ho
                       have e2 : old = r.old := by
                        unfold oldAt at hold
                        rw [e1] at hold
                        simpa using hold
                       have ho0 : r.old ≠ 0 := by
                        have := (h.range _ _ hxo).1
                        omega
                       have hwo : wIr r old := .inr ⟨ho0, e2⟩
                       obtain ⟨gk, ge⟩ := gives_zero hg
                       have hob : old ≠ r.dir2 := (h.ent _ _ _ _ hxb ho).2.2.1
                       have hod : old ≠ r.dir := fun e => by
                        rw [← e, hxo] at hd
                        cases hd
                        rw [ge] at hx
                        cases hx
                       have g1 : KeepsR r t (dropT t r.dir2 xb r.name2 old xo) := Keeps.drop hxb hxo hob hwo ⟨hr4, .inr ⟨h4, rfl, rfl⟩⟩ ge
                       have hne3 : r.ino ≠ old := fun e => hne2 e.symm
                       have n1 : (dropT t r.dir2 xb r.name2 old xo).n r.ino = some xi := by
                        rw [drop_n hob, if_neg hib, if_neg hne3]
                        exact hi
                       have n2 : ∃ xa', (dropT t r.dir2 xb r.name2 old xo).n r.dir = some xa' := by
                        rw [drop_n hob]
                        split
                        · exact ⟨_, rfl⟩
                        · rw [if_neg (fun e => hod e.symm)]
                          exact ⟨_, hd⟩
                       have n3 : ∃ xb', (dropT t r.dir2 xb r.name2 old xo).n r.dir2 = some xb' := by
                        rw [drop_n hob, if_pos rfl]
                        exact ⟨_, rfl⟩
                       obtain ⟨_, n2⟩ := n2
                       obtain ⟨_, n3⟩ := n3
                       exact g1.trans (keeps_move h4 n2 n1 n3 hne hib (wI_ino r))
       · have hset : ∀ (t : PT) (x z : PN), t.n r.ino = some x → z.l = x.l → KeepsR r t (t.set r.ino z) := fun t x z hx hz => Keeps.set (wI_ino r) fun k => by rw [ent_some hx, hz]
         have hres : ∀ t : PT, KeepsR r t (resizeP t r.ino r.size).2 := fun t => by
          unfold resizeP
          split
          · show KeepsR r t (resizeT t r.ino r.size)
            unfold resizeT
            cases hx : t.n r.ino with
            | none => exact .refl t
            | some x => exact hset t x _ hx rfl
          · exact .refl t
         split
         · exact hres t
         · split
           · have hwr : KeepsR r t (writeP t r.ino r.page r.data).2 := by
              unfold writeP
              split
              · show KeepsR r t (writeT t r.ino r.page r.data)
                unfold writeT
                cases hx : t.n r.ino with
                | none => exact .refl t
                | some x => exact hset t x _ hx rfl
              · exact .refl t
             unfold pageA
             split
             · exact hwr
             · exact hwr.trans (hres _)
           · unfold freeA
             cases hx : t.n r.ino with
             | none => exact .refl t
             | some x =>
              simp only
              split
              · exact .refl t
              · unfold unholdP
                split
                · rename_i h0
                  rw [hx]
                  show KeepsR r t (unholdT t r.ino x)
                  unfold unholdT
                  refine (hset t x { x with held := x.held - 1 } hx rfl).trans (.free (wI_ino r) fun _ k => ?_)
                  rw [ent_some (x := { x with held := x.held - 1 }) (by rw [PT.set_n, if_pos rfl])]
                  refine file_no_ent h hx (fun hk => ?_) k
                  have z := (h.dirs _ _ hx hk).2
                  unfold unholdE at h0
                  obtain ⟨_, h0⟩ := firstE_cons h0
                  obtain ⟨h0, _⟩ := firstE_cons h0
                  unfold heldE' at h0
                  rw [hx] at h0
                  unfold heldE at h0
                  simp [z] at h0
                · exact .refl t
end
end Go.Proofs.YtogljgiefmfafaaGreat

namespace Go.Proofs.YtogljgiefmfafaaGreat
open Go.RowKit Go.Maps
theorem any_take_succ {α : Type} (p : α → Bool) (l : List α) (k : Nat) (x : α) (hx : l[k]? = some x) (h : (l.take k).any p = false) (hp : p x = false) : (l.take (k + 1)).any p = false := by
 obtain ⟨h1, rfl⟩ := List.getElem?_eq_some_iff.1 hx
 rw [List.take_succ_eq_append_getElem h1, List.any_append, h]
 simp [hp]
end Go.Proofs.YtogljgiefmfafaaGreat

namespace Go.Proofs.YtogljgiefmfafaaGreat
open Go.RowKit Go.Maps
section
variable {t u : PT} {a b : R}
theorem check_act (hc : checkB b = true) : (1 ≤ b.act ∧ b.act ≤ 7) ∧ (b.old ≠ 0 → b.act = 4) := by
 unfold checkB fitB kMove at hc
 simp only [Bool.and_eq_true, Bool.or_eq_true, decide_eq_true_eq, Bool.not_eq_true', beq_iff_eq, decide_eq_false_iff_not] at hc
 refine ⟨hc.1.1.1.1.1.1, fun h => ?_⟩
 rcases hc.1.1.2 with ⟨e, _⟩ | ⟨_, e⟩
 · exact e
 · exact absurd e.2 h
theorem bel_keeps (h : WellP t) {d : Int} {xb : PN} (hu : ∀ j x, t.n j = some x → x.kind = 2 → (j = d ∨ ∃ k v, x.l k = some v) → upAt u j = upAt t j) (hb : t.n d = some xb) (hk : xb.kind = 2) (top : Int) : Bel u top d ↔ Bel t top d := by
 have key : ∀ (n : Nat) (j : Int), (j = 0 ∨ ∃ x, t.n j = some x ∧ x.kind = 2 ∧ (j = d ∨ ∃ k v, x.l k = some v)) → belowP u top n j = belowP t top n j := by
  intro n
  induction n with
  | zero => intro j _; rfl
  | succ n ih =>
   rintro j (rfl | ⟨x, hx, hxk, hs⟩)
   · rw [belowP_zero, belowP_zero]
   · unfold belowP
     rw [hu j x hx hxk hs]
     split
     · rfl
     · rename_i hj0
       split
       · rfl
       · refine ih _ ?_
         have e : upAt t j = x.up := by unfold upAt; rw [hx]
         rw [e]
         by_cases hup : x.up = 0
         · exact .inl hup
         · have hj1 : j ≠ 1 := fun e1 => by
            obtain ⟨x1, h1, _, h3⟩ := h.root
            rw [e1, h1] at hx
            cases hx
            exact hup h3
           obtain ⟨k, xu, hxu, hlu⟩ := h.up j x hx hxk hj1
           exact .inr ⟨xu, hxu, (h.ent _ _ _ _ hxu hlu).1, .inr ⟨k, j, hlu⟩⟩
 unfold Bel
 constructor
 · rintro ⟨n, hn⟩
   exact ⟨n, by rw [← key n d (.inr ⟨xb, hb, hk, .inl rfl⟩)]; exact hn⟩
 · rintro ⟨n, hn⟩
   exact ⟨n, by rw [key n d (.inr ⟨xb, hb, hk, .inl rfl⟩)]; exact hn⟩
end
end Go.Proofs.YtogljgiefmfafaaGreat

namespace Go.Proofs.YtogljgiefmfafaaGreat
open Go.RowKit Go.Maps
def RecOk (r : R) : Prop := r.Ok ∧ r.name.size ≤ maxLen ∧ r.name2.size ≤ maxLen ∧ r.data.size ≤ maxLen
structure RecsAt (w : World) (A : Option Addr) (l : List R) : Prop where
 at_ : l ≠ [] → ∃ b o, A = some ⟨b, o, none⟩ ∧ b < w.heap.size ∧ ∀ (k : Nat) (r : R), l[k]? = some r → ∀ (i : Nat) (v : Value), (cellsR r)[i]? = some v → w.cell? ⟨b, o + k * 12 + i, none⟩ = some v
 ok : ∀ r ∈ l, RecOk r
theorem RecsAt.below {w w' : World} {A : Option Addr} {l : List R} (h : RecsAt w A l) (hb : Below w.heap.size w w') : RecsAt w' A l :=
 ⟨fun hn => by
  obtain ⟨b, o, h1, h2, h3⟩ := h.at_ hn
  exact ⟨b, o, h1, Nat.lt_of_lt_of_le h2 hb.size, fun k r hk i v hv => (World.cell?_of_block (a := ⟨b, _, none⟩) (hb.block b h2)).trans (h3 k r hk i v hv)⟩, h.ok⟩
def rAt (l : List R) (k : Nat) : R := l.getD k ⟨0, 0, 0, ⟨#[]⟩, 0, 0, 0, ⟨#[]⟩, 0, 0, 0, ⟨#[]⟩⟩
theorem row_below {w w' : World} {base size n : Nat} {e : TypeId} {v : Value} {xs : List Value} (h : w.ownsRow base e size v n xs) (hb : Below w.heap.size w w') : w'.ownsRow base e size v n xs :=
 h.kept (row := none) ⟨hb.os, hb.tape, hb.output, hb.size, fun k hk _ => hb.block k hk⟩ (by cases hv : v.ownBlock with | none => exact .inl rfl | some x => exact .inr (by simp))
end Go.Proofs.YtogljgiefmfafaaGreat

namespace Go.Proofs.YtogljgiefmfafaaGreat
open Go.Shelf Go.RowKit
def so_ren : Go.Shelf.Ren := ⟨fun | 189 => 85 | 125 => 145 | 257 => 152 | 128 => 191 | 129 => 192 | 294 => 198 | 295 => 199 | 296 => 200 | 297 => 201 | 298 => 202 | 299 => 203 | 216 => 204 | 300 => 205 | 301 => 206 | 328 => 248 | 329 => 242 | 330 => 243 | 331 => 249 | 332 => 250 | 215 => 251 | 343 => 262 | n => n, fun | 28 => 60 | 3 => 3 | 46 => 197 | 0 => 0 | 51 => 37 | 53 => 48 | 4 => 4 | 183 => 225 | 182 => 224 | 131 => 58 | 5 => 5 | 9 => 9 | 218 => 265 | 222 => 269 | 228 => 280 | 229 => 281 | n => n, fun | n => n⟩
theorem so : Lays.n189 Tryz.prog so_ren := {
 mixed := by kernel_rfl
 f125 := Tryz.func145.trans (congrArg some (by kernel_rfl))
 f128 := Tryz.func191.trans (congrArg some (by kernel_rfl))
 f129 := Tryz.func192.trans (congrArg some (by kernel_rfl))
 f189 := Tryz.func85.trans (congrArg some (by kernel_rfl))
 f215 := Tryz.func251.trans (congrArg some (by kernel_rfl))
 f216 := Tryz.func204.trans (congrArg some (by kernel_rfl))
 f257 := Tryz.func152.trans (congrArg some (by kernel_rfl))
 f294 := Tryz.func198.trans (congrArg some (by kernel_rfl))
 f295 := Tryz.func199.trans (congrArg some (by kernel_rfl))
 f296 := Tryz.func200.trans (congrArg some (by kernel_rfl))
 f297 := Tryz.func201.trans (congrArg some (by kernel_rfl))
 f298 := Tryz.func202.trans (congrArg some (by kernel_rfl))
 f299 := Tryz.func203.trans (congrArg some (by kernel_rfl))
 f300 := Tryz.func205.trans (congrArg some (by kernel_rfl))
 f301 := Tryz.func206.trans (congrArg some (by kernel_rfl))
 f328 := Tryz.func248.trans (congrArg some (by kernel_rfl))
 f329 := Tryz.func242.trans (congrArg some (by kernel_rfl))
 f330 := Tryz.func243.trans (congrArg some (by kernel_rfl))
 f331 := Tryz.func249.trans (congrArg some (by kernel_rfl))
 f332 := Tryz.func250.trans (congrArg some (by kernel_rfl))
 f343 := Tryz.func262.trans (congrArg some (by kernel_rfl))
 t0 := Tryz.underlying0
 a0 := Tryz.isAgg0
 z0 := Tryz.sizeOf0
 v0 := Tryz.zeroValue0
 t3 := Tryz.underlying3
 a3 := Tryz.isAgg3
 z3 := Tryz.sizeOf3
 v3 := Tryz.zeroValue3
 t4 := Tryz.underlying4
 a4 := Tryz.isAgg4
 z4 := Tryz.sizeOf4
 v4 := Tryz.zeroValue4
 t5 := Tryz.underlying5
 a5 := Tryz.isAgg5
 z5 := Tryz.sizeOf5
 v5 := Tryz.zeroValue5
 t9 := Tryz.underlying9
 a9 := Tryz.isAgg9
 z9 := Tryz.sizeOf9
 v9 := Tryz.zeroValue9
 t28 := Tryz.underlying60
 a28 := Tryz.isAgg60
 z28 := Tryz.sizeOf60
 v28 := Tryz.zeroValue60
 t46 := Tryz.underlying197
 a46 := Tryz.isAgg197
 z46 := Tryz.sizeOf197
 v46 := Tryz.zeroValue197
 t51 := Tryz.underlying37
 a51 := Tryz.isAgg37
 z51 := Tryz.sizeOf37
 v51 := Tryz.zeroValue37
 t53 := Tryz.underlying48
 a53 := Tryz.isAgg48
 z53 := Tryz.sizeOf48
 v53 := Tryz.zeroValue48
 t131 := Tryz.underlying58
 a131 := Tryz.isAgg58
 z131 := Tryz.sizeOf58
 v131 := Tryz.zeroValue58
 t182 := Tryz.underlying224
 a182 := Tryz.isAgg224
 z182 := Tryz.sizeOf224
 v182 := Tryz.zeroValue224
 t183 := Tryz.underlying225
 a183 := Tryz.isAgg225
 z183 := Tryz.sizeOf225
 v183 := Tryz.zeroValue225
 t218 := Tryz.underlying265
 a218 := Tryz.isAgg265
 z218 := Tryz.sizeOf265
 v218 := Tryz.zeroValue265
 t222 := Tryz.underlying269
 a222 := Tryz.isAgg269
 z222 := Tryz.sizeOf269
 v222 := Tryz.zeroValue269
 t228 := Tryz.underlying280
 a228 := Tryz.isAgg280
 z228 := Tryz.sizeOf280
 v228 := Tryz.zeroValue280
 t229 := Tryz.underlying281
 a229 := Tryz.isAgg281
 z229 := Tryz.sizeOf281
 v229 := Tryz.zeroValue281 }
end Go.Proofs.YtogljgiefmfafaaGreat

namespace Go.Proofs.YtogljgiefmfafaaGreat
open Go.RowKit Go.Maps
def cellsL (r : R) : List Value := (cellsR r).toList
def flatR (l : List R) : List Value := l.flatMap cellsL
end Go.Proofs.YtogljgiefmfafaaGreat

namespace Go.Proofs.YtogljgiefmfafaaGreat
open Go.RowKit Go.Maps
noncomputable def runA (t : PT) : List R → Option PT
 | [] => some t
 | r :: l => if (playA t r).1 = 0 then runA (playA t r).2 l else none
section
variable {t u v : PT} {x y r : R} {l A B : List R}
theorem runA_cons : runA t (r :: l) = some u ↔ (playA t r).1 = 0 ∧ runA (playA t r).2 l = some u := by
 show (if _ then _ else none) = some u ↔ _
 by_cases h : (playA t r).1 = 0
 · rw [if_pos h]
   constructor
   · intro e
     exact ⟨h, e⟩
   · intro e
     exact e.2
 · rw [if_neg h]
   constructor
   · intro e
     cases e
   · intro e
     exact absurd e.1 h
theorem runA_append : ∀ {A : List R} {t : PT}, runA t (A ++ B) = some u ↔ ∃ v, runA t A = some v ∧ runA v B = some u
 | [], t => ⟨fun h => ⟨t, rfl, h⟩, fun ⟨v, h1, h2⟩ => by cases h1; exact h2⟩
 | a :: A, t => by
  rw [List.cons_append, runA_cons, runA_append]
  constructor
  · rintro ⟨h, v, h1, h2⟩
    exact ⟨v, runA_cons.2 ⟨h, h1⟩, h2⟩
  · rintro ⟨v, h1, h2⟩
    obtain ⟨h, h3⟩ := runA_cons.1 h1
    exact ⟨h, v, h3, h2⟩
theorem runA_one : runA t [r] = some u ↔ (playA t r).1 = 0 ∧ (playA t r).2 = u := by
 rw [runA_cons]
 exact ⟨fun ⟨a, b⟩ => ⟨a, by cases b; rfl⟩, fun ⟨a, b⟩ => ⟨a, by rw [b]; rfl⟩⟩
theorem runA_held : ∀ {l : List R} {t : PT} {K : Int}, HeldK K t → 0 ≤ K → runA t l = some u → HeldK (K + l.length) u
 | [], t, K, h, _, e => by cases e; simpa using h
 | r :: l, t, K, h, h0, e => by
  obtain ⟨_, e2⟩ := runA_cons.1 e
  have := runA_held (K := K + 1) (h.playA_ h0 r) (by omega) e2
  rw [List.length_cons]
  exact this.mono (by omega)
theorem runA_check : ∀ {l : List R} {t : PT}, runA t l = some u → ∀ r ∈ l, checkB r = true
 | [], t, _, r, hr => by simp at hr
 | a :: l, t, e, r, hr => by
  obtain ⟨e1, e2⟩ := runA_cons.1 e
  rcases List.mem_cons.1 hr with rfl | h
  · cases hc : checkB r
    · unfold playA at e1
      simp [hc] at e1
    · rfl
  · exact runA_check e2 r h
end
section
variable {t u : PT} {l : List R} {inos : List Int}
theorem rAt_memJ {k : Nat} (h : k < l.length) : rAt l k ∈ l := by
 unfold rAt
 rw [List.getD_eq_getElem?_getD, List.getElem?_eq_getElem h]
 exact List.getElem_mem h
end
end Go.Proofs.YtogljgiefmfafaaGreat
