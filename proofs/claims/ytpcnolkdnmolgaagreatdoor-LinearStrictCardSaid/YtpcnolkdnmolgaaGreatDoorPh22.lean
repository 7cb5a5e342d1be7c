/- linear: events in memory; their calls, numbered. -/
import Derived.Test.YtpcnolkdnmolgaaGreatDoorPh13
import Derived.Test.YtpcnolkdnmolgaaGreatDoorPh14
import Derived.Test.YtpcnolkdnmolgaaGreatDoorPh21
import Derived.Maps.AppendAt
namespace Go.Proofs.YtpcnolkdnmolgaaGreatDoor
section
open Go.RowKit Go.Maps
structure Ev where
 core : Int
 kind : Int
 x : Cx
 err : Int
 fd : Int
 ino : Int
 s0 : Int
 s1 : Int
 s2 : Int
 s3 : Int
 la : Option Addr
 ln : Nat
 lc : Nat
 dt : ByteArray
 lst : List (ByteArray × Int)
def Ev.cells (e : Ev) : List Value := [.int .i64 e.core, .int .u8 e.kind, .int .u8 e.x.act, .string e.x.path, .string e.x.path2, .int .i64 e.x.fd, .int .i64 e.x.page, .int .u32 e.x.size, .string e.x.data, .int .i64 e.err, .int .i64 e.fd, .int .u32 e.ino, .int .u32 e.s0, .int .u8 e.s1, .int .i64 e.s2, .int .u32 e.s3, .slice e.la e.ln e.lc, .string e.dt]
def I64 (c : Int) : Prop := -9223372036854775808 ≤ c ∧ c ≤ 9223372036854775807
structure Ev.Fits (e : Ev) : Prop where
 core : I64 e.core
 kind : ∃ k : Nat, e.kind = k ∧ k ≤ 255
 act : ∃ a : Nat, e.x.act = a ∧ a ≤ 255
 path : e.x.path.size ≤ maxLen
 path2 : e.x.path2.size ≤ maxLen
 data : e.x.data.size ≤ maxLen
 size : 0 ≤ e.x.size
 ln : e.ln ≤ maxLen
 dt : e.dt.size ≤ maxLen
def zEv : Ev := ⟨0, 0, ⟨0, ⟨#[]⟩, ⟨#[]⟩, 0, 0, 0, ⟨#[]⟩⟩, 0, 0, 0, 0, 0, 0, 0, none, 0, 0, ⟨#[]⟩, []⟩
def Ev.ck (e : Ev) : Int × Int := (e.core, e.kind)
def ckL (l : List Ev) : List (Int × Int) := l.map Ev.ck
def EvsAt (w : World) (A : Option Addr) (l : List Ev) : Prop := l ≠ [] → ∃ b o, A = some ⟨b, o, none⟩ ∧ b < w.heap.size ∧ ∀ (k : Nat) (e : Ev), l[k]? = some e → w.rangeAt b (o + k * 18) e.cells
theorem EvsAt.below {w w' : World} {A : Option Addr} {l : List Ev} (h : EvsAt w A l) (hb : Below w.heap.size w w') : EvsAt w' A l := fun hn => by
 obtain ⟨b, o, h1, h2, h3⟩ := h hn
 have hc : ∀ q, w'.cell? ⟨b, q, none⟩ = w.cell? ⟨b, q, none⟩ := fun q => World.cell?_of_block (a := ⟨b, q, none⟩) (hb.block b h2)
 exact ⟨b, o, h1, Nat.lt_of_lt_of_le h2 hb.size, fun k s hk j v hv => (hc _).trans (h3 k s hk j v hv)⟩
theorem EvsAt.get {w : World} {A : Option Addr} {l : List Ev} (h : EvsAt w A l) {k : Nat} {e : Ev} (hk : l[k]? = some e) : ∃ b o, A = some ⟨b, o, none⟩ ∧ b < w.heap.size ∧ ∀ W, Below w.heap.size w W → W.rangeAt b (o + k * 18) e.cells := by
 obtain ⟨b, o, h1, h2, h3⟩ := h (fun e => by rw [e] at hk; simp at hk)
 refine ⟨b, o, h1, h2, fun W hW j v hv => ?_⟩
 rw [World.cell?_of_block (a := ⟨b, _, none⟩) (hW.block b h2)]
 exact h3 k e hk j v hv
theorem infoEv : (Tryz.prog.info? 120).map (·.size) = some 18 := by kernel_rfl
theorem zeroEv (w : World) : (zeroValue 120).run Tryz.prog w = .ok (.agg zEv.cells.toArray) w := by kernel_rfl
theorem ev_len (e : Ev) : e.cells.length = 18 := rfl
theorem ev_one (e : Ev) : ∀ v ∈ e.cells, v.oneCell' = true := by
 intro v hv
 simp only [Ev.cells, List.mem_cons, List.not_mem_nil, or_false] at hv
 rcases hv with rfl | rfl | rfl | rfl | rfl | rfl | rfl | rfl | rfl | rfl | rfl | rfl | rfl | rfl | rfl | rfl | rfl | rfl <;> rfl
theorem new_store (w : World) (T : TypeId) (z cs : List Value) (hlen : z.length = cs.length) (hi : (Tryz.prog.info? T).map (·.size) = some cs.length) (h1 : ∀ v ∈ cs, v.oneCell' = true) :
  ∃ w', (Instr.storeAt T (.pointer (some ⟨w.heap.size, 0, none⟩)) (.agg cs.toArray)).run Tryz.prog (w.alloc (.cells z.toArray T)) = .ok () w' ∧ w'.heap[w.heap.size]? = some (.cells cs.toArray T (0, 0)) ∧ Below w.heap.size w w' := by
 have hn := heap_alloc_new w (.cells z.toArray T)
 have ht : (w.alloc (.cells z.toArray T)).there w.heap.size 0 cs.length := fun j hj => by
  refine ⟨?_, ?_⟩
  · have : ∃ v, z[j]? = some v := ⟨_, List.getElem?_eq_getElem (by rw [hlen]; exact hj)⟩
    obtain ⟨v, hv⟩ := this
    simp only [World.cell?, hn, Nat.zero_add]
    simp [hv]
  · simp only [World.frozen?, hn]; simp
 have hrun := run_storeAt_mid (P := Tryz.prog) (w.alloc (.cells z.toArray T)) w.heap.size 0 T cs.toArray (by simpa using ht) (by simpa using hi) (all_oneCell_toArray h1)
 have hg : (w.alloc (.cells z.toArray T)).grownBy ((w.alloc (.cells z.toArray T)).setCells w.heap.size 0 cs) (some w.heap.size) := grown_setCells w.heap.size _ 0 _
 refine ⟨_, by simpa using hrun, ?_, ⟨hg.os, hg.tape, hg.output, Nat.le_trans (by simp) hg.size, fun k hk => (hg.block k (by simp; omega) (fun e => by injection e with e; omega)).trans (Below.heap_alloc _ _ _ hk)⟩⟩
 obtain ⟨cs', g1, g2⟩ := setCells_form w.heap.size T (0, 0) cs 0 _ _ hn
 have hr := World.rangeAt_setCells_same (w.alloc (.cells z.toArray T)) w.heap.size 0 cs ht
 have hcs : cs' = cs.toArray := ?_
 · rw [g1, hcs]
 apply Array.ext_getElem?
 intro j
 by_cases hj : j < cs.length
 · have hv : cs[j]? = some (cs[j]'hj) := List.getElem?_eq_getElem _
   have := hr j _ hv
   simp only [World.cell?, g1, Nat.zero_add] at this
   have e2 : cs.toArray[j]? = some (cs[j]'hj) := by simp [hv]
   rw [e2]
   simpa using this
 · rw [Array.getElem?_eq_none (by rw [g2]; simp; omega), Array.getElem?_eq_none (by simp; omega)]
set_option maxRecDepth 100000 in
theorem ev_store (w : World) (e : Ev) :
  ∃ w', (Instr.storeAt 120 (.pointer (some ⟨w.heap.size, 0, none⟩)) (.agg e.cells.toArray)).run Tryz.prog (w.alloc (.cells zEv.cells.toArray 120)) = .ok () w' ∧ w'.heap[w.heap.size]? = some (.cells e.cells.toArray 120 (0, 0)) ∧ Below w.heap.size w w' := by
 have h1 : zEv.cells.length = e.cells.length := (ev_len zEv).trans (ev_len e).symm
 have h2 : (Tryz.prog.info? 120).map (·.size) = some e.cells.length := by rw [ev_len]; exact infoEv
 have h3 := new_store w 120 zEv.cells e.cells h1 h2 (ev_one e)
 exact h3
abbrev intV (x : Int) : Value := .int .i64 x
abbrev intsO (l : List Int) : Obj := .cells (l.map intV).toArray 3
def IntsB (w : World) (B : Nat) (l : List Int) : Prop := w.heap[B]? = some (.cells (l.map intV).toArray 3 (0, 0))
section
variable {w w' : World} {B : Nat} {l : List Int}
theorem IntsB.cell (h : IntsB w B l) {k : Nat} {x : Int} (hk : l[k]? = some x) : w.cell? ⟨B, k, none⟩ = some (.int .i64 x) := by
 unfold IntsB at h
 simp only [World.cell?, h]
 simp [hk]
theorem IntsB.froz (h : IntsB w B l) (k : Nat) : w.frozen? ⟨B, k, none⟩ = false := by
 unfold IntsB at h
 simp [World.frozen?, h]
theorem IntsB.set (h : IntsB w B l) (k : Nat) (c : Int) : IntsB (w.setCell ⟨B, k, none⟩ (.int .i64 c)) B (l.set k c) := by
 unfold IntsB at *
 rw [pheap_set w B k (.int .i64 c) _ _ h]
 congr 2
 simp [List.map_set]
theorem IntsB.lt (h : IntsB w B l) : B < w.heap.size := (Array.getElem?_eq_some_iff.1 h).1
theorem IntsB.below (h : IntsB w B l) (hb : Below w.heap.size w w') : IntsB w' B l := (hb.block B h.lt).trans h
end
set_option maxRecDepth 100000 in
theorem ints_make (n : Nat) (hn : n ≤ 65536) (w : World) : (Instr.makeSlice 60 (.int .i64 (n : Int)) (.int .i64 (n : Int))).run Tryz.prog w = .ok (.slice (some ⟨w.heap.size, 0, none⟩) n n) (w.alloc (intsO (List.replicate n 0))) := by
 obtain ⟨i, hi, hz, hs, hb⟩ : ∃ i, Tryz.prog.info? 3 = some i ∧ i.zero = some (.int .i64 0) ∧ i.size = 1 ∧ i.bytes = 8 := by
  have : (Tryz.prog.info? 3).map (fun i => (i.zero, i.size, i.bytes)) = some (some (.int .i64 0), 1, 8) := by kernel_rfl
  obtain ⟨i, hi, he⟩ := Option.map_eq_some_iff.1 this
  simp only [Prod.mk.injEq] at he
  exact ⟨i, hi, he.1, he.2.1, he.2.2⟩
 have hr := run_make (P := Tryz.prog) w 60 3 i _ Tryz.underlying60 hi hz .i64 .i64 (n : Int) (n : Int) (by omega) (by omega) (by rw [hb]; omega) (by omega)
 rw [hr, hs]
 have hl : madeCells (Value.int IntKind.i64 0).cells ((n : Int).toNat * 1) = ((List.replicate n (0 : Int)).map intV).toArray := by
  rw [← Array.toArray_toList (xs := madeCells _ _)]
  congr 1
  rw [List.map_replicate, Nat.mul_one]
  exact toList_madeCells_one (.int .i64 0) n
 rw [hl]
 rfl
def nowM (f : Int → Option Nat) : Lit → Option Value
 | .int .i64 c => (f c).map fun k => .int .i64 (k : Int)
 | _ => none
structure OfM (w W : World) (B Mb N : Nat) (f : Int → Option Nat) (r : List Int) : Prop where
 map : MapAt W Tryz.prog 3 Mb N (nowM f)
 row : IntsB W B r
 below : Below w.heap.size w W
 ltB : w.heap.size ≤ B
 ltM : w.heap.size ≤ Mb
 ne : B ≠ Mb
section
variable {w W W' : World} {B Mb N : Nat} {f : Int → Option Nat} {r : List Int}
theorem OfM.later (h : OfM w W B Mb N f r) (hb : Below W.heap.size W W') : OfM w W' B Mb N f r := ⟨h.map.below hb, h.row.below hb, ptrans h.below hb, h.ltB, h.ltM, h.ne⟩
theorem OfM.set (h : OfM w W B Mb N f r) (k : Nat) (c : Int) : OfM w (W.setCell ⟨B, k, none⟩ (.int .i64 c)) B Mb N f (r.set k c) :=
 ⟨h.map.same (Below.heap_setCell _ _ _ _ (fun e => h.ne e.symm)), h.row.set k c, h.below.setCell (p := ⟨B, k, none⟩) h.ltB _, h.ltB, h.ltM, h.ne⟩
theorem OfM.turned (h : OfM w W B Mb N f r) {N' : Nat} {f' : Int → Option Nat} (hM : MapAt W' Tryz.prog 3 Mb N' (nowM f')) (ht : W.mapTurned W' Mb) : OfM w W' B Mb N' f' r := by
 have hg := ht.grown
 refine ⟨hM, (hg.block B h.row.lt (fun e => h.ne (by injection e))).trans h.row, ⟨hg.os.trans h.below.os, hg.tape.trans h.below.tape, hg.output.trans h.below.output, Nat.le_trans h.below.size hg.size, fun c hc2 => ?_⟩, h.ltB, h.ltM, h.ne⟩
 refine (hg.block c (Nat.lt_of_lt_of_le hc2 h.below.size) fun e => ?_).trans (h.below.block c hc2)
 have := h.ltM
 injection e with e
 omega
theorem zeroInt (w : World) : (zeroValue 3).run Tryz.prog w = .ok (.int .i64 0) w := by kernel_rfl
theorem OfM.look (h : OfM w W B Mb N f r) (c : Int) (hc : I64 c) : (Instr.lookup 175 (.map (some Mb)) (.int .i64 c) true).run Tryz.prog W = .ok (.tuple #[.int .i64 (((f c).getD 0 : Nat) : Int), .bool (f c).isSome]) W := by
 have h1 := h.map.look_ok law64 Tryz.underlying175 (zeroInt W) (pkey64 hc)
 rw [h1]
 show Result.ok (Value.tuple #[((f c).map fun k => Value.int .i64 (k : Int)).getD (.int .i64 0), .bool ((f c).map fun k => Value.int .i64 (k : Int)).isSome]) W = _
 cases f c <;> rfl
theorem OfM.put (h : OfM w W B Mb N f r) (c : Int) (hc : I64 c) (k : Nat) (hN : N < 1000000) : ∃ W', (Instr.mapUpdate 175 (.map (some Mb)) (.int .i64 c) (.int .i64 (k : Int))).run Tryz.prog W = .ok () W' ∧ OfM w W' B Mb (N + 1) (fun x => if x = c then some k else f x) r := by
 obtain ⟨W', h1, h2, h3⟩ := h.map.update law64 Tryz.underlying175 (by unfold maxLen; omega) (val := .int .i64 (k : Int)) (pkey64 hc)
 refine ⟨W', h1, h.turned (h2.congr fun kl _ => ?_) h3⟩
 unfold updM
 cases kl with
 | int q a =>
  cases q <;> try (simp [nowM, Lit.sameKey]; done)
  by_cases e : a = c
  · subst e; simp [Lit.sameKey, nowM]
  · simp [Lit.sameKey, e, nowM]
 | _ => simp [nowM, Lit.sameKey]
theorem OfM.del (h : OfM w W B Mb N f r) (c : Int) (hc : I64 c) (ty : TypeId) : ∃ W', (Builtin.delete_ #[175, 3] ty #[.map (some Mb), .int .i64 c]).run Tryz.prog W = .ok (.tuple #[]) W' ∧ OfM w W' B Mb N (fun x => if x = c then none else f x) r := by
 obtain ⟨W', h1, h2, h3⟩ := h.map.drop law64 Tryz.underlying175 (pkey64 hc) ty
 refine ⟨W', h1, h.turned (h2.congr fun kl _ => ?_) h3⟩
 unfold delM
 cases kl with
 | int q a =>
  cases q <;> try (simp [nowM, Lit.sameKey]; done)
  by_cases e : a = c
  · subst e; simp [Lit.sameKey, nowM]
  · simp [Lit.sameKey, e, nowM]
 | _ => simp [nowM, Lit.sameKey]
end
theorem row_set {r : List Int} {i n : Nat} (h : r.length = i) (hi : i < n) (v : Int) : (r ++ List.replicate (n - i) 0).set i v = (r ++ [v]) ++ List.replicate (n - (i + 1)) 0 := by
 rw [show n - i = (n - (i + 1)) + 1 by omega, List.replicate_succ, ← h, List.set_append_right _ _ (Nat.le_refl _)]
 simp
theorem OfM.mono {w W : World} {B Mb N N' : Nat} {f : Int → Option Nat} {r : List Int} (h : OfM w W B Mb N f r) (hN : N ≤ N') : OfM w W B Mb N' f r := ⟨h.map.mono hN, h.row, h.below, h.ltB, h.ltM, h.ne⟩
def OfSt (w : World) (B Mb n : Nat) (s : NS) (i : Nat) (W : World) : Prop := OfM w W B Mb i s.now (s.out ++ List.replicate (n - i) 0) ∧ s.out.length = i ∧ s.n ≤ i
theorem OfSt.fin {w W : World} {B Mb n N i k : Nat} {f : Int → Option Nat} {r : List Int} {s s' : NS} {v : Int} {ck : Int × Int} (h : OfM w W B Mb N f r) (hr : r = (s.out ++ [v]) ++ List.replicate (n - (i + 1)) 0) (hN : N ≤ i + 1) (hl : s.out.length = i) (hk : k ≤ i + 1) (hs : stepN s ck = ⟨k, f, s.out ++ [v]⟩) (hnx : s' = stepN s ck) : OfSt w B Mb n s' (i + 1) W := by
 rw [hnx, hs]
 subst hr
 exact ⟨h.mono hN, by simp [hl], hk⟩
theorem step1 (s : NS) (c : Int) : stepN s (c, 1) = ⟨s.n + 1, fun x => if x = c then some s.n else s.now x, s.out ++ [(s.n : Int)]⟩ := rfl
theorem step3 (s : NS) (c : Int) : stepN s (c, 3) = ⟨s.n, fun x => if x = c then none else s.now x, s.out ++ [optI (s.now c)]⟩ := rfl
theorem stepO {s : NS} {c k : Int} (h1 : k ≠ 1) (h3 : k ≠ 3) : stepN s (c, k) = ⟨s.n, s.now, s.out ++ [optI (s.now c)]⟩ := by
 unfold stepN
 rw [if_neg h1, if_neg h3]
def OfJ (w : World) (B Mb i X : Nat) (core : Int) (s : NS) (r : List Int) (j : Nat) (W : World) : Prop := W.cell? ⟨X, 0, none⟩ = some (.int .i64 core) ∧ X < W.heap.size ∧ X ≠ B ∧ X ≠ Mb ∧ (if j = 0 then OfM w W B Mb i s.now r else if j = 1 then OfM w W B Mb i s.now (r.set i (s.n : Int)) else OfM w W B Mb (i + 1) (fun x => if x = core then some s.n else s.now x) (r.set i (s.n : Int)))
theorem OfJ.below {w W W' : World} {B Mb i X j : Nat} {core : Int} {s : NS} {r : List Int} (h : OfJ w B Mb i X core s r j W) (hb : Below W.heap.size W W') : OfJ w B Mb i X core s r j W' := by
 obtain ⟨h1, h2, h3, h4, h5⟩ := h
 refine ⟨(hb.cell (p := ⟨X, 0, none⟩) h2).trans h1, Nat.lt_of_lt_of_le h2 hb.size, h3, h4, ?_⟩
 by_cases c0 : j = 0
 · rw [if_pos c0] at h5 ⊢
   exact h5.later hb
 · rw [if_neg c0] at h5 ⊢
   by_cases c1 : j = 1
   · rw [if_pos c1] at h5 ⊢
     exact h5.later hb
   · rw [if_neg c1] at h5 ⊢
     exact h5.later hb
theorem OfJ.load {w W : World} {B Mb i X j : Nat} {core : Int} {s : NS} {r : List Int} (h : OfJ w B Mb i X core s r j W) : W.cell? ⟨X, 0, none⟩ = some (.int .i64 core) := h.1
theorem OfJ.cell {w W : World} {B Mb i X : Nat} {core : Int} {s : NS} {r : List Int} (h : OfJ w B Mb i X core s r 0 W) (hi : i < r.length) : (∃ z, W.cell? ⟨B, i, none⟩ = some z) ∧ W.frozen? ⟨B, i, none⟩ = false := by
 have hm : OfM w W B Mb i s.now r := h.2.2.2.2
 exact ⟨⟨_, hm.row.cell (List.getElem?_eq_getElem hi)⟩, hm.row.froz i⟩
theorem OfJ.store {w W : World} {B Mb i X : Nat} {core : Int} {s : NS} {r : List Int} (h : OfJ w B Mb i X core s r 0 W) : OfJ w B Mb i X core s r 1 (W.setCell ⟨B, i, none⟩ (.int .i64 (s.n : Int))) := by
 obtain ⟨h1, h2, h3, h4, h5⟩ := h
 have hm : OfM w W B Mb i s.now r := h5
 refine ⟨(World.cell?_of_block (a := ⟨X, 0, none⟩) (Below.heap_setCell _ _ _ _ h3)).trans h1, by simpa [World.setCell] using h2, h3, h4, ?_⟩
 show OfM _ _ _ _ _ _ _
 exact hm.set i _
theorem OfJ.put {w W : World} {B Mb i X : Nat} {core : Int} {s : NS} {r : List Int} (h : OfJ w B Mb i X core s r 1 W) (hc : I64 core) (hi : i < 1000000) : ∃ W', (Instr.mapUpdate 175 (.map (some Mb)) (.int .i64 core) (.int .i64 (s.n : Int))).run Tryz.prog W = .ok () W' ∧ OfJ w B Mb i X core s r 2 W' := by
 obtain ⟨h1, h2, h3, h4, h5⟩ := h
 have hm : OfM w W B Mb i s.now (r.set i (s.n : Int)) := h5
 obtain ⟨W', g1, g2, g3⟩ := hm.map.update law64 Tryz.underlying175 (by unfold maxLen; omega) (val := .int .i64 (s.n : Int)) (pkey64 hc)
 obtain ⟨W2, k1, k2⟩ := hm.put core hc s.n hi
 obtain rfl : W' = W2 := by rw [g1] at k1; injection k1
 have hg := g3.grown
 refine ⟨W', g1, (World.cell?_of_block (a := ⟨X, 0, none⟩) (hg.block X h2 (fun e => h4 (by injection e)))).trans h1, Nat.lt_of_lt_of_le h2 hg.size, h3, h4, ?_⟩
 show OfM _ _ _ _ _ _ _
 exact k2
set_option maxRecDepth 100000 in
set_option maxHeartbeats 4000000 in
theorem t_of31 (A : Option Addr) (n c : Nat) (l : List Ev) (w : World) (hl : EvsAt w A l) (hn : l.length = n) (hn2 : n ≤ 1000) (hf : ∀ e ∈ l, Ev.Fits e) :
  Calls Tryz.prog 56 #[.slice A n c] w fun e w' => ∃ B, e = .returned (.slice (some ⟨B, 0, none⟩) n n) ∧ IntsB w' B (numL (ckL l)) ∧ w.heap.size ≤ B ∧ Below w.heap.size w w' := by
 have HL := zz hl
 have HN := zz hn
 have hmk := ints_make n (by omega)
 have hmm := @run_makeMap Tryz.prog
 have HN2 := zz hn2
 have HF := zz hf
 clear hl hn hf
 go_enter Tryz.func56, Tryz.ntmps56
 go_wp2
 have HS0 : Hid (OfSt w w.heap.size (w.heap.size + 1) n (numS (ckL (l.take 0))) 0 ((w.alloc (intsO (List.replicate n 0))).alloc (.map #[] 0))) := by
  have hb : Below w.heap.size w (w.alloc (intsO (List.replicate n 0))) := (Below.refl _ _).alloc (Nat.le_refl _) _
  refine ⟨⟨?_, ?_, hb.alloc (by simp) _, Nat.le_refl _, Nat.le_succ _, by omega⟩, rfl, Nat.le_refl _⟩
  · have h := MapAt.made (w.alloc (intsO (List.replicate n 0))) Tryz.prog 3
    rw [show (w.alloc (intsO (List.replicate n 0))).heap.size = w.heap.size + 1 by simp] at h
    exact h.congr fun kl _ => by cases kl with | int q a => cases q <;> rfl | _ => rfl
  · exact (Below.heap_alloc _ _ _ (by simp)).trans (heap_alloc_new w (intsO (List.replicate n 0)))
 obtain ⟨B, hBe⟩ : ∃ B, w.heap.size = B := ⟨_, rfl⟩
 obtain ⟨Mb, hMe⟩ : ∃ Mb, w.heap.size + 1 = Mb := ⟨_, rfl⟩
 rw [hMe, hBe] at HS0 ⊢
 generalize (w.alloc (intsO (List.replicate n 0))).alloc (Obj.map #[] 0) = W0 at HS0 ⊢
 have HBB : Hid (w.heap.size ≤ B) := Nat.le_of_eq hBe
 clear hBe hMe hmk hmm
 go_loopw [4, 16] (fun v4 v16 wr => ∃ i : Nat, v16 = .int .i64 (i : Int) ∧ i ≤ n ∧ v4 = .int .i64 ((numS (ckL (l.take i))).n : Int) ∧ Hid (OfSt w B Mb n (numS (ckL (l.take i))) i wr)) (fun _ v _ => n - (intOf v).toNat)
 case atStart => exact ⟨0, rfl, Nat.zero_le _, rfl, HS0.out⟩
 case round =>
  clear HS0
  obtain ⟨i, rfl, hi, rfl, HS⟩ := hrel
  by_cases he : i = n
  · subst he
    have HR : Hid (IntsB wr B (numL (ckL l))) := by
     have h := HS.out.1.row
     rw [← HN.out, List.take_length, Nat.sub_self] at h
     have h2 : IntsB wr B (numS (ckL l)).out := by simpa using h
     exact h2
    have HB := zz HS.out.1.below
    clear HS
    go_wp2
    go_ret
    exact ⟨B, rfl, HR.out, HBB.out, HB.out⟩
  · have hin : i < n := by omega
    obtain ⟨e, hx⟩ : ∃ e, l[i]? = some e := ⟨l[i]'(by rw [HN.out]; exact hin), List.getElem?_eq_getElem _⟩
    have HE := zz (HF.out e (List.mem_of_getElem? hx))
    obtain ⟨b, o, rfl, hb, hc⟩ := (HL.out.below HS.out.1.below).get hx
    have HRA := zz (hc wr (Below.refl _ _))
    obtain ⟨w3, hst, hw3, hb3⟩ := ev_store wr e
    have HST := zz hst
    have hM := HS.out.1.later hb3
    have hlen := HS.out.2.1
    have hcnt := HS.out.2.2
    have hnx : numS (ckL (l.take (i + 1))) = stepN (numS (ckL (l.take i))) e.ck := by
     rw [List.take_add_one, hx]
     unfold ckL
     rw [List.map_append, ← numS_snoc]
     rfl
    obtain ⟨s, hs⟩ : ∃ s, numS (ckL (l.take i)) = s := ⟨_, rfl⟩
    rw [hs] at hM hlen hcnt hnx ⊢
    have q0 : w3.cell? ⟨wr.heap.size, 0, none⟩ = some (.int .i64 e.core) := by simp [World.cell?, hw3, Ev.cells]
    have q1 : w3.cell? ⟨wr.heap.size, 1, none⟩ = some (.int .u8 e.kind) := by simp [World.cell?, hw3, Ev.cells]
    have hlk := hM.look e.core HE.out.core
    have hB0 : B < wr.heap.size := HS.out.1.row.lt
    have hne : ¬ wr.heap.size = B := by omega
    have hne2 : ¬ B = wr.heap.size := by omega
    have HXL := zz (Array.getElem?_eq_some_iff.1 hw3).1
    have HNM : Hid (wr.heap.size ≠ Mb) := by have := HS.out.1.map.lt; exact fun e => by omega
    have cB : w3.cell? ⟨B, i, none⟩ = some (.int .i64 0) := hM.row.cell (by
     rw [List.getElem?_append_right (by omega), hlen, Nat.sub_self, List.getElem?_replicate, if_pos (by omega)])
    have fB := hM.row.froz i
    have HM := zz hM
    have HLE := zz hlen
    have HNX := zz hnx
    have HC := zz hcnt
    obtain ⟨core, kind, x, r0, r1, r2, r3, r4, r5, r6, r7, r8, r9, r10, r11⟩ := e
    have HCO : Hid (I64 core) := HE.out.core
    have HNX' : Hid (numS (ckL (l.take (i + 1))) = stepN s (core, kind)) := HNX
    clear hx hb hc hst hw3 hb3 he hM hlen hcnt hnx hs HS HE HNX hB0
    obtain ⟨ev, hev⟩ : ∃ ev, Ev.cells ⟨core, kind, x, r0, r1, r2, r3, r4, r5, r6, r7, r8, r9, r10, r11⟩ = ev := ⟨_, rfl⟩
    rw [hev] at HRA HST
    have hinf : (Tryz.prog.info? 120).map (·.size) = some ev.length := by rw [← hev, ev_len]; exact infoEv
    have HINF := zz hinf
    dsimp only at q0 q1 hlk
    clear hev hinf
    by_cases k1 : kind = 1
    · subst k1
      cases hnow : s.now core with
      | none =>
       rw [hnow] at hlk
       have HNW := zz hnow
       dsimp only [Option.getD, Option.isSome] at hlk
       clear hnow
       have hW1 := ((HM.out.set i 0).set i (-1))
       go_wp2_with (first
        | (refine wpList_load_mid rfl 120 _ rfl b _ rfl ev _ HRA.out Tryz.underlying120 rfl HINF.out ?_)
        | ((with_reducible refine wpList_alloc_z 120 zEv.cells.toArray zeroEv ?_); intro w5 hw5; rw [hw5])
        | (refine wpList_store_run 120 7 20 w3 _ _ rfl rfl HST.out ?_))
       obtain ⟨rr, hrr⟩ : ∃ rr, ((s.out ++ List.replicate (n - i) 0).set i 0).set i (-1) = rr := ⟨_, rfl⟩
       have hrl : i < rr.length := by
        rw [← hrr]
        have := HLE.out
        simp only [List.length_set, List.length_append, List.length_replicate]
        omega
       have HRL := zz hrl
       rw [hrr] at hW1
       have hsz := hW1.map.lt
       have HJ0 : Hid (OfJ w B Mb i wr.heap.size core s rr 0 ((w3.setCell ⟨B, i, none⟩ (.int .i64 0)).setCell ⟨B, i, none⟩ (.int .i64 (-1)))) := ⟨(World.cell?_of_block (a := ⟨wr.heap.size, 0, none⟩) ((Below.heap_setCell _ _ _ _ hne).trans (Below.heap_setCell _ _ _ _ hne))).trans q0, (by simpa [World.setCell] using HXL.out), hne, HNM.out, hW1⟩
       refine wp_region_st (fun j W => OfJ w B Mb i wr.heap.size core s rr j W) RelB (fun _ _ => True) [8, 9] (phi [isV (.slice (some ⟨B, 0, none⟩) n n), isV (.int .i64 (i : Int)), isV (.map (some Mb)), isV (.pointer (some ⟨wr.heap.size, 0, none⟩)), isV (.int .i64 core), isV (.int .i64 (s.n : Int)), isV (.int .i64 (s.n : Int)), isV (.pointer (some ⟨B, i, none⟩)), (fun _ _ => True), (fun _ _ => True)]) (by kernel_rfl) (by kernel_rfl) (by kernel_rfl) (by kernel_rfl) (by kernel_rfl) (OfJ.below HJ0.out (below_drew _)) (fun _ _ _ h hb => OfJ.below h hb) (fun _ _ _ => trivial) ?_ ?_ ?_
       · refine stays_phiR ?_
         simp only [List.forall_mem_cons]
         exact ⟨kv, kv, kv, kv, kv, kv, kv, kv, fun _ _ _ _ _ => trivial, fun _ _ _ _ _ => trivial, fun _ h => absurd h (by simp)⟩
       · refine ⟨?_, ?_, ?_, ?_, ?_, ?_, ?_, ?_, ?_, ?_, trivial⟩
         · refine opS_mk rfl rfl fun aa W2 nJ hJ hp hq K hK => ?_
           have e3 : aa.tmps[3]?.getD undef = .slice (some ⟨B, 0, none⟩) n n := hp 3 (by kernel_rfl)
           clear hp hq
           go_simp
           exact hK _ _ (RelB.refl _) rfl
         · refine opS_mk rfl rfl fun aa W2 nJ hJ hp hq K hK => ?_
           have e6 : aa.tmps[6]?.getD undef = .int .i64 (i : Int) := hp 6 (by kernel_rfl)
           clear hp hq
           go_simp
           exact hK _ _ (RelB.refl _) rfl
         · refine opS_mk rfl rfl fun aa W2 nJ hJ hp hq K hK => ?_
           have e5 : aa.tmps[5]?.getD undef = .map (some Mb) := hp 5 (by kernel_rfl)
           clear hp hq
           go_simp
           exact hK _ _ (RelB.refl _) rfl
         · refine opS_mk rfl rfl fun aa W2 nJ hJ hp hq K hK => ?_
           have e7 : aa.tmps[7]?.getD undef = .pointer (some ⟨wr.heap.size, 0, none⟩) := hp 7 (by kernel_rfl)
           clear hp hq
           go_simp
           exact hK _ _ (RelB.refl _) rfl
         · refine opS_mk rfl rfl fun aa W2 nJ hJ hp hq K hK => ?_
           have e44 : aa.tmps[44]?.getD undef = .pointer (some ⟨wr.heap.size, 0, none⟩) := hq 3 _ (by kernel_rfl) rfl
           have c0 := hJ.load
           clear hp hq
           go_simp
           exact hK _ _ (RelB.refl _) rfl
         · refine opS_mk rfl rfl fun aa W2 nJ hJ hp hq K hK => ?_
           have e4 : aa.tmps[4]?.getD undef = .int .i64 (s.n : Int) := hp 4 (by kernel_rfl)
           clear hp hq
           go_simp
           exact hK _ _ (RelB.refl _) rfl
         · refine opS_mk rfl rfl fun aa W2 nJ hJ hp hq K hK => ?_
           have e4 : aa.tmps[4]?.getD undef = .int .i64 (s.n : Int) := hp 4 (by kernel_rfl)
           clear hp hq
           go_simp
           exact hK _ _ (RelB.refl _) rfl
         · refine opS_mk rfl rfl fun aa W2 nJ hJ hp hq K hK => ?_
           have e41 : aa.tmps[41]?.getD undef = .slice (some ⟨B, 0, none⟩) n n := hq 0 _ (by kernel_rfl) rfl
           have e42 : aa.tmps[42]?.getD undef = .int .i64 (i : Int) := hq 1 _ (by kernel_rfl) rfl
           clear hp hq
           go_simp
           exact hK _ _ (RelB.refl _) rfl
         · refine opS_at (m := 0) rfl rfl fun aa W2 hJ hp hq K hK => ?_
           have e48 : aa.tmps[48]?.getD undef = .pointer (some ⟨B, i, none⟩) := hq 7 _ (by kernel_rfl) rfl
           have e46 : aa.tmps[46]?.getD undef = .int .i64 (s.n : Int) := hq 5 _ (by kernel_rfl) rfl
           have HJ := zz hJ
           obtain ⟨⟨z0, cz⟩, fz⟩ := OfJ.cell hJ HRL.out
           clear hJ
           clear hp hq
           go_simp
           exact hK undef _ trivial HJ.out.store trivial
         · refine opS_at (m := 1) rfl rfl fun aa W2 hJ hp hq K hK => ?_
           have e43 : aa.tmps[43]?.getD undef = .map (some Mb) := hq 2 _ (by kernel_rfl) rfl
           have e45 : aa.tmps[45]?.getD undef = .int .i64 core := hq 4 _ (by kernel_rfl) rfl
           have e47 : aa.tmps[47]?.getD undef = .int .i64 (s.n : Int) := hq 6 _ (by kernel_rfl) rfl
           obtain ⟨W7, hup, hj7⟩ := OfJ.put hJ HCO.out (by omega)
           have HJ := zz hj7
           clear hj7 hJ
           clear hp hq
           go_simp
           exact hK undef _ trivial HJ.out trivial
       · intro vs W9 hJ9 hv9 _
         have HM9 : Hid (OfM w W9 B Mb (i + 1) (fun x => if x = core then some s.n else s.now x) (rr.set i (s.n : Int))) := hJ9.2.2.2.2
         simp only [putAll, Act.put, List.setIfInBounds_toArray, List.set_cons_succ, List.set_cons_zero, Nat.zero_add, Nat.reduceAdd]
         clear hJ9 hv9
         have hsn : s.n ≤ 1000 := by
          have := HC.out
          omega
         go_wp2
         exact ⟨⟨i + 1, by go_num, by omega, by rw [HNX'.out, step1]; simp, OfSt.fin (k := s.n + 1) HM9.out (by rw [← hrr, List.set_set, List.set_set, row_set HLE.out hin]) (Nat.le_refl _) HLE.out (by have := HC.out; omega) (step1 _ _) HNX'.out⟩, by simp [intOf]; omega⟩
      | some m =>
       rw [hnow] at hlk
       have HNW := zz hnow
       dsimp only [Option.getD, Option.isSome] at hlk
       clear hnow
       have hW1 := (HM.out.set i (m : Int))
       go_wp2_with (first
        | (refine wpList_load_mid rfl 120 _ rfl b _ rfl ev _ HRA.out Tryz.underlying120 rfl HINF.out ?_)
        | ((with_reducible refine wpList_alloc_z 120 zEv.cells.toArray zeroEv ?_); intro w5 hw5; rw [hw5])
        | (refine wpList_store_run 120 7 20 w3 _ _ rfl rfl HST.out ?_))
       obtain ⟨rr, hrr⟩ : ∃ rr, (s.out ++ List.replicate (n - i) 0).set i (m : Int) = rr := ⟨_, rfl⟩
       have hrl : i < rr.length := by
        rw [← hrr]
        have := HLE.out
        simp only [List.length_set, List.length_append, List.length_replicate]
        omega
       have HRL := zz hrl
       rw [hrr] at hW1
       have hsz := hW1.map.lt
       have HJ0 : Hid (OfJ w B Mb i wr.heap.size core s rr 0 (w3.setCell ⟨B, i, none⟩ (.int .i64 (m : Int)))) := ⟨(World.cell?_of_block (a := ⟨wr.heap.size, 0, none⟩) (Below.heap_setCell _ _ _ _ hne)).trans q0, (by simpa [World.setCell] using HXL.out), hne, HNM.out, hW1⟩
       refine wp_region_st (fun j W => OfJ w B Mb i wr.heap.size core s rr j W) RelB (fun _ _ => True) [8, 9] (phi [isV (.slice (some ⟨B, 0, none⟩) n n), isV (.int .i64 (i : Int)), isV (.map (some Mb)), isV (.pointer (some ⟨wr.heap.size, 0, none⟩)), isV (.int .i64 core), isV (.int .i64 (s.n : Int)), isV (.int .i64 (s.n : Int)), isV (.pointer (some ⟨B, i, none⟩)), (fun _ _ => True), (fun _ _ => True)]) (by kernel_rfl) (by kernel_rfl) (by kernel_rfl) (by kernel_rfl) (by kernel_rfl) (OfJ.below HJ0.out (below_drew _)) (fun _ _ _ h hb => OfJ.below h hb) (fun _ _ _ => trivial) ?_ ?_ ?_
       · refine stays_phiR ?_
         simp only [List.forall_mem_cons]
         exact ⟨kv, kv, kv, kv, kv, kv, kv, kv, fun _ _ _ _ _ => trivial, fun _ _ _ _ _ => trivial, fun _ h => absurd h (by simp)⟩
       · refine ⟨?_, ?_, ?_, ?_, ?_, ?_, ?_, ?_, ?_, ?_, trivial⟩
         · refine opS_mk rfl rfl fun aa W2 nJ hJ hp hq K hK => ?_
           have e3 : aa.tmps[3]?.getD undef = .slice (some ⟨B, 0, none⟩) n n := hp 3 (by kernel_rfl)
           clear hp hq
           go_simp
           exact hK _ _ (RelB.refl _) rfl
         · refine opS_mk rfl rfl fun aa W2 nJ hJ hp hq K hK => ?_
           have e6 : aa.tmps[6]?.getD undef = .int .i64 (i : Int) := hp 6 (by kernel_rfl)
           clear hp hq
           go_simp
           exact hK _ _ (RelB.refl _) rfl
         · refine opS_mk rfl rfl fun aa W2 nJ hJ hp hq K hK => ?_
           have e5 : aa.tmps[5]?.getD undef = .map (some Mb) := hp 5 (by kernel_rfl)
           clear hp hq
           go_simp
           exact hK _ _ (RelB.refl _) rfl
         · refine opS_mk rfl rfl fun aa W2 nJ hJ hp hq K hK => ?_
           have e7 : aa.tmps[7]?.getD undef = .pointer (some ⟨wr.heap.size, 0, none⟩) := hp 7 (by kernel_rfl)
           clear hp hq
           go_simp
           exact hK _ _ (RelB.refl _) rfl
         · refine opS_mk rfl rfl fun aa W2 nJ hJ hp hq K hK => ?_
           have e44 : aa.tmps[44]?.getD undef = .pointer (some ⟨wr.heap.size, 0, none⟩) := hq 3 _ (by kernel_rfl) rfl
           have c0 := hJ.load
           clear hp hq
           go_simp
           exact hK _ _ (RelB.refl _) rfl
         · refine opS_mk rfl rfl fun aa W2 nJ hJ hp hq K hK => ?_
           have e4 : aa.tmps[4]?.getD undef = .int .i64 (s.n : Int) := hp 4 (by kernel_rfl)
           clear hp hq
           go_simp
           exact hK _ _ (RelB.refl _) rfl
         · refine opS_mk rfl rfl fun aa W2 nJ hJ hp hq K hK => ?_
           have e4 : aa.tmps[4]?.getD undef = .int .i64 (s.n : Int) := hp 4 (by kernel_rfl)
           clear hp hq
           go_simp
           exact hK _ _ (RelB.refl _) rfl
         · refine opS_mk rfl rfl fun aa W2 nJ hJ hp hq K hK => ?_
           have e41 : aa.tmps[41]?.getD undef = .slice (some ⟨B, 0, none⟩) n n := hq 0 _ (by kernel_rfl) rfl
           have e42 : aa.tmps[42]?.getD undef = .int .i64 (i : Int) := hq 1 _ (by kernel_rfl) rfl
           clear hp hq
           go_simp
           exact hK _ _ (RelB.refl _) rfl
         · refine opS_at (m := 0) rfl rfl fun aa W2 hJ hp hq K hK => ?_
           have e48 : aa.tmps[48]?.getD undef = .pointer (some ⟨B, i, none⟩) := hq 7 _ (by kernel_rfl) rfl
           have e46 : aa.tmps[46]?.getD undef = .int .i64 (s.n : Int) := hq 5 _ (by kernel_rfl) rfl
           have HJ := zz hJ
           obtain ⟨⟨z0, cz⟩, fz⟩ := OfJ.cell hJ HRL.out
           clear hJ
           clear hp hq
           go_simp
           exact hK undef _ trivial HJ.out.store trivial
         · refine opS_at (m := 1) rfl rfl fun aa W2 hJ hp hq K hK => ?_
           have e43 : aa.tmps[43]?.getD undef = .map (some Mb) := hq 2 _ (by kernel_rfl) rfl
           have e45 : aa.tmps[45]?.getD undef = .int .i64 core := hq 4 _ (by kernel_rfl) rfl
           have e47 : aa.tmps[47]?.getD undef = .int .i64 (s.n : Int) := hq 6 _ (by kernel_rfl) rfl
           obtain ⟨W7, hup, hj7⟩ := OfJ.put hJ HCO.out (by omega)
           have HJ := zz hj7
           clear hj7 hJ
           clear hp hq
           go_simp
           exact hK undef _ trivial HJ.out trivial
       · intro vs W9 hJ9 hv9 _
         have HM9 : Hid (OfM w W9 B Mb (i + 1) (fun x => if x = core then some s.n else s.now x) (rr.set i (s.n : Int))) := hJ9.2.2.2.2
         simp only [putAll, Act.put, List.setIfInBounds_toArray, List.set_cons_succ, List.set_cons_zero, Nat.zero_add, Nat.reduceAdd]
         clear hJ9 hv9
         have hsn : s.n ≤ 1000 := by
          have := HC.out
          omega
         go_wp2
         exact ⟨⟨i + 1, by go_num, by omega, by rw [HNX'.out, step1]; simp, OfSt.fin (k := s.n + 1) HM9.out (by rw [← hrr, List.set_set, row_set HLE.out hin]) (Nat.le_refl _) HLE.out (by have := HC.out; omega) (step1 _ _) HNX'.out⟩, by simp [intOf]; omega⟩
    · have j1 : (kind == 1) = false := by simpa using k1
      by_cases k3 : kind = 3
      · subst k3
        cases hnow : s.now core with
        | none =>
         rw [hnow] at hlk
         have HNW := zz hnow
         dsimp only [Option.getD, Option.isSome] at hlk
         clear hnow
         obtain ⟨W7, hdel, hm7⟩ := ((HM.out.set i 0).set i (-1)).del core HCO.out 0
         have HM7 := zz hm7
         clear hm7
         go_wp2_with (first
          | (refine wpList_load_mid rfl 120 _ rfl b _ rfl ev _ HRA.out Tryz.underlying120 rfl HINF.out ?_)
          | ((with_reducible refine wpList_alloc_z 120 zEv.cells.toArray zeroEv ?_); intro w5 hw5; rw [hw5])
          | (refine wpList_store_run 120 7 20 w3 _ _ rfl rfl HST.out ?_))
         exact ⟨⟨i + 1, by go_num, by omega, by rw [HNX'.out]; rfl, OfSt.fin (k := s.n) HM7.out (by rw [List.set_set, row_set HLE.out hin]) (by omega) HLE.out (by have := HC.out; omega) (by rw [step3, show optI (s.now core) = (-1) by rw [HNW.out]; rfl]) HNX'.out⟩, by simp [intOf]; omega⟩
        | some m =>
         rw [hnow] at hlk
         have HNW := zz hnow
         dsimp only [Option.getD, Option.isSome] at hlk
         clear hnow
         obtain ⟨W7, hdel, hm7⟩ := (HM.out.set i (m : Int)).del core HCO.out 0
         have HM7 := zz hm7
         clear hm7
         go_wp2_with (first
          | (refine wpList_load_mid rfl 120 _ rfl b _ rfl ev _ HRA.out Tryz.underlying120 rfl HINF.out ?_)
          | ((with_reducible refine wpList_alloc_z 120 zEv.cells.toArray zeroEv ?_); intro w5 hw5; rw [hw5])
          | (refine wpList_store_run 120 7 20 w3 _ _ rfl rfl HST.out ?_))
         exact ⟨⟨i + 1, by go_num, by omega, by rw [HNX'.out]; rfl, OfSt.fin (k := s.n) HM7.out (row_set HLE.out hin _) (by omega) HLE.out (by have := HC.out; omega) (by rw [step3, show optI (s.now core) = (m : Int) by rw [HNW.out]; rfl]) HNX'.out⟩, by simp [intOf]; omega⟩
      · have j3 : (kind == 3) = false := by simpa using k3
        have HSO : Hid (stepN s (core, kind) = ⟨s.n, s.now, s.out ++ [optI (s.now core)]⟩) := stepO k1 k3
        cases hnow : s.now core with
        | none =>
         rw [hnow] at hlk
         have HNW := zz hnow
         dsimp only [Option.getD, Option.isSome] at hlk
         clear hnow
         go_wp2_with (first
          | (refine wpList_load_mid rfl 120 _ rfl b _ rfl ev _ HRA.out Tryz.underlying120 rfl HINF.out ?_)
          | ((with_reducible refine wpList_alloc_z 120 zEv.cells.toArray zeroEv ?_); intro w5 hw5; rw [hw5])
          | (refine wpList_store_run 120 7 20 w3 _ _ rfl rfl HST.out ?_))
         exact ⟨⟨i + 1, by go_num, by omega, by rw [HNX'.out, HSO.out], OfSt.fin (k := s.n) ((HM.out.set i 0).set i (-1)) (by rw [List.set_set, row_set HLE.out hin]) (by omega) HLE.out (by have := HC.out; omega) (by rw [HSO.out, show optI (s.now core) = (-1) by rw [HNW.out]; rfl]) HNX'.out⟩, by simp [intOf]; omega⟩
        | some m =>
         rw [hnow] at hlk
         have HNW := zz hnow
         dsimp only [Option.getD, Option.isSome] at hlk
         clear hnow
         go_wp2_with (first
          | (refine wpList_load_mid rfl 120 _ rfl b _ rfl ev _ HRA.out Tryz.underlying120 rfl HINF.out ?_)
          | ((with_reducible refine wpList_alloc_z 120 zEv.cells.toArray zeroEv ?_); intro w5 hw5; rw [hw5])
          | (refine wpList_store_run 120 7 20 w3 _ _ rfl rfl HST.out ?_))
         exact ⟨⟨i + 1, by go_num, by omega, by rw [HNX'.out, HSO.out], OfSt.fin (k := s.n) (HM.out.set i (m : Int)) (row_set HLE.out hin _) (by omega) HLE.out (by have := HC.out; omega) (by rw [HSO.out, show optI (s.now core) = (m : Int) by rw [HNW.out]; rfl]) HNX'.out⟩, by simp [intOf]; omega⟩
end

section
open Go.RowKit Go.Maps
theorem info64I : ∃ i, Tryz.prog.info? 3 = some i ∧ i.zero = some (.int .i64 0) ∧ i.size = 1 ∧ i.bytes = 8 := by
 have : (Tryz.prog.info? 3).map (fun i => (i.zero, i.size, i.bytes)) = some (some (.int .i64 0), 1, 8) := by kernel_rfl
 obtain ⟨i, hi, he⟩ := Option.map_eq_some_iff.1 this
 simp only [Prod.mk.injEq] at he
 exact ⟨i, hi, he.1, he.2.1, he.2.2⟩
theorem run_append_i (base ty : Nat) (w : World) (v : Value) (l : List Int) (n : Nat) (hn : l.length = n) (hown : w.ownsRow base 3 1 v n (l.map intV)) (q : Nat) (x : Int) (hq : w.heap[q]? = some (.cells #[.int .i64 x] 3 (0, 0)))
  (hl : n ≤ 100000) (hbase : base ≤ w.heap.size) :
  ∃ v' w', (Builtin.append_ #[60, 60] ty #[v, .slice (some ⟨q, 0, none⟩) 1 1]).run Tryz.prog w = .ok v' w' ∧ w'.ownsRow base 3 1 v' (n + 1) ((l ++ [x]).map intV) ∧ w.grownBy w' v.ownBlock := by
 subst hn
 obtain ⟨i0, hi, hz0, hz1, hz2⟩ := info64I
 obtain ⟨v', w', hrun, h2, h3, _, _⟩ := run_append_own_at (P := Tryz.prog) w base 60 ty 3 i0 _ 1 8 Tryz.underlying60 hi hz0 hz1 hz2 rfl (by decide) v l.length (l.map intV) hown ⟨q, 0, none⟩ 1 1 [.int .i64 x]
  rfl (fun j u hu => by
   rw [Addr.add_mid, Nat.zero_add]
   simp only [World.cell?, hq]
   simpa using hu) (by simp [Value.oneCell']) (by unfold maxLen; omega) (by omega) hbase
 exact ⟨v', w', hrun, by rw [List.map_append]; exact h2, h3⟩
theorem slice_of_row {w : World} {base size n : Nat} {e : TypeId} {v : Value} {xs : List Value} (h : w.ownsRow base e size v n xs) : ∃ A c, v = .slice A n c := by
 rcases h.2 with ⟨rfl, h0⟩ | ⟨g, cap, cur, rfl, _⟩
 · exact ⟨none, 0, by rw [show n = 0 by have := h.1; omega]⟩
 · exact ⟨_, _, rfl⟩
theorem wpList_append_i {ops : Array Oper} {rest : List Oper} {o : Oper} {a : Act} {Q : Exit → Act → World → Prop} {w : World} (hgd : o.guard = none) (s x : Operand)
  (ho : o.op = .call { callee := .builtin .append, args := #[s, x], argTypes := #[60, 60] })
  (base : Nat) (v : Value) (l : List Int) (n k : Nat) (hn : l.length = n) (hk : n + 1 = k) (hs : a.eval s = v) (hown : w.ownsRow base 3 1 v n (l.map intV)) (q : Nat) (p : Int) (hx : a.eval x = .slice (some ⟨q, 0, none⟩) 1 1)
  (hq : w.heap[q]? = some (.cells #[.int .i64 p] 3 (0, 0))) (hl : n ≤ 100000) (hbase : base ≤ w.heap.size)
  (h : ∀ A1 c1 w', w'.ownsRow base 3 1 (.slice A1 k c1) k ((l ++ [p]).map intV) → w.grownBy w' v.ownBlock → wpList Tryz.prog ops Q rest (a.put o.dst (.slice A1 k c1)) w') : wpList Tryz.prog ops Q (o :: rest) a w :=
 wpList_plain hgd fun _ hK => by
  subst hk
  obtain ⟨v', w', hrun, h2, h3⟩ := run_append_i base o.type w v l n hn hown q p hq hl hbase
  unfold Oper.wp execOp
  simp only [ho, resolve, invoke, builtin, Sem.run_bind, Sem.run_pure, Result.andThen_ok, List.map_toArray, List.map_cons, List.map_nil, hs, hx, hrun]
  obtain ⟨A1, c1, rfl⟩ := slice_of_row h2
  exact hK _ _ (h A1 c1 w' h2 h3)
theorem row_geI {w : World} {base n size : Nat} {e : TypeId} {v : Value} {xs : List Value} (h : w.ownsRow base e size v n xs) : ∀ q, v.ownBlock = some q → base ≤ q := fun q hq => by
 rcases h.2 with ⟨rfl, _⟩ | ⟨g, cap, cur, rfl, hb, _⟩
 · simp [Value.ownBlock] at hq
 · simp [Value.ownBlock] at hq; omega
theorem grow_below {w W W' : World} {o : Obj} {v : Value} {n size : Nat} {e : TypeId} {xs : List Value} (h : Below w.heap.size w W) (hr : (W.alloc o).ownsRow w.heap.size e size v n xs) (hg : (W.alloc o).grownBy W' v.ownBlock) : Below w.heap.size w W' := by
 have h2 : Below w.heap.size w (W.alloc o) := h.alloc h.size _
 refine ⟨hg.os.trans h2.os, hg.tape.trans h2.tape, hg.output.trans h2.output, Nat.le_trans h2.size hg.size, fun b hb => (hg.block b (Nat.lt_of_lt_of_le hb h2.size) fun e => ?_).trans (h2.block b hb)⟩
 have := row_geI hr b e.symm
 omega
def IntR (w W : World) (v : Value) (l : List Int) : Prop := W.ownsRow w.heap.size 3 1 v l.length (l.map intV) ∧ Below w.heap.size w W
theorem IntR.later {w W W' : World} {v : Value} {l : List Int} (h : IntR w W v l) (hb : Below W.heap.size W W') : IntR w W' v l :=
 ⟨h.1.kept (row := none) ⟨hb.os, hb.tape, hb.output, hb.size, fun k hk _ => hb.block k hk⟩ (by cases hv : v.ownBlock with | none => exact .inl rfl | some x => exact .inr (by simp)), ptrans h.2 hb⟩
theorem zip_get {α β : Type} {a : List α} {b : List β} {i : Nat} {x : α} {y : β} (h1 : a[i]? = some x) (h2 : b[i]? = some y) : (a.zip b)[i]? = some (x, y) := by
 rw [List.getElem?_zip_eq_some]
 exact ⟨h1, h2⟩
theorem kn_at {l : List Ev} {i : Nat} {e : Ev} {v : Int} (h : l[i]? = some e) (hv : (numL (ckL l))[i]? = some v) : (kn (ckL l))[i]? = some (e.kind, v) := by
 unfold kn
 refine zip_get ?_ hv
 unfold ckL
 rw [List.map_map, List.getElem?_map, h]
 rfl
theorem kn_len (l : List Ev) : (kn (ckL l)).length = l.length := by
 unfold kn
 rw [List.length_zip, numL_len]
 simp [ckL]
theorem those_snoc (kd : Int) (E : List (Int × Int)) {i : Nat} {k v : Int} (h : E[i]? = some (k, v)) : thoseL kd (E.take (i + 1)) = if k = kd ∧ 0 ≤ v then thoseL kd (E.take i) ++ [v] else thoseL kd (E.take i) := by
 unfold thoseL
 rw [List.take_add_one, h, List.filterMap_append]
 by_cases c : k = kd ∧ 0 ≤ v
 · simp [c]
 · simp [c]
theorem those_len (kd : Int) (E : List (Int × Int)) : (thoseL kd E).length ≤ E.length := List.length_filterMap_le _ _
theorem num_at {l : List Ev} {i : Nat} (h : i < l.length) : ∃ v, (numL (ckL l))[i]? = some v := ⟨_, List.getElem?_eq_getElem (by rw [numL_len]; simpa [ckL] using h)⟩
theorem IntR.mono {w w1 W : World} {v : Value} {l : List Int} (h : IntR w1 W v l) (hb : Below w.heap.size w w1) : IntR w W v l := by
 obtain ⟨⟨h1, h2⟩, h3⟩ := h
 refine ⟨⟨h1, ?_⟩, ptrans hb h3⟩
 rcases h2 with h | ⟨g, cap, cur, a, c, r⟩
 · exact .inl h
 · exact .inr ⟨g, cap, cur, a, Nat.le_trans hb.size c, r⟩
set_option maxRecDepth 100000 in
set_option maxHeartbeats 4000000 in
theorem t_those31 (A : Option Addr) (n c : Nat) (l : List Ev) (w : World) (hl : EvsAt w A l) (hn : l.length = n) (hn2 : n ≤ 1000) (hf : ∀ e ∈ l, Ev.Fits e) (kd : Int) :
  Calls Tryz.prog 57 #[.slice A n c, .int .u8 kd] w fun e w' => ∃ v, e = .returned v ∧ IntR w w' v (thoseL kd (kn (ckL l))) := by
 have HL := zz hl
 have HN := zz hn
 have HT := zz (t_of31 A n c l w hl hn hn2 hf)
 have HN2 := zz hn2
 clear hl hn hf
 go_enter Tryz.func57, Tryz.ntmps57
 go_wp2_with (go_at_call 56; (with_reducible refine HT.out.mono ?_); rintro e w1 ⟨B, rfl, hr, hB, hb⟩; have HR := zz hr; have HB := zz hB; have HBW := zz hb; clear hr hB hb)
 have hr0 : IntR w1 w1 (.slice none 0 0) (thoseL kd ((kn (ckL l)).take 0)) := ⟨⟨rfl, .inl ⟨rfl, rfl⟩⟩, Below.refl _ _⟩
 go_loopw [4, 10] (fun v4 v10 W => ∃ (i : Nat), v10 = .int .i64 (i : Int) ∧ i ≤ n ∧ Hid (IntR w1 W v4 (thoseL kd ((kn (ckL l)).take i)))) (fun _ v _ => n - (intOf v).toNat)
 case atStart => exact ⟨0, rfl, Nat.zero_le _, hr0⟩
 case round =>
  clear hr0
  obtain ⟨i, rfl, hi, HRR⟩ := hrel
  by_cases he : i = n
  · subst he
    have HF : Hid (IntR w wr u4 (thoseL kd (kn (ckL l)))) := by
     have h := HRR.out.mono HBW.out
     rw [List.take_of_length_le (by rw [kn_len, HN.out]; exact Nat.le_refl _)] at h
     exact h
    clear HRR
    go_wp2
    go_ret
    exact ⟨_, rfl, HF.out⟩
  · have hin : i < n := by omega
    obtain ⟨e, hx⟩ : ∃ e, l[i]? = some e := ⟨l[i]'(by rw [HN.out]; exact hin), List.getElem?_eq_getElem _⟩
    obtain ⟨v, hv⟩ := num_at (l := l) (i := i) (by rw [HN.out]; exact hin)
    have hkn := kn_at hx hv
    obtain ⟨b, o, rfl, hb, hc⟩ := HL.out.get hx
    have c1 : wr.cell? ⟨b, o + i * 18 + 1, none⟩ = some (.int .u8 e.kind) := hc wr (ptrans HBW.out HRR.out.2) 1 _ rfl
    have c2 := (HR.out.below HRR.out.2).cell hv
    have hsn := those_snoc kd _ hkn
    have hlen : (thoseL kd ((kn (ckL l)).take i)).length ≤ 1000 := Nat.le_trans (those_len _ _) (by rw [List.length_take, kn_len, HN.out]; omega)
    obtain ⟨lx, hlx⟩ : ∃ lx, thoseL kd ((kn (ckL l)).take i) = lx := ⟨_, rfl⟩
    have HSN := zz hsn
    rw [hlx] at HSN hlen
    have HRX : Hid (IntR w1 wr u4 lx) := by rw [← hlx]; exact HRR.out
    obtain ⟨kind, hkd⟩ : ∃ kind, e.kind = kind := ⟨_, rfl⟩
    rw [hkd] at c1 HSN
    clear hx hv hkn hb hc hsn hlx he hkd HRR
    by_cases hk : kind = kd
    · subst hk
      by_cases h0 : 0 ≤ v
      · have HS2 := zz (show thoseL kind ((kn (ckL l)).take (i + 1)) = lx ++ [v] from by rw [HSN.out, if_pos ⟨rfl, h0⟩])
        have hsz := HRX.out.2.size
        have hown := (HRX.out.later ((Below.refl _ _).alloc (Nat.le_refl _) (.cells #[.int .i64 v] 3) : Below wr.heap.size wr (wr.alloc (.cells #[.int .i64 v] 3)))).1
        obtain ⟨m, hm⟩ : ∃ m, lx.length = m := ⟨_, rfl⟩
        rw [hm] at hown hlen
        have HOW := zz hown
        have HM := zz hm
        have HRZ := zz HRX.out.2
        have hq := heap_alloc_new wr (.cells #[.int .i64 v] 3)
        have HQ := zz hq
        clear hown hq HRX hm
        go_wp2_with (refine wpList_append_i rfl _ _ rfl w1.heap.size u4 lx m (m + 1) HM.out rfl rfl HOW.out wr.heap.size v rfl HQ.out (by omega) (by simp; omega) ?_; intro A1 c1 w' hown' hgrow)
        have HRN : Hid (IntR w1 w' (.slice A1 (m + 1) c1) (lx ++ [v])) := ⟨by rw [List.length_append, HM.out]; exact hown', grow_below HRZ.out HOW.out hgrow⟩
        clear hown' hgrow
        exact ⟨⟨i + 1, by go_num, by omega, by rw [HS2.out]; exact HRN⟩, by simp [intOf]; omega⟩
      · have HS2 := zz (show thoseL kind ((kn (ckL l)).take (i + 1)) = lx from by rw [HSN.out, if_neg (fun h => h0 h.2)])
        have h1 : decide (0 ≤ v) = false := by simpa using h0
        go_wp2
        exact ⟨⟨i + 1, by go_num, by omega, by rw [HS2.out]; exact HRX⟩, by simp [intOf]; omega⟩
    · have HS2 := zz (show thoseL kd ((kn (ckL l)).take (i + 1)) = lx from by rw [HSN.out, if_neg (fun h => hk h.1)])
      have h1 : (kind == kd) = false := by simpa using hk
      go_wp2
      exact ⟨⟨i + 1, by go_num, by omega, by rw [HS2.out]; exact HRX⟩, by simp [intOf]; omega⟩
end
end Go.Proofs.YtpcnolkdnmolgaaGreatDoor
