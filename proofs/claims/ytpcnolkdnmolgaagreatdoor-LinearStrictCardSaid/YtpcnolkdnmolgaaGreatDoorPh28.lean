/- linear: a history is gone through. -/
import Derived.Test.YtpcnolkdnmolgaaGreatDoorPh20
import Derived.Test.YtpcnolkdnmolgaaGreatDoorPh27
import Derived.WalkMore
namespace Go.Proofs.YtpcnolkdnmolgaaGreatDoor
section
open Go.RowKit Go.Maps
abbrev kindV (f : Nat) : Value := .agg #[.func (.func f) #[] #[]]
def kindO (a : Int) : Option Value := if a = 3 then some (kindV 135) else if a = 2 then some (kindV 134) else if a = 1 then some (kindV 133) else none
def kinds31 : Lit → Option Value
 | .int .u8 a => kindO a
 | _ => none
set_option maxRecDepth 100000 in
set_option maxHeartbeats 2000000 in
theorem t_kinds31 (w : World) : Calls Tryz.prog 91 #[] w fun e w' => ∃ b, e = .returned (.map (some b)) ∧ MapAt w' Tryz.prog 5 b 3 kinds31 ∧ Below w.heap.size w w' ∧ w.heap.size ≤ b := by
 have hmm := @run_makeMap Tryz.prog
 have m0 := MapAt.made w Tryz.prog 5
 obtain ⟨w1, r1, m1, t1⟩ := m0.update dlaw8 Tryz.underlying173 (by unfold maxLen; omega) (val := kindV 133) (dkey8 (i := 1) (by omega))
 obtain ⟨w2, r2, m2, t2⟩ := m1.update dlaw8 Tryz.underlying173 (by unfold maxLen; omega) (val := kindV 134) (dkey8 (i := 2) (by omega))
 obtain ⟨w3, r3, m3, t3⟩ := m2.update dlaw8 Tryz.underlying173 (by unfold maxLen; omega) (val := kindV 135) (dkey8 (i := 3) (by omega))
 have HM : Hid (MapAt w3 Tryz.prog 5 w.heap.size 3 kinds31) := m3.congr fun kl _ => by
  cases kl with
  | int q a =>
   cases q <;> try (unfold updM; simp [kinds31, Lit.sameKey]; done)
   show updM _ _ _ _ = kindO a
   unfold updM kindO
   by_cases h3 : a = 3
   · simp [h3, Lit.sameKey]
   by_cases h2 : a = 2
   · simp [h2, Lit.sameKey]
   by_cases h1 : a = 1
   · simp [h1, Lit.sameKey]
   simp [h1, h2, h3, Lit.sameKey]
  | _ => unfold updM; simp [kinds31, Lit.sameKey]
 have HB : Hid (Below w.heap.size w w3) := by
  have hg := (t1.grown.trans t2.grown).trans t3.grown
  have ha : Below w.heap.size w (w.alloc (.map #[] 0)) := (Below.refl _ _).alloc (Nat.le_refl _) _
  refine ⟨hg.os.trans ha.os, hg.tape.trans ha.tape, hg.output.trans ha.output, Nat.le_trans ha.size hg.size, fun b hb => (hg.block b (Nat.lt_of_lt_of_le hb ha.size) fun e => ?_).trans (ha.block b hb)⟩
  injection e with e
  omega
 clear m0 m1 m2 m3 t1 t2 t3
 go_enter Tryz.func91, Tryz.ntmps91
 go_wp2
 go_ret
 exact ⟨_, rfl, HM.out, HB.out, Nat.le_refl _⟩
noncomputable def runFrom (q : Nat) (l : List Ev) : Nat → List Ev → R31 → Int × Int × R31
 | i, [], s => ((i : Int), 0, s)
 | i, e :: t, s => if (step31 q l i s e).1 ≠ 0 then ((i : Int), (step31 q l i s e).1, (step31 q l i s e).2) else runFrom q l (i + 1) t (step31 q l i s e).2
def newR (r : Int) (q : Nat) : R31 := ⟨⟨newT r, fun _ => 0, q⟩, fun _ => none⟩
noncomputable def run31 (r : Int) (q : Nat) (l : List Ev) : Int × Int × R31 := runFrom q l 0 l (newR r q)
def FitsR (s : R31) : Prop := ∀ k g, s.c k = some g → g.x.Fits
theorem FitsR.put {s : R31} (h : FitsR s) {k : Int} {g : Option Go31} (hg : ∀ x, g = some x → x.x.Fits) : FitsR (s.put k g) := fun j x hx => by
 change (if j = k then g else s.c j) = some x at hx
 split at hx
 · exact hg x hx
 · exact h j x hx
theorem FitsR.step {q i : Nat} {l : List Ev} {s : R31} {e : Ev} (h : FitsR s) (he : e.Fits) : FitsR (step31 q l i s e).2 := by
 unfold step31
 split
 · exact h
 split
 · unfold begin31
   split
   · exact h
   · exact h.put fun x hx => by cases hx; exact he.cx
 split
 · unfold commit31
   split
   · exact h
   · rename_i g hg
     have hgx := h _ _ hg
     split
     · exact h
     split
     · exact h.put fun x hx => by cases hx; exact hgx
     · refine FitsR.put (s := ⟨(doM s.m e.core g.x).2, s.c⟩) h fun x hx => ?_
       cases hx
       exact hgx
 split
 · unfold end31
   split
   · exact h
   · split
     · exact h
     split
     · exact h.put fun x hx => by cases hx
     · exact h
 · exact h
theorem step_deed {w1 : World} {Q P Pt Pf C N q n c i core : Nat} {A : Option Addr} {l : List Ev} {e : Ev} {s : R31} (w : World) (hE : EvAt w1 A n c q l i e core) (hK : KindsAt w1) (hN : N ≤ 50000) (hgf : FitsR s) (hR : Rep w1.heap.size w1 Q P Pt Pf C N q A n c s w) (f : Nat) (hf : (e.kind = 1 ∧ f = 133) ∨ (e.kind = 2 ∧ f = 134) ∨ (e.kind = 3 ∧ f = 135)) :
  Calls Tryz.prog f #[.pointer (some ⟨Q, 0, none⟩), .int .i64 (i : Int)] w fun e' w' => e' = .returned (.int .i64 (step31 q l i s e).1) ∧ Rep w1.heap.size w1 Q P Pt Pf C (N + 2) q A n c (step31 q l i s e).2 w' := by
 have hc : ¬ ¬ (0 ≤ e.core ∧ e.core < (q : Int)) := fun h => h (by
  have h1 := hE.cor
  have h2 := hE.lt
  omega)
 unfold step31
 rw [if_neg hc]
 rcases hf with ⟨hk, rfl⟩ | ⟨hk, rfl⟩ | ⟨hk, rfl⟩
 · rw [if_pos hk]
   exact (t_begin31 w hE hK hR).mono fun e' w' ⟨h1, h2⟩ => ⟨h1, h2.mono (by omega)⟩
 · rw [if_neg (by omega), if_pos hk]
   exact t_commit31 w hE hK hN hgf hR
 · rw [if_neg (by omega), if_neg (by omega), if_pos hk]
   exact (t_end31 w hE hR).mono fun e' w' ⟨h1, h2⟩ => ⟨h1, h2.mono (by omega)⟩
set_option maxRecDepth 100000 in
theorem goings_make (n : Nat) (hn : n ≤ 1000) (w : World) : (Instr.makeSlice 129 (.int .i64 (n : Int)) (.int .i64 (n : Int))).run Tryz.prog w = .ok (.slice (some ⟨w.heap.size, 0, none⟩) n n) (w.alloc (.cells ((List.replicate n (none : Option Nat)).map ptrV).toArray 274)) := by
 obtain ⟨i, hi, hz, hs, hb⟩ : ∃ i, Tryz.prog.info? 274 = some i ∧ i.zero = some (.pointer none) ∧ i.size = 1 ∧ i.bytes = 8 := by
  have : (Tryz.prog.info? 274).map (fun i => (i.zero, i.size, i.bytes)) = some (some (.pointer none), 1, 8) := by kernel_rfl
  obtain ⟨i, hi, he⟩ := Option.map_eq_some_iff.1 this
  simp only [Prod.mk.injEq] at he
  exact ⟨i, hi, he.1, he.2.1, he.2.2⟩
 have hr := run_make (P := Tryz.prog) w 129 274 i _ Tryz.underlying129 hi hz .i64 .i64 (n : Int) (n : Int) (by omega) (by omega) (by rw [hb]; omega) (by omega)
 rw [hr, hs]
 have hl : madeCells (Value.pointer none).cells ((n : Int).toNat * 1) = ((List.replicate n (none : Option Nat)).map ptrV).toArray := by
  rw [← Array.toArray_toList (xs := madeCells _ _)]
  congr 1
  rw [List.map_replicate, Nat.mul_one]
  exact toList_madeCells_one (.pointer none) n
 rw [hl]
 rfl
theorem Rep.new {w w2 : World} {P Pt Pf q n c : Nat} {r : Int} {A : Option Addr} (h : MOwn w.heap.size w P Pt Pf 1 ⟨newT r, fun _ => 0, q⟩ [] w2) : Rep w.heap.size w (w2.heap.size + 1) P Pt Pf w2.heap.size 1 q A n c (newR r q) ((w2.alloc (.cells ((List.replicate q (none : Option Nat)).map ptrV).toArray 274)).alloc (.cells #[.pointer (some ⟨P, 0, none⟩), .slice A n c, .slice (some ⟨w2.heap.size, 0, none⟩) q q] 131)) := by
 have h1 : Below w2.heap.size w2 (w2.alloc (.cells ((List.replicate q (none : Option Nat)).map ptrV).toArray 274)) := (Below.refl _ _).alloc (Nat.le_refl _) _
 have h2 : Below w2.heap.size w2 ((w2.alloc (.cells ((List.replicate q (none : Option Nat)).map ptrV).toArray 274)).alloc (.cells #[.pointer (some ⟨P, 0, none⟩), .slice A n c, .slice (some ⟨w2.heap.size, 0, none⟩) q q] 131)) := h1.alloc (by simp) _
 have hb := h.base
 refine ⟨h.below h2, ?_, ⟨List.replicate q none, by simp, ?_, fun k G hk => ?_, fun k _ => rfl, fun k k' G hk => ?_⟩, by omega, hb⟩
 · have h3 := heap_alloc_new (w2.alloc (.cells ((List.replicate q (none : Option Nat)).map ptrV).toArray 274)) (.cells #[.pointer (some ⟨P, 0, none⟩), .slice A n c, .slice (some ⟨w2.heap.size, 0, none⟩) q q] 131)
   rw [show (w2.alloc (.cells ((List.replicate q (none : Option Nat)).map ptrV).toArray 274)).heap.size = w2.heap.size + 1 by simp] at h3
   exact h3
 · exact (Below.heap_alloc _ _ _ (by simp)).trans (heap_alloc_new w2 _)
 · rw [List.getElem?_replicate] at hk
   split at hk
   · cases hk
   · cases hk
 · rw [List.getElem?_replicate] at hk
   split at hk
   · cases hk
   · cases hk
structure Hist (w1 : World) (A : Option Addr) (n c : Nat) (l : List Ev) : Prop where
 evs : EvsAt w1 A l
 lists : EvsL w1 l
 len : l.length = n
 small : n ≤ 1000
 cap : n ≤ c
 cap2 : c ≤ maxLen
 fits : ∀ e ∈ l, Ev.Fits e
def RelK3 (kc : Value) (W W' : World) : Prop := (∀ (b : Nat) es c, W.heap[b]? = some (Obj.map es c) → W'.heap[b]? = some (Obj.map es c)) ∧ (∀ (b : Nat) (v : Value), W.heap[b]? = some (Obj.cells #[v] 171 (0, 0)) → W'.heap[b]? = some (Obj.cells #[v] 171 (0, 0)) ∨ W'.heap[b]? = some (Obj.cells #[kc] 171 (0, 0)))
theorem RelK3.of {kc : Value} {W W' : World} (h : RelB W W') : RelK3 kc W W' :=
 ⟨fun b _es _c hb => ((relB_get h).block b (Array.getElem?_eq_some_iff.1 hb).1).trans hb, fun b _v hb => .inl (((relB_get h).block b (Array.getElem?_eq_some_iff.1 hb).1).trans hb)⟩
theorem RelK3.set {kc v : Value} {W : World} {B : Nat} (h : W.heap[B]? = some (.cells #[v] 171 (0, 0))) : RelK3 kc W (W.setCell ⟨B, 0, none⟩ kc) := by
 refine ⟨fun b es c hb => ?_, fun b u hb => ?_⟩
 · have hne : b ≠ B := fun e => by rw [e, h] at hb; cases hb
   exact (Below.heap_setCell _ _ _ b hne).trans hb
 · by_cases e : b = B
   · subst e
     exact .inr (oheap_set _ _ _ _ _ h)
   · exact .inl ((Below.heap_setCell _ _ _ b e).trans hb)
def isKs : Ph := fun v W => ∃ b, v = .map (some b) ∧ MapAt W Tryz.prog 5 b 3 kinds31
def isK3 (G : Nat) (kc : Value) : Ph := fun v W => ∃ B, v = .pointer (some ⟨B, 0, none⟩) ∧ G ≤ B ∧ (W.heap[B]? = some (.cells #[.nilFunc] 171 (0, 0)) ∨ W.heap[B]? = some (.cells #[kc] 171 (0, 0)))
def isK3k (G : Nat) (kc : Value) : Ph := fun v W => ∃ B, v = .pointer (some ⟨B, 0, none⟩) ∧ G ≤ B ∧ W.heap[B]? = some (.cells #[kc] 171 (0, 0))
theorem isKs.stay {kc : Value} : ∀ v W W', isKs v W → RelK3 kc W W' → isKs v W' := fun _ _ _ ⟨b, h1, h2⟩ hr => by
 obtain ⟨es, c, hm⟩ := h2.isMap
 exact ⟨b, h1, h2.same ((hr.1 b es c hm).trans hm.symm)⟩
theorem isK3.stay {G : Nat} {kc : Value} : ∀ v W W', isK3 G kc v W → RelK3 kc W W' → isK3 G kc v W' := fun _ _ _ ⟨B, h1, h2, h3⟩ hr => by
 refine ⟨B, h1, h2, ?_⟩
 rcases h3 with h | h
 · exact hr.2 B _ h
 · rcases hr.2 B _ h with h' | h'
   · exact .inr h'
   · exact .inr h'
theorem isK3k.stay {G : Nat} {kc : Value} : ∀ v W W', isK3k G kc v W → RelK3 kc W W' → isK3k G kc v W' := fun _ _ _ ⟨B, h1, h2, h3⟩ hr => by
 refine ⟨B, h1, h2, ?_⟩
 rcases hr.2 B _ h3 with h' | h'
 · exact h'
 · exact h'
theorem zeroKind (w : World) : (zeroValue 171).run Tryz.prog w = .ok (.agg #[.nilFunc]) w := by kernel_rfl
theorem kind_of (k : Int) : (kindO k = none ∧ k ≠ 1 ∧ k ≠ 2 ∧ k ≠ 3) ∨ ∃ f, kindO k = some (kindV f) ∧ ((k = 1 ∧ f = 133) ∨ (k = 2 ∧ f = 134) ∨ (k = 3 ∧ f = 135)) ∧ ∀ args W, (callFunc f args).run Tryz.prog W = .ok (.enter f args) W := by
 unfold kindO
 by_cases h3 : k = 3
 · exact .inr ⟨_, if_pos h3, .inr (.inr ⟨h3, rfl⟩), enters_of Tryz.func135 (by kernel_rfl) rfl⟩
 rw [if_neg h3]
 by_cases h2 : k = 2
 · exact .inr ⟨_, if_pos h2, .inr (.inl ⟨h2, rfl⟩), enters_of Tryz.func134 (by kernel_rfl) rfl⟩
 rw [if_neg h2]
 by_cases h1 : k = 1
 · exact .inr ⟨_, if_pos h1, .inl ⟨h1, rfl⟩, enters_of Tryz.func133 (by kernel_rfl) rfl⟩
 · rw [if_neg h1]
   exact .inl ⟨rfl, h1, h2, h3⟩
def RunP (w : World) (q : Nat) (A : Option Addr) (n c : Nat) (x : Int × Int × R31) (e : Ending) (w' : World) : Prop := (x.2.1 ≠ 0 ∧ e = .returned (.tuple #[.pointer none, .int .i64 x.1, .int .i64 x.2.1]) ∧ Below w.heap.size w w') ∨ (x.2.1 = 0 ∧ ∃ Q P Pt Pf C N, N ≤ 3000 ∧ e = .returned (.tuple #[.pointer (some ⟨Q, 0, none⟩), .int .i64 x.1, .int .i64 0]) ∧ Rep w.heap.size w Q P Pt Pf C N q A n c x.2.2 w')
theorem runFrom_cons (q : Nat) {l : List Ev} {i : Nat} {e : Ev} (s : R31) (h : l[i]? = some e) : runFrom q l i (l.drop i) s = if (step31 q l i s e).1 ≠ 0 then ((i : Int), (step31 q l i s e).1, (step31 q l i s e).2) else runFrom q l (i + 1) (l.drop (i + 1)) (step31 q l i s e).2 := by
 rw [List.drop_eq_getElem_cons (List.getElem?_eq_some_iff.1 h).1, (List.getElem?_eq_some_iff.1 h).2]
 rfl
set_option maxRecDepth 100000 in
set_option maxHeartbeats 4000000 in
theorem t_run31 (r : Int) (q : Nat) (w : World) (A : Option Addr) (n c : Nat) (l : List Ev) (hH : Hist w A n c l) (hK : KindsAt w) (hr1 : 2 ≤ r) (hr2 : r ≤ 256) (hq1 : 1 ≤ q) (hq2 : q ≤ 8) :
  Calls Tryz.prog 55 #[.int .i64 r, .int .i64 (q : Int), .slice A n c] w (RunP w q A n c (run31 r q l)) := by
 have HNM := zz (t_newM r q w hr1 hr2 (by omega) (by omega))
 have HH := zz hH
 have HK := zz hK
 have hmk := goings_make q (by omega)
 obtain ⟨x, hx⟩ : ∃ x, run31 r q l = x := ⟨_, rfl⟩
 rw [hx]
 have HX0 := zz (show runFrom q l 0 (l.drop 0) (newR r q) = x from hx)
 clear hH hK hx
 go_enter Tryz.func55, Tryz.ntmps55
 go_wp2
 go_step3
 go_wp2_with (go_at_call 10; (with_reducible refine HNM.out.mono ?_); rintro e w2 ⟨P, Pt, Pf, rfl, y, F, hM, hO, hF2, hs, hB⟩; have HMO : Hid (MOwn w.heap.size w P Pt Pf 1 ⟨newT r, fun _ => 0, q⟩ [] w2) := ⟨y, F, hM, hO, hF2, hs, hB, KeptL.nil⟩; clear hM hO hF2 hs hB)
 go_step3
 go_wp2
 have HR0 := zz (Rep.new (A := A) (n := n) (c := c) HMO.out)
 obtain ⟨C, hC⟩ : ∃ C, w2.heap.size = C := ⟨_, rfl⟩
 obtain ⟨Q, hQ⟩ : ∃ Q, w2.heap.size + 1 = Q := ⟨_, rfl⟩
 obtain ⟨W0, hW0⟩ : ∃ W0, (w2.alloc (.cells ((List.replicate q (none : Option Nat)).map ptrV).toArray 274)).alloc (.cells #[.pointer (some ⟨P, 0, none⟩), .slice A n c, .slice (some ⟨w2.heap.size, 0, none⟩) q q] 131) = W0 := ⟨_, rfl⟩
 rw [hW0, hQ, hC] at HR0
 rw [hC, show ((List.replicate q (none : Option Nat)).map ptrV).toArray = Array.replicate q (ptrV none) by simp] at hW0
 clear hmk
 have HFT : Hid (FitsR (newR r q)) := fun k g h => by cases h
 first | rw [hQ] | skip
 first | rw [hC] | skip
 first | rw [hW0] | skip
 clear hC hQ hW0 HMO HNM
 go_loopw [7, 8, 29] (fun v7 v8 v29 W => ∃ (i : Nat) (z : Int) (s : R31), v7 = .int .i64 z ∧ v8 = .int .i64 0 ∧ v29 = .int .i64 (i : Int) ∧ i ≤ n ∧ Hid (Rep w.heap.size w Q P Pt Pf C (1 + 2 * i) q A n c s W) ∧ Hid (FitsR s) ∧ Hid (runFrom q l i (l.drop i) s = x)) (fun _ _ v _ => n - (intOf v).toNat)
 case atStart => exact ⟨0, 0, _, rfl, rfl, rfl, Nat.zero_le _, HR0.out, HFT, HX0⟩
 case round =>
  obtain ⟨i, z, s, rfl, rfl, rfl, hi, HRP, HFS, HXX⟩ := hrel
  have hn2 := HH.out.small
  by_cases he : i = n
  · have hxe : x = ((n : Int), 0, s) := by
     rw [← HXX.out, List.drop_of_length_le (by rw [HH.out.len, he]; exact Nat.le_refl _), he]
     rfl
    have HXE := zz hxe
    subst he
    clear hxe
    go_wp2
    try rw [Exit.noGoto_ret]
    go_ret3
    rw [HXE.out]
    exact .inr ⟨rfl, Q, P, Pt, Pf, C, 1 + 2 * i, by omega, rfl, HRP.out⟩
  · have hin : i < n := by omega
    obtain ⟨e, hx⟩ : ∃ e, l[i]? = some e := ⟨l[i]'(by rw [HH.out.len]; exact hin), List.getElem?_eq_getElem _⟩
    have HXC := zz (HXX.out.symm.trans (runFrom_cons q s hx))
    have HE := zz hx
    have hm := HRP.out.mem
    obtain ⟨b, off, rfl, hb, hc⟩ := HH.out.evs.get hx
    have HC1 := zz (show ∀ W, Below wr.heap.size wr W → W.cell? ⟨b, off + i * 18, none⟩ = some (.int .i64 e.core) ∧ W.cell? ⟨b, off + i * 18 + 1, none⟩ = some (.int .u8 e.kind) from fun W hW => ⟨hc W (hm.trans (hW.mono HRP.out.own.base)) 0 _ rfl, hc W (hm.trans (hW.mono HRP.out.own.base)) 1 _ rfl⟩)
    obtain ⟨k, hk, hk2⟩ := (HH.out.fits e (List.mem_of_getElem? hx)).kind
    obtain ⟨kc, ib, hkc, hib, hko, hkn⟩ : ∃ kc ib, (kinds31 (.int .u8 (k : Int))).getD (.agg #[.nilFunc]) = .agg #[kc] ∧ (kinds31 (.int .u8 (k : Int))).isSome = ib ∧ kc.oneCell' = true ∧ ((ib = false ∧ (k : Int) ≠ 1 ∧ (k : Int) ≠ 2 ∧ (k : Int) ≠ 3) ∨ (ib = true ∧ ∃ f, kc = .func (.func f) #[] #[] ∧ (((k : Int) = 1 ∧ f = 133) ∨ ((k : Int) = 2 ∧ f = 134) ∨ ((k : Int) = 3 ∧ f = 135)) ∧ ∀ args W, (callFunc f args).run Tryz.prog W = .ok (.enter f args) W)) := by
     rcases kind_of (k : Int) with ⟨h1, h2⟩ | ⟨f, h1, h2, h3⟩
     · exact ⟨.nilFunc, false, by show (kindO k).getD _ = _; rw [h1]; rfl, by show (kindO k).isSome = _; rw [h1]; rfl, rfl, .inl ⟨rfl, h2⟩⟩
     · exact ⟨.func (.func f) #[] #[], true, by show (kindO k).getD _ = _; rw [h1]; rfl, by show (kindO k).isSome = _; rw [h1]; rfl, rfl, .inr ⟨rfl, f, rfl, h2, h3⟩⟩
    have HKO := zz hko
    have HLK := zz (show ∀ (b : Nat) (W : World), MapAt W Tryz.prog 5 b 3 kinds31 → (Instr.lookup 173 (.map (some b)) (.int .u8 (k : Int)) true).run Tryz.prog W = .ok (.tuple #[.agg #[kc], .bool ib]) W from fun b W hm => by
     have := hm.look_ok dlaw8 Tryz.underlying173 (zeroKind W) (dkey8 (i := (k : Int)) (by omega))
     rw [hkc, hib] at this
     exact this)
    have HKN := zz hkn
    have HKK := zz hk
    rw [hk] at HC1
    clear hx hm hb hc hk hkc hib hko hkn he HXX
    go_wp2
    refine wp_region_st (fun _ W => Below wr.heap.size wr W) RelB (RelK3 kc) [11] (phi [isKs, isV (.slice (some ⟨b, off, none⟩) n c), isV (.int .i64 (i : Int)), isV (.pointer (some ⟨b, off + i * 18, none⟩)), isV (.pointer (some ⟨b, off + i * 18 + 1, none⟩)), isV (.int .u8 (k : Int)), isV (.tuple #[.agg #[kc], .bool ib]), isV (.tuple #[.agg #[kc], .bool ib]), isV (.agg #[kc]), isV (.bool ib), isK3 wr.heap.size kc, isK3k wr.heap.size kc, isV (.bool ib)]) (by kernel_rfl) (by kernel_rfl) (by kernel_rfl) (by kernel_rfl) (by kernel_rfl) (below_drew _) (fun _ _ _ h hb => ptrans h (relB_get hb)) (fun _ _ h => RelK3.of h) ?_ ?_ ?_
    · refine stays_phiR ?_
      simp only [List.forall_mem_cons]
      exact ⟨isKs.stay, kv, kv, kv, kv, kv, kv, kv, kv, kv, isK3.stay, isK3k.stay, kv, fun _ h => absurd h (by simp)⟩
    · refine ⟨?_, ?_, ?_, ?_, ?_, ?_, ?_, ?_, ?_, ?_, ?_, ?_, ?_, trivial⟩
      · refine opS_mk rfl rfl fun aa W2 nJ hJ hp hq K hK => ?_
        clear hp hq
        go_simp
        go_at_call 91
        (with_reducible refine (t_kinds31 W2).mono ?_)
        rintro e w9 ⟨bq, rfl, hm, hb, _⟩
        exact hK _ _ (RelB.of hb) ⟨bq, rfl, hm⟩
      · refine opS_mk rfl rfl fun aa W2 nJ hJ hp hq K hK => ?_
        have e2 : aa.tmps[2]?.getD undef = .slice (some ⟨b, off, none⟩) n c := hp 2 (by kernel_rfl)
        clear hp hq
        go_simp
        exact hK _ _ (RelB.refl _) rfl
      · refine opS_mk rfl rfl fun aa W2 nJ hJ hp hq K hK => ?_
        have e7 : aa.tmps[7]?.getD undef = .int .i64 (i : Int) := hp 7 (by kernel_rfl)
        clear hp hq
        go_simp
        exact hK _ _ (RelB.refl _) rfl
      · refine opS_mk rfl rfl fun aa W2 nJ hJ hp hq K hK => ?_
        have e34 : aa.tmps[34]?.getD undef = .slice (some ⟨b, off, none⟩) n c := hq 1 _ (by kernel_rfl) rfl
        have e35 : aa.tmps[35]?.getD undef = .int .i64 (i : Int) := hq 2 _ (by kernel_rfl) rfl
        clear hp hq
        go_simp
        exact hK _ _ (RelB.refl _) rfl
      · refine opS_mk rfl rfl fun aa W2 nJ hJ hp hq K hK => ?_
        have e36 : aa.tmps[36]?.getD undef = .pointer (some ⟨b, off + i * 18, none⟩) := hq 3 _ (by kernel_rfl) rfl
        clear hp hq
        go_simp
        exact hK _ _ (RelB.refl _) rfl
      · refine opS_mk rfl rfl fun aa W2 nJ hJ hp hq K hK => ?_
        have e37 : aa.tmps[37]?.getD undef = .pointer (some ⟨b, off + i * 18 + 1, none⟩) := hq 4 _ (by kernel_rfl) rfl
        have hB : Below wr.heap.size wr W2 := hJ
        have d1 := (HC1.out W2 hB).2
        clear hp hq
        go_simp
        exact hK _ _ (RelB.refl _) rfl
      · refine opS_mk rfl rfl fun aa W2 nJ hJ hp hq K hK => ?_
        have e38 : aa.tmps[38]?.getD undef = .int .u8 (k : Int) := hq 5 _ (by kernel_rfl) rfl
        obtain ⟨bq, e33, hm⟩ : isKs (aa.tmps[33]?.getD undef) W2 := hq 0 _ (by kernel_rfl) rfl
        have hlk := HLK.out bq W2 hm
        clear hp hq
        go_simp
        exact hK _ _ (RelB.refl _) rfl
      · refine opS_mk rfl rfl fun aa W2 nJ hJ hp hq K hK => ?_
        have e39 : aa.tmps[39]?.getD undef = .tuple #[.agg #[kc], .bool ib] := hq 6 _ (by kernel_rfl) rfl
        clear hp hq
        go_simp
        exact hK _ _ (RelB.refl _) rfl
      · refine opS_mk rfl rfl fun aa W2 nJ hJ hp hq K hK => ?_
        have e32 : aa.tmps[32]?.getD undef = .tuple #[.agg #[kc], .bool ib] := hq 7 _ (by kernel_rfl) rfl
        clear hp hq
        go_simp
        exact hK _ _ (RelB.refl _) rfl
      · refine opS_mk rfl rfl fun aa W2 nJ hJ hp hq K hK => ?_
        have e32 : aa.tmps[32]?.getD undef = .tuple #[.agg #[kc], .bool ib] := hq 7 _ (by kernel_rfl) rfl
        clear hp hq
        go_simp
        exact hK _ _ (RelB.refl _) rfl
      · refine opS_mk rfl rfl fun aa W2 nJ hJ hp hq K hK => ?_
        have hsJ := (show Below wr.heap.size wr W2 from hJ).size
        have hz := zeroKind
        clear hp hq
        go_simp
        exact hK _ _ (RelB.of ((Below.refl _ _).alloc (Nat.le_refl _) _)) ⟨_, rfl, hsJ, .inl (heap_alloc_new _ _)⟩
      · refine opS_at (m := 0) rfl rfl fun aa W2 hJ hp hq K hK => ?_
        have e40 : aa.tmps[40]?.getD undef = .agg #[kc] := hq 8 _ (by kernel_rfl) rfl
        have hj : Below wr.heap.size wr W2 := hJ
        obtain ⟨B, e8, hG, hBc⟩ : isK3 wr.heap.size kc (aa.tmps[10]?.getD undef) W2 := hq 10 _ (by kernel_rfl) rfl
        obtain ⟨v0, hv0⟩ : ∃ v0, W2.heap[B]? = some (.cells #[v0] 171 (0, 0)) := by rcases hBc with h | h; exact ⟨_, h⟩; exact ⟨_, h⟩
        have cc : W2.cell? ⟨B, 0, none⟩ = some v0 := by simp [World.cell?, hv0]
        have ff : W2.frozen? ⟨B, 0, none⟩ = false := by simp [World.frozen?, hv0]
        have hK3 := hK undef _ (RelK3.set (kc := kc) hv0) (hj.setCell (p := ⟨B, 0, none⟩) hG kc) (by show isK3k _ _ (aa.tmps[10]?.getD undef) _; rw [e8]; exact ⟨B, rfl, hG, oheap_set _ _ _ _ _ hv0⟩)
        clear hp hq
        have hth : W2.there B 0 1 := fun j hj => by
         have : j = 0 := by omega
         subst this
         exact ⟨by rw [Nat.zero_add, cc]; rfl, by rw [Nat.zero_add]; exact ff⟩
        exact wp_store_mid 171 (.tmp 10) (.tmp 40) rfl B 0 #[kc] ((eval_slot aa 10).trans e8) ((eval_slot aa 40).trans e40) hth (by kernel_rfl) (by simp [HKO.out]) hK3
      · refine opS_mk rfl rfl fun aa W2 nJ hJ hp hq K hK => ?_
        have e41 : aa.tmps[41]?.getD undef = .bool ib := hq 9 _ (by kernel_rfl) rfl
        clear hp hq
        go_simp
        exact hK _ _ (RelB.refl _) rfl
    · intro vs W9 hJ9 hv9 hst9
      have v12 : vs 12 = .bool ib := hv9 12 _ rfl rfl
      obtain ⟨B, vB, hG, hB3⟩ : isK3k wr.heap.size kc (vs 10) W9 := hst9 11 _ 10 10 _ rfl rfl rfl rfl rfl
      have HB9 := zz (show Below wr.heap.size wr W9 from hJ9)
      have kB : W9.cell? ⟨B, 0, none⟩ = some kc := by simp [World.cell?, hB3]
      obtain ⟨d1, d2⟩ := HC1.out W9 HB9.out
      clear hJ9 hv9 hst9 hB3
      simp only [putAll, Act.put, List.setIfInBounds_toArray, List.set_cons_succ, List.set_cons_zero, Nat.zero_add, Nat.reduceAdd]
      rw [v12, vB]
      rcases HKN.out with ⟨rfl, n1, n2, n3⟩ | ⟨rfl, f, rfl, hfk, hent⟩
      · have hst : step31 q l i s e = (310, s) := by
         unfold step31
         have hk := HKK.out
         split
         · rfl
         · rw [if_neg (by rw [hk]; exact n1), if_neg (by rw [hk]; exact n2), if_neg (by rw [hk]; exact n3)]
        have hxe := HXC.out
        rw [hst, if_pos (show (310 : Int) ≠ 0 by decide)] at hxe
        have HXE := zz hxe
        have HBN := zz (ptrans HRP.out.mem HB9.out)
        clear hst hxe n1 n2 n3
        go_wp2
        try rw [Exit.noGoto_ret]
        go_ret3
        rw [HXE.out]
        exact .inl ⟨(show (310 : Int) ≠ 0 by decide), rfl, HBN.out⟩
      · by_cases hcr : 0 ≤ e.core ∧ e.core < (q : Int)
        · obtain ⟨core, hcore⟩ := Int.eq_ofNat_of_zero_le hcr.1
          have hcq : core < q := by omega
          have HEA : Hid (EvAt w (some ⟨b, off, none⟩) n c q l i e core) := ⟨HH.out.evs, HH.out.lists, HH.out.len, HH.out.small, HH.out.cap, HH.out.cap2, HH.out.fits, HE.out, hcore, hcq⟩
          have HSD := zz (show ∀ W, Below wr.heap.size wr W → Calls Tryz.prog f #[.pointer (some ⟨Q, 0, none⟩), .int .i64 (i : Int)] W fun e' w' => e' = .returned (.int .i64 (step31 q l i s e).1) ∧ Rep w.heap.size w Q P Pt Pf C (1 + 2 * i + 2) q (some ⟨b, off, none⟩) n c (step31 q l i s e).2 w' from fun W hW => step_deed W HEA.out HK.out (by omega) HFS.out (HRP.out.below hW) f (by rw [HKK.out]; exact hfk))
          have HFS2 := zz (FitsR.step (q := q) (i := i) (l := l) (e := e) HFS.out (HH.out.fits e (List.mem_of_getElem? HE.out)))
          obtain ⟨y, hy⟩ : ∃ y, step31 q l i s e = y := ⟨_, rfl⟩
          have hxe := HXC.out
          rw [hy] at HSD HFS2 hxe
          obtain ⟨code, s2⟩ := y
          dsimp only at HSD HFS2 hxe
          have HXE := zz hxe
          rw [hcore] at d1
          clear hy hxe hfk hcr
          by_cases hco : code = 0
          · subst hco
            go_wp2_with (go_at_fn f; refine (HSD.out _ HB9.out).mono ?_; rintro e5 w5 ⟨rfl, hr5⟩; have HR5 := zz hr5; clear hr5)
            have HNX := zz (show runFrom q l (i + 1) (l.drop (i + 1)) s2 = x from (HXE.out.trans (if_neg (fun h => h rfl))).symm)
            have HRN : Hid (Rep w.heap.size w Q P Pt Pf C (1 + 2 * (i + 1)) q (some ⟨b, off, none⟩) n c s2 w5) := HR5.out.mono (by omega)
            exact ⟨⟨i + 1, _, s2, rfl, rfl, by go_num, by omega, HRN, HFS2, HNX⟩, by simp [intOf]; omega⟩
          · have hcob : (code == 0) = false := by simpa using hco
            have hcoc : (code != 0) = true := by simpa using hco
            go_wp2_with (go_at_fn f; refine (HSD.out _ HB9.out).mono ?_; rintro e5 w5 ⟨rfl, hr5⟩; have HR5 := zz hr5; clear hr5)
            have hx2 := HXE.out.trans (if_pos hco)
            try rw [Exit.noGoto_ret]
            go_ret3
            rw [hx2]
            exact .inl ⟨hco, rfl, HR5.out.mem⟩
        · have hst : step31 q l i s e = (310, s) := by
           unfold step31
           rw [if_pos hcr]
          have hxe := HXC.out
          rw [hst, if_pos (show (310 : Int) ≠ 0 by decide)] at hxe
          have HXE := zz hxe
          have HBN := zz (ptrans HRP.out.mem HB9.out)
          obtain ⟨ec, hec⟩ : ∃ ec, e.core = ec := ⟨_, rfl⟩
          rw [hec] at d1 hcr
          clear hst hxe hec
          by_cases h0 : 0 ≤ ec
          · have h1 : ¬ ec < (q : Int) := fun h => hcr ⟨h0, h⟩
            clear hcr
            go_wp2
            try rw [Exit.noGoto_ret]
            go_ret3
            rw [HXE.out]
            exact .inl ⟨(show (310 : Int) ≠ 0 by decide), rfl, HBN.out⟩
          · clear hcr
            go_wp2
            try rw [Exit.noGoto_ret]
            go_ret3
            rw [HXE.out]
            exact .inl ⟨(show (310 : Int) ≠ 0 by decide), rfl, HBN.out⟩
end

section
open Go.RowKit Go.Maps
theorem RunP.get {w w' : World} {q n c : Nat} {A : Option Addr} {x : Int × Int × R31} {e : Ending} (h : RunP w q A n c x e w') : (∃ pv, e = .returned (.tuple #[pv, .int .i64 x.1, .int .i64 x.2.1])) ∧ Below w.heap.size w w' := by
 rcases h with ⟨h1, h2, h3⟩ | ⟨h1, Q, P, Pt, Pf, C, N, _, h2, h3⟩
 · exact ⟨⟨_, h2⟩, h3⟩
 · exact ⟨⟨_, by rw [h2, h1]⟩, h3.mem⟩
set_option maxRecDepth 100000 in
set_option maxHeartbeats 2000000 in
theorem t_check31 (r : Int) (q : Nat) (w : World) (A : Option Addr) (n c : Nat) (l : List Ev) (hH : Hist w A n c l) (hK : KindsAt w) (hr1 : 2 ≤ r) (hr2 : r ≤ 256) (hq1 : 1 ≤ q) (hq2 : q ≤ 8) :
  Calls Tryz.prog 23 #[.int .i64 r, .int .i64 (q : Int), .slice A n c] w fun e w' => e = .returned (.tuple #[.int .i64 (run31 r q l).1, .int .i64 (run31 r q l).2.1]) ∧ Below w.heap.size w w' := by
 have HR := zz (t_run31 r q w A n c l hH hK hr1 hr2 hq1 hq2)
 obtain ⟨x, hx⟩ : ∃ x, run31 r q l = x := ⟨_, rfl⟩
 rw [hx] at HR ⊢
 obtain ⟨a, b, s⟩ := x
 clear hH hK hx
 go_enter Tryz.func23, Tryz.ntmps23
 go_wp2_with (go_at_call 55; (with_reducible refine HR.out.mono ?_); rintro e w2 h; obtain ⟨⟨pv, rfl⟩, hb⟩ := h.get; have HB := zz hb; clear h hb)
 go_ret2
 exact ⟨rfl, HB.out⟩
set_option maxRecDepth 100000 in
theorem t_newM0 (n : Int) (w : World) (h1 : 1 ≤ n) (h2 : n ≤ 8) :
  Calls Tryz.prog 10 #[.int .i64 0, .int .i64 n] w fun e w' => e = .returned (.tuple #[.pointer none, .int .i64 2]) ∧ Below w.heap.size w w' := by
 have HN := zz (t_newNo 0 w (.inl (by decide)))
 have HF := zz (fun W => fds_new_ok n h1 h2 W)
 clear h1 h2
 go_enter Tryz.func10, Tryz.ntmps10
 go_wp2_with (first
  | (go_at_call 39; (with_reducible refine HN.out.mono ?_); rintro e w2 ⟨rfl, rfl⟩)
  | (go_at_call 40; refine (HF.out _).mono ?_; rintro e w3 ⟨rfl, rfl⟩))
 go_ret2
 exact ⟨rfl, (Below.refl _ _).alloc (Nat.le_refl _) _⟩
set_option maxRecDepth 100000 in
set_option maxHeartbeats 2000000 in
theorem t_checkNo (q : Int) (w : World) (A : Option Addr) (n c : Nat) (hq1 : 1 ≤ q) (hq2 : q ≤ 8) :
  Calls Tryz.prog 23 #[.int .i64 0, .int .i64 q, .slice A n c] w fun e w' => e = .returned (.tuple #[.int .i64 0, .int .i64 2]) ∧ Below w.heap.size w w' := by
 have HR : Hid (Calls Tryz.prog 55 #[.int .i64 0, .int .i64 q, .slice A n c] w fun e w' => e = .returned (.tuple #[.pointer none, .int .i64 0, .int .i64 2]) ∧ Below w.heap.size w w') := by
  have HM := zz (t_newM0 q w hq1 hq2)
  show Calls _ _ _ _ _
  go_enter Tryz.func55, Tryz.ntmps55
  go_wp2
  go_step3
  go_wp2_with (go_at_call 10; (with_reducible refine HM.out.mono ?_); rintro e w2 ⟨rfl, hb⟩; have HB := zz hb; clear hb)
  try rw [Exit.noGoto_ret]
  go_ret3
  exact ⟨rfl, HB.out⟩
 go_enter Tryz.func23, Tryz.ntmps23
 go_wp2_with (go_at_call 55; (with_reducible refine HR.out.mono ?_); rintro e w2 ⟨rfl, hb⟩; have HB := zz hb; clear hb)
 go_ret2
 exact ⟨rfl, HB.out⟩
def Long31P (n : Nat) (w : World) (e : Ending) (w' : World) : Prop := ∃ b : Bool, e = .returned (.bool b) ∧ (b = false → n ≤ 150) ∧ Below w.heap.size w w'
theorem Long31P.get {n : Nat} {w w' : World} {e : Ending} (h : Long31P n w e w') : ∃ b : Bool, e = .returned (.bool b) ∧ (b = false → n ≤ 150) ∧ Below w.heap.size w w' := h
theorem Long31P.of {n : Nat} {w w' : World} {b : Bool} (h : b = false → n ≤ 150) (hb : Below w.heap.size w w') : Long31P n w (.returned (.bool b)) w' := ⟨b, rfl, h, hb⟩
set_option maxRecDepth 100000 in
set_option maxHeartbeats 4000000 in
theorem t_long31 (A : Option Addr) (n c : Nat) (l : List Ev) (w : World) (hl : EvsAt w A l) (hn : l.length = n) (hn2 : n ≤ maxLen) :
  Calls Tryz.prog 21 #[.slice A n c] w (Long31P n w) := by
 have HL := zz hl
 have HN := zz hn
 unfold maxLen at hn2
 clear hl hn
 go_enter Tryz.func21, Tryz.ntmps21
 go_wp2
 go_loopw [3, 4] (fun v3 v4 wr => ∃ (i : Nat) (x : Int), v3 = .int .i64 x ∧ v4 = .int .i64 (i : Int) ∧ i ≤ n ∧ i ≤ 300 ∧ Hid (Below w.heap.size w wr)) (fun _ v4 _ => n - (intOf v4).toNat)
 case atStart => exact ⟨0, 0, rfl, rfl, Nat.zero_le _, Nat.zero_le _, Below.refl _ _⟩
 case round =>
  obtain ⟨k, x, rfl, rfl, hk, hk2, HW⟩ := hrel
  by_cases he : k < n ∧ k < 300
  · obtain ⟨he, he2⟩ := he
    obtain ⟨e, hx⟩ : ∃ e, l[k]? = some e := ⟨l[k]'(by rw [HN.out]; exact he), List.getElem?_eq_getElem _⟩
    obtain ⟨b, o, rfl, hb, hc⟩ := HL.out.get hx
    have HC := zz hc
    have hcw := hc wr HW.out
    have f0 : wr.cell? ⟨b, o + k * 18 + 2, none⟩ = some (.int .u8 e.x.act) := hcw 2 _ rfl
    have f1 : wr.cell? ⟨b, o + k * 18 + 2 + 1, none⟩ = some (.string e.x.path) := hcw 3 _ rfl
    have f2 : wr.cell? ⟨b, o + k * 18 + 2 + 2, none⟩ = some (.string e.x.path2) := hcw 4 _ rfl
    have f3 : wr.cell? ⟨b, o + k * 18 + 2 + 3, none⟩ = some (.int .i64 e.x.fd) := hcw 5 _ rfl
    have f4 : wr.cell? ⟨b, o + k * 18 + 2 + 4, none⟩ = some (.int .i64 e.x.page) := hcw 6 _ rfl
    have f5 : wr.cell? ⟨b, o + k * 18 + 2 + 5, none⟩ = some (.int .u32 e.x.size) := hcw 7 _ rfl
    have f6 : wr.cell? ⟨b, o + k * 18 + 2 + 6, none⟩ = some (.string e.x.data) := hcw 8 _ rfl
    have HT := zz (show ∀ W, Calls Tryz.prog 37 #[.agg #[.int .u8 e.x.act, .string e.x.path, .string e.x.path2, .int .i64 e.x.fd, .int .i64 e.x.page, .int .u32 e.x.size, .string e.x.data]] W fun e w' => (∃ b : Bool, e = .returned (.bool b)) ∧ Below W.heap.size W w' from fun W => t_long20 e.x W)
    clear hx hc hcw hb
    go_wp2_with (go_at_call 37; (with_reducible refine (HT.out _).mono ?_); rintro e5 w2 ⟨⟨bb, rfl⟩, hb2⟩
                 have H2 := zz (ptrans HW.out hb2)
                 clear hb2
                 cases bb)
    · refine wp_region_st (fun _ W => Below w2.heap.size w2 W) (fun W W2 => Below W.heap.size W W2) (fun _ _ => True) [] (phi [isV (.int .i64 x), isV (.slice (some ⟨b, o, none⟩) n c), isV (.int .i64 (k : Int)), isV (.pointer (some ⟨b, o + k * 18, none⟩)), isV (.pointer (some ⟨b, o + k * 18 + 2, none⟩)), isV (.pointer (some ⟨b, o + k * 18 + 2 + 1, none⟩)), isV (.string e.x.path), isV (.int .i64 (e.x.path.size : Int)), isI, isV (.slice (some ⟨b, o, none⟩) n c), isV (.int .i64 (k : Int)), isV (.pointer (some ⟨b, o + k * 18, none⟩)), isV (.pointer (some ⟨b, o + k * 18 + 2, none⟩)), isV (.pointer (some ⟨b, o + k * 18 + 2 + 2, none⟩)), isV (.string e.x.path2), isV (.int .i64 (e.x.path2.size : Int)), isI, isV (.slice (some ⟨b, o, none⟩) n c), isV (.int .i64 (k : Int)), isV (.pointer (some ⟨b, o + k * 18, none⟩)), isV (.pointer (some ⟨b, o + k * 18 + 2, none⟩)), isV (.pointer (some ⟨b, o + k * 18 + 2 + 6, none⟩)), isV (.string e.x.data), isV (.int .i64 (e.x.data.size : Int)), isI, isV (.slice (some ⟨b, o, none⟩) n c), isV (.int .i64 (k : Int)), isV (.pointer (some ⟨b, o + k * 18, none⟩)), isV (.pointer (some ⟨b, o + k * 18 + 9, none⟩)), isV (.pointer (some ⟨b, o + k * 18 + 9 + 7, none⟩)), isV (.slice e.la e.ln e.lc), isV (.int .i64 (e.ln : Int)), isI, isV (.slice (some ⟨b, o, none⟩) n c), isV (.int .i64 (k : Int)), isV (.pointer (some ⟨b, o + k * 18, none⟩)), isV (.pointer (some ⟨b, o + k * 18 + 9, none⟩)), isV (.pointer (some ⟨b, o + k * 18 + 9 + 8, none⟩)), isV (.string e.dt), isV (.int .i64 (e.dt.size : Int)), isI, isI]) (by kernel_rfl) (by kernel_rfl) (by kernel_rfl) (by kernel_rfl) (by kernel_rfl) (below_drew _) (fun _ _ _ h hb => ptrans h hb) (fun _ _ _ => trivial) ?_ ?_ ?_
      · refine stays_phiR ?_
        simp only [List.forall_mem_cons]
        exact ⟨kv, kv, kv, kv, kv, kv, kv, kv, fun _ _ _ hh _ => hh, kv, kv, kv, kv, kv, kv, kv, fun _ _ _ hh _ => hh, kv, kv, kv, kv, kv, kv, kv, fun _ _ _ hh _ => hh, kv, kv, kv, kv, kv, kv, kv, fun _ _ _ hh _ => hh, kv, kv, kv, kv, kv, kv, kv, fun _ _ _ hh _ => hh, fun _ _ _ hh _ => hh, fun _ h => absurd h (by simp)⟩
      · refine ⟨?_, ?_, ?_, ?_, ?_, ?_, ?_, ?_, ?_, ?_, ?_, ?_, ?_, ?_, ?_, ?_, ?_, ?_, ?_, ?_, ?_, ?_, ?_, ?_, ?_, ?_, ?_, ?_, ?_, ?_, ?_, ?_, ?_, ?_, ?_, ?_, ?_, ?_, ?_, ?_, ?_, ?_, trivial⟩
        · refine opS_mk rfl rfl fun aa W2 nJ hJ hp hq K hK => ?_
          have e3 : aa.tmps[3]?.getD undef = .int .i64 x := hp 3 (by kernel_rfl)
          clear hp hq
          go_simp
          exact hK _ _ (Below.refl _ _) rfl
        · refine opS_mk rfl rfl fun aa W2 nJ hJ hp hq K hK => ?_
          have e0 : aa.tmps[0]?.getD undef = .slice (some ⟨b, o, none⟩) n c := hp 0 (by kernel_rfl)
          clear hp hq
          go_simp
          exact hK _ _ (Below.refl _ _) rfl
        · refine opS_mk rfl rfl fun aa W2 nJ hJ hp hq K hK => ?_
          have e4 : aa.tmps[4]?.getD undef = .int .i64 (k : Int) := hp 4 (by kernel_rfl)
          clear hp hq
          go_simp
          exact hK _ _ (Below.refl _ _) rfl
        · refine opS_mk rfl rfl fun aa W2 nJ hJ hp hq K hK => ?_
          have e22 : aa.tmps[22]?.getD undef = .slice (some ⟨b, o, none⟩) n c := hq 1 _ (by kernel_rfl) rfl
          have e23 : aa.tmps[23]?.getD undef = .int .i64 (k : Int) := hq 2 _ (by kernel_rfl) rfl
          clear hp hq
          go_simp
          exact hK _ _ (Below.refl _ _) rfl
        · refine opS_mk rfl rfl fun aa W2 nJ hJ hp hq K hK => ?_
          have e24 : aa.tmps[24]?.getD undef = .pointer (some ⟨b, o + k * 18, none⟩) := hq 3 _ (by kernel_rfl) rfl
          clear hp hq
          go_simp
          exact hK _ _ (Below.refl _ _) rfl
        · refine opS_mk rfl rfl fun aa W2 nJ hJ hp hq K hK => ?_
          have e25 : aa.tmps[25]?.getD undef = .pointer (some ⟨b, o + k * 18 + 2, none⟩) := hq 4 _ (by kernel_rfl) rfl
          clear hp hq
          go_simp
          exact hK _ _ (Below.refl _ _) rfl
        · refine opS_mk rfl rfl fun aa W2 nJ hJ hp hq K hK => ?_
          have e26 : aa.tmps[26]?.getD undef = .pointer (some ⟨b, o + k * 18 + 2 + 1, none⟩) := hq 5 _ (by kernel_rfl) rfl
          have hB : Below w2.heap.size w2 W2 := hJ
          have cc : W2.cell? ⟨b, o + k * 18 + 2 + 1, none⟩ = some (.string e.x.path) := HC.out W2 (ptrans H2.out hB) 3 _ rfl
          clear hp hq
          go_simp
          exact hK _ _ (Below.refl _ _) rfl
        · refine opS_mk rfl rfl fun aa W2 nJ hJ hp hq K hK => ?_
          have e27 : aa.tmps[27]?.getD undef = .string e.x.path := hq 6 _ (by kernel_rfl) rfl
          clear hp hq
          go_simp
          exact hK _ _ (Below.refl _ _) rfl
        · refine opS_mk rfl rfl fun aa W2 nJ hJ hp hq K hK => ?_
          have e21 : aa.tmps[21]?.getD undef = .int .i64 x := hq 0 _ (by kernel_rfl) rfl
          have e28 : aa.tmps[28]?.getD undef = .int .i64 (e.x.path.size : Int) := hq 7 _ (by kernel_rfl) rfl
          clear hp hq
          go_simp
          exact hK _ _ (Below.refl _ _) ⟨_, rfl⟩
        · refine opS_mk rfl rfl fun aa W2 nJ hJ hp hq K hK => ?_
          have e0 : aa.tmps[0]?.getD undef = .slice (some ⟨b, o, none⟩) n c := hp 0 (by kernel_rfl)
          clear hp hq
          go_simp
          exact hK _ _ (Below.refl _ _) rfl
        · refine opS_mk rfl rfl fun aa W2 nJ hJ hp hq K hK => ?_
          have e4 : aa.tmps[4]?.getD undef = .int .i64 (k : Int) := hp 4 (by kernel_rfl)
          clear hp hq
          go_simp
          exact hK _ _ (Below.refl _ _) rfl
        · refine opS_mk rfl rfl fun aa W2 nJ hJ hp hq K hK => ?_
          have e30 : aa.tmps[30]?.getD undef = .slice (some ⟨b, o, none⟩) n c := hq 9 _ (by kernel_rfl) rfl
          have e31 : aa.tmps[31]?.getD undef = .int .i64 (k : Int) := hq 10 _ (by kernel_rfl) rfl
          clear hp hq
          go_simp
          exact hK _ _ (Below.refl _ _) rfl
        · refine opS_mk rfl rfl fun aa W2 nJ hJ hp hq K hK => ?_
          have e32 : aa.tmps[32]?.getD undef = .pointer (some ⟨b, o + k * 18, none⟩) := hq 11 _ (by kernel_rfl) rfl
          clear hp hq
          go_simp
          exact hK _ _ (Below.refl _ _) rfl
        · refine opS_mk rfl rfl fun aa W2 nJ hJ hp hq K hK => ?_
          have e33 : aa.tmps[33]?.getD undef = .pointer (some ⟨b, o + k * 18 + 2, none⟩) := hq 12 _ (by kernel_rfl) rfl
          clear hp hq
          go_simp
          exact hK _ _ (Below.refl _ _) rfl
        · refine opS_mk rfl rfl fun aa W2 nJ hJ hp hq K hK => ?_
          have e34 : aa.tmps[34]?.getD undef = .pointer (some ⟨b, o + k * 18 + 2 + 2, none⟩) := hq 13 _ (by kernel_rfl) rfl
          have hB : Below w2.heap.size w2 W2 := hJ
          have cc : W2.cell? ⟨b, o + k * 18 + 2 + 2, none⟩ = some (.string e.x.path2) := HC.out W2 (ptrans H2.out hB) 4 _ rfl
          clear hp hq
          go_simp
          exact hK _ _ (Below.refl _ _) rfl
        · refine opS_mk rfl rfl fun aa W2 nJ hJ hp hq K hK => ?_
          have e35 : aa.tmps[35]?.getD undef = .string e.x.path2 := hq 14 _ (by kernel_rfl) rfl
          clear hp hq
          go_simp
          exact hK _ _ (Below.refl _ _) rfl
        · refine opS_mk rfl rfl fun aa W2 nJ hJ hp hq K hK => ?_
          obtain ⟨y29, e29⟩ : isI (aa.tmps[29]?.getD undef) W2 := hq 8 _ (by kernel_rfl) rfl
          have e36 : aa.tmps[36]?.getD undef = .int .i64 (e.x.path2.size : Int) := hq 15 _ (by kernel_rfl) rfl
          clear hp hq
          go_simp
          exact hK _ _ (Below.refl _ _) ⟨_, rfl⟩
        · refine opS_mk rfl rfl fun aa W2 nJ hJ hp hq K hK => ?_
          have e0 : aa.tmps[0]?.getD undef = .slice (some ⟨b, o, none⟩) n c := hp 0 (by kernel_rfl)
          clear hp hq
          go_simp
          exact hK _ _ (Below.refl _ _) rfl
        · refine opS_mk rfl rfl fun aa W2 nJ hJ hp hq K hK => ?_
          have e4 : aa.tmps[4]?.getD undef = .int .i64 (k : Int) := hp 4 (by kernel_rfl)
          clear hp hq
          go_simp
          exact hK _ _ (Below.refl _ _) rfl
        · refine opS_mk rfl rfl fun aa W2 nJ hJ hp hq K hK => ?_
          have e38 : aa.tmps[38]?.getD undef = .slice (some ⟨b, o, none⟩) n c := hq 17 _ (by kernel_rfl) rfl
          have e39 : aa.tmps[39]?.getD undef = .int .i64 (k : Int) := hq 18 _ (by kernel_rfl) rfl
          clear hp hq
          go_simp
          exact hK _ _ (Below.refl _ _) rfl
        · refine opS_mk rfl rfl fun aa W2 nJ hJ hp hq K hK => ?_
          have e40 : aa.tmps[40]?.getD undef = .pointer (some ⟨b, o + k * 18, none⟩) := hq 19 _ (by kernel_rfl) rfl
          clear hp hq
          go_simp
          exact hK _ _ (Below.refl _ _) rfl
        · refine opS_mk rfl rfl fun aa W2 nJ hJ hp hq K hK => ?_
          have e41 : aa.tmps[41]?.getD undef = .pointer (some ⟨b, o + k * 18 + 2, none⟩) := hq 20 _ (by kernel_rfl) rfl
          clear hp hq
          go_simp
          exact hK _ _ (Below.refl _ _) rfl
        · refine opS_mk rfl rfl fun aa W2 nJ hJ hp hq K hK => ?_
          have e42 : aa.tmps[42]?.getD undef = .pointer (some ⟨b, o + k * 18 + 2 + 6, none⟩) := hq 21 _ (by kernel_rfl) rfl
          have hB : Below w2.heap.size w2 W2 := hJ
          have cc : W2.cell? ⟨b, o + k * 18 + 2 + 6, none⟩ = some (.string e.x.data) := HC.out W2 (ptrans H2.out hB) 8 _ rfl
          clear hp hq
          go_simp
          exact hK _ _ (Below.refl _ _) rfl
        · refine opS_mk rfl rfl fun aa W2 nJ hJ hp hq K hK => ?_
          have e43 : aa.tmps[43]?.getD undef = .string e.x.data := hq 22 _ (by kernel_rfl) rfl
          clear hp hq
          go_simp
          exact hK _ _ (Below.refl _ _) rfl
        · refine opS_mk rfl rfl fun aa W2 nJ hJ hp hq K hK => ?_
          obtain ⟨y37, e37⟩ : isI (aa.tmps[37]?.getD undef) W2 := hq 16 _ (by kernel_rfl) rfl
          have e44 : aa.tmps[44]?.getD undef = .int .i64 (e.x.data.size : Int) := hq 23 _ (by kernel_rfl) rfl
          clear hp hq
          go_simp
          exact hK _ _ (Below.refl _ _) ⟨_, rfl⟩
        · refine opS_mk rfl rfl fun aa W2 nJ hJ hp hq K hK => ?_
          have e0 : aa.tmps[0]?.getD undef = .slice (some ⟨b, o, none⟩) n c := hp 0 (by kernel_rfl)
          clear hp hq
          go_simp
          exact hK _ _ (Below.refl _ _) rfl
        · refine opS_mk rfl rfl fun aa W2 nJ hJ hp hq K hK => ?_
          have e4 : aa.tmps[4]?.getD undef = .int .i64 (k : Int) := hp 4 (by kernel_rfl)
          clear hp hq
          go_simp
          exact hK _ _ (Below.refl _ _) rfl
        · refine opS_mk rfl rfl fun aa W2 nJ hJ hp hq K hK => ?_
          have e46 : aa.tmps[46]?.getD undef = .slice (some ⟨b, o, none⟩) n c := hq 25 _ (by kernel_rfl) rfl
          have e47 : aa.tmps[47]?.getD undef = .int .i64 (k : Int) := hq 26 _ (by kernel_rfl) rfl
          clear hp hq
          go_simp
          exact hK _ _ (Below.refl _ _) rfl
        · refine opS_mk rfl rfl fun aa W2 nJ hJ hp hq K hK => ?_
          have e48 : aa.tmps[48]?.getD undef = .pointer (some ⟨b, o + k * 18, none⟩) := hq 27 _ (by kernel_rfl) rfl
          clear hp hq
          go_simp
          exact hK _ _ (Below.refl _ _) rfl
        · refine opS_mk rfl rfl fun aa W2 nJ hJ hp hq K hK => ?_
          have e49 : aa.tmps[49]?.getD undef = .pointer (some ⟨b, o + k * 18 + 9, none⟩) := hq 28 _ (by kernel_rfl) rfl
          clear hp hq
          go_simp
          exact hK _ _ (Below.refl _ _) rfl
        · refine opS_mk rfl rfl fun aa W2 nJ hJ hp hq K hK => ?_
          have e50 : aa.tmps[50]?.getD undef = .pointer (some ⟨b, o + k * 18 + 9 + 7, none⟩) := hq 29 _ (by kernel_rfl) rfl
          have hB : Below w2.heap.size w2 W2 := hJ
          have cc : W2.cell? ⟨b, o + k * 18 + 9 + 7, none⟩ = some (.slice e.la e.ln e.lc) := HC.out W2 (ptrans H2.out hB) 16 _ rfl
          clear hp hq
          go_simp
          exact hK _ _ (Below.refl _ _) rfl
        · refine opS_mk rfl rfl fun aa W2 nJ hJ hp hq K hK => ?_
          have e51 : aa.tmps[51]?.getD undef = .slice e.la e.ln e.lc := hq 30 _ (by kernel_rfl) rfl
          clear hp hq
          go_simp
          exact hK _ _ (Below.refl _ _) rfl
        · refine opS_mk rfl rfl fun aa W2 nJ hJ hp hq K hK => ?_
          obtain ⟨y45, e45⟩ : isI (aa.tmps[45]?.getD undef) W2 := hq 24 _ (by kernel_rfl) rfl
          have e52 : aa.tmps[52]?.getD undef = .int .i64 (e.ln : Int) := hq 31 _ (by kernel_rfl) rfl
          clear hp hq
          go_simp
          exact hK _ _ (Below.refl _ _) ⟨_, rfl⟩
        · refine opS_mk rfl rfl fun aa W2 nJ hJ hp hq K hK => ?_
          have e0 : aa.tmps[0]?.getD undef = .slice (some ⟨b, o, none⟩) n c := hp 0 (by kernel_rfl)
          clear hp hq
          go_simp
          exact hK _ _ (Below.refl _ _) rfl
        · refine opS_mk rfl rfl fun aa W2 nJ hJ hp hq K hK => ?_
          have e4 : aa.tmps[4]?.getD undef = .int .i64 (k : Int) := hp 4 (by kernel_rfl)
          clear hp hq
          go_simp
          exact hK _ _ (Below.refl _ _) rfl
        · refine opS_mk rfl rfl fun aa W2 nJ hJ hp hq K hK => ?_
          have e54 : aa.tmps[54]?.getD undef = .slice (some ⟨b, o, none⟩) n c := hq 33 _ (by kernel_rfl) rfl
          have e55 : aa.tmps[55]?.getD undef = .int .i64 (k : Int) := hq 34 _ (by kernel_rfl) rfl
          clear hp hq
          go_simp
          exact hK _ _ (Below.refl _ _) rfl
        · refine opS_mk rfl rfl fun aa W2 nJ hJ hp hq K hK => ?_
          have e56 : aa.tmps[56]?.getD undef = .pointer (some ⟨b, o + k * 18, none⟩) := hq 35 _ (by kernel_rfl) rfl
          clear hp hq
          go_simp
          exact hK _ _ (Below.refl _ _) rfl
        · refine opS_mk rfl rfl fun aa W2 nJ hJ hp hq K hK => ?_
          have e57 : aa.tmps[57]?.getD undef = .pointer (some ⟨b, o + k * 18 + 9, none⟩) := hq 36 _ (by kernel_rfl) rfl
          clear hp hq
          go_simp
          exact hK _ _ (Below.refl _ _) rfl
        · refine opS_mk rfl rfl fun aa W2 nJ hJ hp hq K hK => ?_
          have e58 : aa.tmps[58]?.getD undef = .pointer (some ⟨b, o + k * 18 + 9 + 8, none⟩) := hq 37 _ (by kernel_rfl) rfl
          have hB : Below w2.heap.size w2 W2 := hJ
          have cc : W2.cell? ⟨b, o + k * 18 + 9 + 8, none⟩ = some (.string e.dt) := HC.out W2 (ptrans H2.out hB) 17 _ rfl
          clear hp hq
          go_simp
          exact hK _ _ (Below.refl _ _) rfl
        · refine opS_mk rfl rfl fun aa W2 nJ hJ hp hq K hK => ?_
          have e59 : aa.tmps[59]?.getD undef = .string e.dt := hq 38 _ (by kernel_rfl) rfl
          clear hp hq
          go_simp
          exact hK _ _ (Below.refl _ _) rfl
        · refine opS_mk rfl rfl fun aa W2 nJ hJ hp hq K hK => ?_
          obtain ⟨y53, e53⟩ : isI (aa.tmps[53]?.getD undef) W2 := hq 32 _ (by kernel_rfl) rfl
          have e60 : aa.tmps[60]?.getD undef = .int .i64 (e.dt.size : Int) := hq 39 _ (by kernel_rfl) rfl
          clear hp hq
          go_simp
          exact hK _ _ (Below.refl _ _) ⟨_, rfl⟩
        · refine opS_mk rfl rfl fun aa W2 nJ hJ hp hq K hK => ?_
          obtain ⟨y61, e61⟩ : isI (aa.tmps[61]?.getD undef) W2 := hq 40 _ (by kernel_rfl) rfl
          clear hp hq
          go_simp
          exact hK _ _ (Below.refl _ _) ⟨_, rfl⟩
      · intro vs W9 hJ9 hv9 _
        obtain ⟨z, v41⟩ : isI (vs 41) W9 := hv9 41 _ rfl rfl
        have H3 := zz (ptrans H2.out hJ9)
        clear hJ9 hv9
        simp only [putAll, Act.put, List.setIfInBounds_toArray, List.set_cons_succ, List.set_cons_zero, Nat.zero_add, Nat.reduceAdd, v41]
        go_wp2
        exact ⟨⟨k + 1, z, rfl, by go_num, he, he2, H3⟩, by simp only [intOf]; omega⟩
    · go_ret
      exact Long31P.of (fun h => by cases h) H2.out
  · by_cases hin : k < n
    · have h300 : ¬ k < 300 := fun e => he ⟨hin, e⟩
      have h150 : (150 : Int) < n := by omega
      go_wp2
      go_ret
      exact Long31P.of (fun h => by first | cases h | (simp at h; omega)) HW.out
    · by_cases h150 : (150 : Int) < n
      · go_wp2
        go_ret
        exact Long31P.of (fun h => by first | cases h | (simp at h; omega)) HW.out
      · go_wp2
        go_ret
        exact Long31P.of (fun _ => by omega) HW.out
end
end Go.Proofs.YtpcnolkdnmolgaaGreatDoor
