/- fair.Fair. -/
import Derived.Test.YtmnombfgahmfkaaGreatDoorOD
import Derived.Laws.EntriesVeiled
import Derived.Deep.RegionHeld3
namespace Go.Proofs.YtmnombfgahmfkaaGreatDoor
open Go.RowKit Go.Maps

attribute [local go_sem] Oper.semAt_some

def isF (c : Int) (L : List (List Int)) : Bool := L.foldl (fun b p => hasF c p && b) true
theorem isF_snoc (c : Int) (L : List (List Int)) (p : List Int) : isF c (L ++ [p]) = (hasF c p && isF c L) := by unfold isF; rw [List.foldl_append]; rfl
theorem isF_range (c : Int) (w : Nat) (l : List Int) : ∀ k, isF c ((List.range k).map (partF w l)) = fairB c w l k
  | 0 => rfl
  | k + 1 => by rw [List.range_succ, List.map_append, List.map_singleton, isF_snoc, isF_range c w l k]; rfl
theorem seqP (Bp Bw wd : Nat) (w0 : World) (l : List Int) (v : Value) (w : World) (hwd : 1 ≤ wd) (hwd2 : wd ≤ 1000) (hl : l.length ≤ 100000) (hBne : Bp ≠ Bw)
    (hbw : w.heap[Bw]? = some (.cells #[.int .i64 wd] 3 (0, 0))) (hbp : w.heap[Bp]? = some (.cells #[v] 22 (0, 0))) (hv : LeftAt w0 l 0 v) :
    SeqB Fence.wide 6 Tryz.prog 16 #[.pointer (some ⟨Bp, 0, none⟩), .pointer (some ⟨Bw, 0, none⟩)] (fun x : PartV w0 wd => argP x) (KpB Bp Bw) Bp
      (fun ys => ys.map (fun x => x.1.2) = (List.range (l.length / wd)).map (partF wd l)) (fun _ => True) 100001 w := by
  intro y J Jx W hW hJ _ hY h0
  have h1 := (hW.block Bw (Array.getElem?_eq_some_iff.1 hbw).1).trans hbw
  have h2 := (hW.block Bp (Array.getElem?_eq_some_iff.1 hbp).1).trans hbp
  refine (iterP y Bp Bw wd w0 l J Jx hwd hwd2 hl hBne hJ hY W h1 v h2 hv h0).mono ?_
  rintro e W' ⟨g1, g2 | ⟨pre, g3⟩⟩
  · exact ⟨g1, .inl g2⟩
  · exact ⟨g1, .inr ⟨pre, trivial, g3⟩⟩
/-- The walk's variables. -/
structure FairS (w : World) (c k : Int) (f : Bool) (W : World) : Prop where
  bc : W.heap[w.heap.size]? = some (.cells #[.int .i64 c] 3 (0, 0))
  bn : W.heap[w.heap.size + 1]? = some (.cells #[.int .i64 k] 3 (0, 0))
  bi : W.heap[w.heap.size + 1 + 1]? = some (.cells #[.bool f] 4 (0, 0))
  bh : W.heap[w.heap.size + 1 + 1 + 1]? = some (.cells #[.func (.func 11) #[] #[.pointer (some ⟨w.heap.size, 0, none⟩)]] 36 (0, 0))
  mem : Below w.heap.size w W
  sz : w.heap.size + 6 ≤ W.heap.size
theorem FairS.keep {w A C : World} {c k : Int} {f : Bool} {row : Option Nat} (h : FairS w c k f A) (hg : A.grownBy C row) (hr : ∀ r, row = some r → w.heap.size + 4 ≤ r) : FairS w c k f C := by
  have lt : ∀ {j : Nat} {o : Obj}, A.heap[j]? = some o → j < w.heap.size + 4 → C.heap[j]? = some o := fun {j o} ho hj =>
    (hg.block j (Array.getElem?_eq_some_iff.1 ho).1 (fun e => by have := hr j e.symm; omega)).trans ho
  refine ⟨lt h.bc (by omega), lt h.bn (by omega), lt h.bi (by omega), lt h.bh (by omega), h.mem.trans ⟨hg.os, hg.tape, hg.output, hg.size, fun b hb => hg.block b (Nat.lt_of_lt_of_le hb h.mem.size) fun e => ?_⟩, Nat.le_trans h.sz hg.size⟩
  have := hr b e.symm
  omega
theorem FairS.below {w A C : World} {c k : Int} {f : Bool} (h : FairS w c k f A) (hb : Below A.heap.size A C) : FairS w c k f C :=
  ⟨(hb.block _ (Array.getElem?_eq_some_iff.1 h.bc).1).trans h.bc, (hb.block _ (Array.getElem?_eq_some_iff.1 h.bn).1).trans h.bn, (hb.block _ (Array.getElem?_eq_some_iff.1 h.bi).1).trans h.bi, (hb.block _ (Array.getElem?_eq_some_iff.1 h.bh).1).trans h.bh, h.mem.trans ⟨hb.os, hb.tape, hb.output, hb.size, fun b h1 => hb.block b (Nat.lt_of_lt_of_le h1 h.mem.size)⟩, Nat.le_trans h.sz hb.size⟩
theorem FairS.turn {w A : World} {c k : Int} {f : Bool} (h : FairS w c k f A) (k' : Int) (f' : Bool) : FairS w c k' f' ((A.setCell ⟨w.heap.size + 1 + 1, 0, none⟩ (.bool f')).setCell ⟨w.heap.size + 1, 0, none⟩ (.int .i64 k')) := by
  have e1 : ∀ j, j ≠ w.heap.size + 1 + 1 → (A.setCell ⟨w.heap.size + 1 + 1, 0, none⟩ (.bool f')).heap[j]? = A.heap[j]? := fun j hj => Below.heap_setCell _ _ _ j hj
  have e2 : ∀ j, j ≠ w.heap.size + 1 → ((A.setCell ⟨w.heap.size + 1 + 1, 0, none⟩ (.bool f')).setCell ⟨w.heap.size + 1, 0, none⟩ (.int .i64 k')).heap[j]? = (A.setCell ⟨w.heap.size + 1 + 1, 0, none⟩ (.bool f')).heap[j]? := fun j hj => Below.heap_setCell _ _ _ j hj
  refine ⟨?_, ?_, ?_, ?_, ?_, by simpa [World.setCell] using h.sz⟩
  · rw [e2 _ (by omega), e1 _ (by omega)]; exact h.bc
  · exact oheap_set _ _ _ _ _ ((e1 _ (by omega)).trans h.bn)
  · rw [e2 _ (by omega)]; exact oheap_set _ _ _ _ _ h.bi
  · rw [e2 _ (by omega), e1 _ (by omega)]; exact h.bh
  · exact (h.mem.setCell (p := ⟨w.heap.size + 1 + 1, 0, none⟩) (by show w.heap.size ≤ w.heap.size + 1 + 1; omega) _).setCell (p := ⟨w.heap.size + 1, 0, none⟩) (by show w.heap.size ≤ w.heap.size + 1; omega) _
/-- Behind some parts. -/
def FairI (w : World) (wd : Nat) (c : Int) (pre : List (PartV w wd)) (W : World) : Prop := FairS w c (pre.length : Int) (isF c (pre.map fun x => x.1.2)) W
theorem FairI.keep {w A C : World} {wd : Nat} {c : Int} {pre : List (PartV w wd)} {row : Option Nat} (h : FairI w wd c pre A) (hg : A.grownBy C row) (hr : ∀ r, row = some r → w.heap.size + 4 ≤ r) : FairI w wd c pre C := FairS.keep h hg hr
theorem FairI.snoc {w A : World} {wd : Nat} {c : Int} {pre : List (PartV w wd)} {x : PartV w wd} (h : FairS w c ((pre.length : Int) + 1) (hasF c x.1.2 && isF c (pre.map fun x => x.1.2)) A) : FairI w wd c (pre ++ [x]) A := by
  unfold FairI
  rw [List.map_append, List.map_singleton, isF_snoc, List.length_append]
  exact h
theorem FairS.drew {w A : World} {c k : Int} {f : Bool} (h : FairS w c k f A) : FairS w c k f A.drew := ⟨h.bc, h.bn, h.bi, h.bh, ⟨h.mem.os, h.mem.tape, h.mem.output, h.mem.size, h.mem.block⟩, h.sz⟩
theorem FairS.setN {w A : World} {c k : Int} {f : Bool} (h : FairS w c k f A) : FairS w c k f (A.setCell ⟨w.heap.size + 1, 0, none⟩ (.int .i64 k)) := by
  have e2 : ∀ j, j ≠ w.heap.size + 1 → (A.setCell ⟨w.heap.size + 1, 0, none⟩ (.int .i64 k)).heap[j]? = A.heap[j]? := fun j hj => Below.heap_setCell _ _ _ j hj
  exact ⟨(e2 _ (by omega)).trans h.bc, oheap_set _ _ _ _ _ h.bn, (e2 _ (by omega)).trans h.bi, (e2 _ (by omega)).trans h.bh, h.mem.setCell (p := ⟨w.heap.size + 1, 0, none⟩) (by show w.heap.size ≤ w.heap.size + 1; omega) _, by simpa [World.setCell] using h.sz⟩
theorem FairS.setI {w A : World} {c k : Int} {f : Bool} (h : FairS w c k f A) : FairS w c k f (A.setCell ⟨w.heap.size + 1 + 1, 0, none⟩ (.bool f)) := by
  have e2 : ∀ j, j ≠ w.heap.size + 1 + 1 → (A.setCell ⟨w.heap.size + 1 + 1, 0, none⟩ (.bool f)).heap[j]? = A.heap[j]? := fun j hj => Below.heap_setCell _ _ _ j hj
  exact ⟨(e2 _ (by omega)).trans h.bc, (e2 _ (by omega)).trans h.bn, oheap_set _ _ _ _ _ h.bi, (e2 _ (by omega)).trans h.bh, h.mem.setCell (p := ⟨w.heap.size + 1 + 1, 0, none⟩) (by show w.heap.size ≤ w.heap.size + 1 + 1; omega) _, by simpa [World.setCell] using h.sz⟩
theorem FairS.two {w A : World} {c k : Int} {f : Bool} (h : FairS w c k f A) : A.cell? ⟨w.heap.size + 1, 0, none⟩ = some (.int .i64 k) ∧ A.cell? ⟨w.heap.size + 1 + 1, 0, none⟩ = some (.bool f) := ⟨by simp [World.cell?, h.bn], by simp [World.cell?, h.bi]⟩
theorem kp_turn {w A C : World} (hs : w.heap.size + 6 ≤ A.heap.size) (hb : Below A.heap.size A C) (v1 v2 : Value) :
    KpB (w.heap.size + 1 + 1 + 1 + 1 + 1) (w.heap.size + 1 + 1 + 1 + 1) A ((C.setCell ⟨w.heap.size + 1 + 1, 0, none⟩ v1).setCell ⟨w.heap.size + 1, 0, none⟩ v2) := by
  have e : ∀ j, j ≠ w.heap.size + 1 + 1 → j ≠ w.heap.size + 1 → j < A.heap.size → ((C.setCell ⟨w.heap.size + 1 + 1, 0, none⟩ v1).setCell ⟨w.heap.size + 1, 0, none⟩ v2).heap[j]? = A.heap[j]? := fun j h1 h2 h3 =>
    ((Below.heap_setCell _ _ _ j h2).trans (Below.heap_setCell _ _ _ j h1)).trans (hb.block j h3)
  exact ⟨e _ (by omega) (by omega) (by omega), e _ (by omega) (by omega) (by omega)⟩
theorem keeps_of_below {B : Nat} {A C : World} (h : Below A.heap.size A C) : KeepsFrom B A C := ⟨h.size, fun k o _ hk _ => (h.block k (Array.getElem?_eq_some_iff.1 hk).1).trans hk⟩
theorem heap_up {w : World} {j : Nat} {o : Obj} (p : Obj) (h : w.heap[j]? = some o) : (w.alloc p).heap[j]? = some o := (Below.heap_alloc _ _ _ (Array.getElem?_eq_some_iff.1 h).1).trans h
theorem six_blocks (w : World) (o1 o2 o3 o4 o5 o6 : Obj) : ∃ W, ((((((w.alloc o1).alloc o2).alloc o3).alloc o4).alloc o5).alloc o6) = W ∧ W.heap[w.heap.size]? = some o1 ∧ W.heap[w.heap.size + 1]? = some o2 ∧ W.heap[w.heap.size + 1 + 1]? = some o3 ∧
    W.heap[w.heap.size + 1 + 1 + 1]? = some o4 ∧ W.heap[w.heap.size + 1 + 1 + 1 + 1]? = some o5 ∧ W.heap[w.heap.size + 1 + 1 + 1 + 1 + 1]? = some o6 ∧ W.heap.size = w.heap.size + 6 ∧ Below w.heap.size w W := by
  have a1 := World.alloc_heap_new w o1
  have a2 := World.alloc_heap_new (w.alloc o1) o2
  have a3 := World.alloc_heap_new ((w.alloc o1).alloc o2) o3
  have a4 := World.alloc_heap_new (((w.alloc o1).alloc o2).alloc o3) o4
  have a5 := World.alloc_heap_new ((((w.alloc o1).alloc o2).alloc o3).alloc o4) o5
  have a6 := World.alloc_heap_new (((((w.alloc o1).alloc o2).alloc o3).alloc o4).alloc o5) o6
  simp only [World.size_alloc] at a1 a2 a3 a4 a5 a6
  refine ⟨_, rfl, heap_up _ (heap_up _ (heap_up _ (heap_up _ (heap_up _ a1)))), heap_up _ (heap_up _ (heap_up _ (heap_up _ a2))), heap_up _ (heap_up _ (heap_up _ a3)), heap_up _ (heap_up _ a4), heap_up _ a5, a6, by simp only [World.size_alloc], ?_⟩
  exact ((((((Below.refl _ w).alloc (Nat.le_refl _) _).alloc (by simp only [World.size_alloc]; omega) _).alloc (by simp only [World.size_alloc]; omega) _).alloc (by simp only [World.size_alloc]; omega) _).alloc (by simp only [World.size_alloc]; omega) _).alloc (by simp only [World.size_alloc]; omega) _
theorem U8At.belowB' {w w' : World} {A : Option Addr} {l : List Int} (h : U8At w A l) (hb : Below w.heap.size w w') : U8At w' A l := h.below hb
set_option maxRecDepth 100000 in
set_option maxHeartbeats 2000000 in
theorem t_fair (c : Int) (wd : Nat) (A : Option Addr) (n cp : Nat) (l : List Int) (w : World) (hc : 1 ≤ c ∧ c ≤ 8) (hwd : c ≤ wd) (hwd2 : wd ≤ 1000) (hl : U8At w A l) (hn : l.length = n) (hn2 : n ≤ 100000) (hcp : n ≤ cp) :
    CallsIn Fence.wide 7 Tryz.prog 5 #[.int .i64 c, .int .i64 wd, .slice A n cp] w fun e W' => e = .returned (.tuple #[.int .i64 (fairP c wd l).1, .bool (fairP c wd l).2]) ∧ Below w.heap.size w W' := by
  obtain ⟨c1, c2⟩ := hc
  refine callsIn_of_wp_marks Tryz.func5 rfl trivial ?_ rfl
  simp only [Tryz.ntmps5, List.size_toArray, List.length_cons, List.length_nil, Nat.reduceAdd, Nat.reduceSub, Array.replicate_succ, Array.replicate_zero, List.push_toArray, List.append_toArray, List.nil_append, List.cons_append]
  have hlt : ¬ (wd : Int) < c := by omega
  have hin : decide (1 ≤ c ∧ c ≤ 8) = true := decide_eq_true ⟨c1, c2⟩
  gi_wp2_with (first
    | (refine ⟨trivial, ?_⟩; gi_at_call 10; refine (callsIn_wide.2 (t_in _ _ _ _)).mono ?_; rintro e w' ⟨rfl, rfl⟩; rw [hin])
    | (refine ⟨trivial, ?_⟩; gi_at_call 12; refine (callsIn_wide.2 (callsIn_wide.1 (t_parts _ _ _ _ _))).mono ?_; rintro e w' ⟨rfl, rfl⟩))
  obtain ⟨W0, hW0, q1, q2, q3, q4, hbw, hbp, hsz, hB0⟩ := six_blocks w (.cells #[.int .i64 c] 3) (.cells #[.int .i64 0] 3) (.cells #[.bool true] 4) (.cells #[.func (.func 11) #[] #[.pointer (some ⟨w.heap.size, 0, none⟩)]] 36) (.cells #[.int .i64 wd] 3) (.cells #[.slice A n cp] 22)
  have S0 : FairS w c 0 true W0 := ⟨q1, q2, q3, q4, hB0, by omega⟩
  rw [hW0]
  clear hW0 q1 q2 q3 q4
  have HL := Lib.hid hl
  have HN := Lib.hid hn
  have hleft : LeftAt w l 0 (.slice A n cp) := ⟨A, cp, by rw [Nat.sub_zero, HN.out], by rw [List.drop_zero]; exact HL.out, by rw [Nat.sub_zero, HN.out]; exact hcp⟩
  have HC := Lib.hid (show 1 ≤ c ∧ c ≤ 8 from ⟨c1, c2⟩)
  clear hl hn
  refine wpIn_rangeB (α := PartV w wd) rfl (by omega) (gf := 16) (lb := #[.pointer (some ⟨w.heap.size + 1 + 1 + 1 + 1 + 1, 0, none⟩), .pointer (some ⟨w.heap.size + 1 + 1 + 1 + 1, 0, none⟩)]) rfl trivial (enters_of Tryz.func16 (by kernel_rfl) rfl)
    (Bp := w.heap.size + 1 + 1 + 1 + 1 + 1) (by omega) (seqP _ _ wd w l _ W0 (by omega) hwd2 (by rw [HN.out]; exact hn2) (by omega) hbw hbp hleft)
    (fun h1 h2 => ⟨h2.1.trans h1.1, h2.2.trans h1.2⟩) (fun W j o hj _ => ⟨World.putObj_heap_other (by omega), World.putObj_heap_other (by omega)⟩) (fun _ => rfl)
    (FairI w wd c) (fun _ _ _ => False)
    (fun s X Y row hs hg hr => hs.keep hg (fun r e => by have := (hr r e).1; omega)) (fun _ _ _ _ _ h _ _ => h) (fun s X Y hs hg => hs.keep hg (fun r e => by injection e with e; omega)) (fun _ _ _ _ h _ => h) S0
    (fun x a' W => a' = { tmps := #[.int .i64 c, .int .i64 wd, .slice A n cp, .pointer (some ⟨w.heap.size, 0, none⟩), undef, undef, .pointer (some ⟨w.heap.size + 1, 0, none⟩), .pointer (some ⟨w.heap.size + 1 + 1, 0, none⟩), .pointer (some ⟨w.heap.size + 1 + 1 + 1, 0, none⟩), .slice x.1.1.1 wd x.1.1.2, .int .i64 c, .bool true, .bool false, .bool false, .int .i64 wd, .int .i64 c, .bool (decide ((wd : Int) < c)), .bool (decide ((wd : Int) < c)), .func (.func 11) #[] #[.pointer (some ⟨w.heap.size, 0, none⟩)], .int .i64 wd, .slice A n cp, .func (.func 16) #[] #[.pointer (some ⟨w.heap.size + 1 + 1 + 1 + 1 + 1, 0, none⟩), .pointer (some ⟨w.heap.size + 1 + 1 + 1 + 1, 0, none⟩)], .slice x.1.1.1 wd x.1.1.2, undef, undef, undef, undef, undef, undef, undef, undef, undef, undef], defers := [] })
    (fun x a' _ X Y row hs _ _ => hs)
    ?assign ?body ?done ?stop
  case assign =>
    rintro y pre x W K hS hK
    unfold argP
    gi_wp2
    exact hK _ _ (KeepsFrom.refl _ _) ⟨rfl, rfl⟩ hS rfl
  case body =>
    rintro y pre x a' W hy hS rfl hlen
    dsimp only
    have hS' : FairS w c (pre.length : Int) (isF c (pre.map fun x => x.1.2)) W := hS
    have hc1 : W.cell? ⟨w.heap.size, 0, none⟩ = some (.int .i64 c) := by simp [World.cell?, hS'.bc]
    have hc4 : W.cell? ⟨w.heap.size + 1 + 1 + 1, 0, none⟩ = some (.func (.func 11) #[] #[.pointer (some ⟨w.heap.size, 0, none⟩)]) := by simp [World.cell?, hS'.bh]
    have hx1 := x.2.1
    have hx2 := x.2.2.1
    have hsn := Lib.hid (@FairI.snoc w · wd c pre x)
    obtain ⟨xA, hxA⟩ : ∃ a, x.1.1.1 = a := ⟨_, rfl⟩
    obtain ⟨xc, hxc⟩ : ∃ a, x.1.1.2 = a := ⟨_, rfl⟩
    obtain ⟨xl, hxl⟩ : ∃ a, x.1.2 = a := ⟨_, rfl⟩
    rw [hxA, hxl] at hx1
    rw [hxl] at hx2
    rw [hxA, hxc]
    have hU := Lib.hid (hx1.belowB' hS'.mem)
    have HX2 := Lib.hid hx2
    have HXL := Lib.hid hxl
    have HS := Lib.hid hS'
    obtain ⟨kk, hkk⟩ : ∃ kk, kk = pre.length := ⟨_, rfl⟩
    obtain ⟨ff, hff⟩ : ∃ ff, ff = isF c (pre.map fun x => x.1.2) := ⟨_, rfl⟩
    clear hx1 hx2 hS hS' hxA hxc hxl
    gi_wp2_with (refine ⟨trivial, ?_⟩; gi_at_call 11; refine (show CallsIn (Fence.wide.inRound y) _ _ _ _ _ _ from (callsIn_wide.2 (t_has w.heap.size c xA wd xc xl W HC.out hU.out HX2.out (by omega) hc1) : CallsIn Fence.wide _ _ _ _ _ _)).mono ?_; rintro e W3 ⟨rfl, hb3⟩
                 have S3 := HS.out.below hb3
                 have k1 : W3.cell? ⟨w.heap.size + 1, 0, none⟩ = some (.int .i64 (pre.length : Int)) := by simp [World.cell?, S3.bn]
                 have k2 : W3.cell? ⟨w.heap.size + 1 + 1, 0, none⟩ = some (.bool (isF c (pre.map fun x => x.1.2))) := by simp [World.cell?, S3.bi]
                 have k3 : W3.frozen? ⟨w.heap.size + 1, 0, none⟩ = false := by simp [World.frozen?, S3.bn]
                 have k4 : W3.frozen? ⟨w.heap.size + 1 + 1, 0, none⟩ = false := by simp [World.frozen?, S3.bi]
                 rw [← hkk] at k1
                 rw [← hff] at k2
                 have HS3 := Lib.hid S3
                 have HB3 := Lib.hid hb3
                 clear S3 hb3)
    · rename_i hh
      have hS3 := HS3.out
      have ht := hS3.turn ((pre.length : Int) + 1) (isF c (pre.map fun x => x.1.2))
      refine ⟨((keeps_of_below HB3.out).trans ((KeepsOthers.setCell _ _ _).from _)).trans ((KeepsOthers.setCell _ _ _).from _), kp_turn HS.out.sz HB3.out _ _, hsn.out _ ?_⟩
      rw [HXL.out, hh]
      exact ht
    · rename_i hh
      have hh' : hasF c xl = false := by simpa using hh
      have hS3 := HS3.out
      have ht := hS3.turn ((pre.length : Int) + 1) false
      refine ⟨((keeps_of_below HB3.out).trans ((KeepsOthers.setCell _ _ _).from _)).trans ((KeepsOthers.setCell _ _ _).from _), kp_turn HS.out.sz HB3.out _ _, hsn.out _ ?_⟩
      rw [HXL.out, hh']
      exact ht
  case done =>
    rintro D ys W hD hys hS hK
    have hS' : FairS w c (ys.length : Int) (isF c (ys.map fun x => x.1.2)) W := hS
    have hlen : ys.length = l.length / wd := by
      have := congrArg List.length hys
      simpa using this
    rw [hys, isF_range, hlen] at hS'
    have hP : fairP c wd l = (l.length / wd, fairB c wd l (l.length / wd)) := rfl
    obtain ⟨pn, hpn⟩ : ∃ pn, pn = l.length / wd := ⟨_, rfl⟩
    obtain ⟨pb, hpb⟩ : ∃ pb, pb = fairB c wd l (l.length / wd) := ⟨_, rfl⟩
    rw [← hpn] at hS' hP hpb
    rw [← hpb] at hS' hP
    have k1 : W.cell? ⟨w.heap.size + 1, 0, none⟩ = some (.int .i64 (pn : Int)) := by simp [World.cell?, hS'.bn]
    have k2 : W.cell? ⟨w.heap.size + 1 + 1, 0, none⟩ = some (.bool pb) := by simp [World.cell?, hS'.bi]
    have k3 : W.frozen? ⟨w.heap.size + 1, 0, none⟩ = false := by simp [World.frozen?, hS'.bn]
    have k4 : W.frozen? ⟨w.heap.size + 1 + 1, 0, none⟩ = false := by simp [World.frozen?, hS'.bi]
    have HPP := Lib.hid hP
    have HSS := Lib.hid hS'
    clear hpn hpb hP hS hS' hys hlen
    dsimp only
    gi_wp2
    refine wpIn_wide.2 ?_
    go_region_held3 (fun w' => w'.cell? ⟨w.heap.size + 1, 0, none⟩ = some (.int .i64 (pn : Int)) ∧ w'.cell? ⟨w.heap.size + 1 + 1, 0, none⟩ = some (.bool pb)) (first | exact ⟨k1, k2⟩ | exact HSS.out.setN.two | exact HSS.out.setN.drew.two | exact HSS.out.setN.setI.two | exact HSS.out.setN.drew.setI.two | exact HSS.out.setN.drew.setI.drew.two) (fail)
    have SX := HSS.out.setN.setI.drew
    obtain ⟨X, hX⟩ : ∃ X, ((W.setCell ⟨w.heap.size + 1, 0, none⟩ (.int .i64 (pn : Int))).setCell ⟨w.heap.size + 1 + 1, 0, none⟩ (.bool pb)).drew = X := ⟨_, rfl⟩
    have hKX : X.heap[D]? = some (.deferred (some [])) := by
      rw [← hX]
      exact ((Below.heap_setCell (W.setCell ⟨w.heap.size + 1, 0, none⟩ (.int .i64 (pn : Int))) ⟨w.heap.size + 1 + 1, 0, none⟩ (.bool pb) D (by show D ≠ w.heap.size + 1 + 1; omega)).trans (Below.heap_setCell W ⟨w.heap.size + 1, 0, none⟩ (.int .i64 (pn : Int)) D (by show D ≠ w.heap.size + 1; omega))).trans hK
    rw [hX] at SX ⊢
    clear hX k1 k2 k3 k4
    have SY := SX.keep (grownBy_putObj' X D (.deferred none)) (fun r e => by cases e; omega)
    obtain ⟨y1, y2⟩ := SY.two
    gi_wp2
    refine ⟨by simp, .inl ⟨_, _, rfl, run_takeDeferred hKX, ?_⟩⟩
    refine ⟨_, by simp [results, Tryz.f5, go_sem, y1, y2]; rfl, ?_⟩
    refine ⟨?_, SY.mem⟩
    rw [HPP.out]
  case stop =>
    rintro D c pre W _ _ h _
    exact h.elim
end Go.Proofs.YtmnombfgahmfkaaGreatDoor
