/- linear: a call commits. -/
import Derived.Test.YtpcnolkdnmolgaaGreatDoorPh26
namespace Go.Proofs.YtpcnolkdnmolgaaGreatDoor
section
open Go.RowKit Go.Maps
section
variable {B Q P Pt Pf C N q n c core G : Nat} {w1 W W' : World} {A : Option Addr} {s : R31}
def AtC (C core G : Nat) (W : World) : Prop := W.cell? ⟨C, core, none⟩ = some (.pointer (some ⟨G, 0, none⟩))
theorem AtC.below (h : AtC C core G W) (hb : Below W.heap.size W W') : AtC C core G W' := by
 have hlt : C < W.heap.size := by
  unfold AtC at h
  cases hh : W.heap[C]? with
  | none => simp [World.cell?, hh] at h
  | some o => exact (Array.getElem?_eq_some_iff.1 hh).1
 exact (World.cell?_of_block (a := ⟨C, core, none⟩) (hb.block C hlt)).trans h
theorem AtC.ps {ps : List (Option Nat)} (h : AtC C core G W) (h2 : W.heap[C]? = some (.cells (ps.map ptrV).toArray 274 (0, 0))) : ps[core]? = some (some G) := by
 unfold AtC at h
 simp only [World.cell?, h2] at h
 cases hp : ps[core]? with
 | none => simp [hp] at h
 | some o =>
  cases o with
  | none => simp [hp, ptrV] at h
  | some G' =>
   simp [hp, ptrV] at h
   rw [h]
theorem Rep.goAt (h : Rep B w1 Q P Pt Pf C N q A n c s W) (hc : AtC C core G W) : B ≤ G ∧ ∃ g, s.c core = some g ∧ GoAt W G g := by
 obtain ⟨ps, a1, a2, a3, a4, a5⟩ := h.tab
 exact a3 core G (hc.ps a2)
theorem Rep.turnG {g' : Go31} (h : Rep B w1 Q P Pt Pf C N q A n c s W) (hc : AtC C core G W) (h1 : ∀ k, k ≠ G → W'.heap[k]? = W.heap[k]?) (hs : W'.heap.size = W.heap.size) (ho : W'.os = W.os) (ht : W'.tape = W.tape) (hu : W'.output = W.output) (hg : GoAt W' G g') : Rep B w1 Q P Pt Pf C N q A n c (s.put core (some g')) W' ∧ AtC C core G W' := by
 obtain ⟨hBG, g, hgc, hga⟩ := h.goAt hc
 obtain ⟨ps, a1, a2, a3, a4, a5⟩ := h.tab
 have hpc := hc.ps a2
 have hty : ∀ {cs T fr}, W.heap[G]? = some (Obj.cells cs T fr) → T = 276 := fun {cs T fr} hh => by
  obtain ⟨vr, b3, _⟩ := hga
  rw [b3] at hh
  injection hh with hh
  injection hh with _ hh
  exact hh.symm
 have hQG : Q ≠ G := fun e => by
  have h2 := h.head
  unfold HeadR at h2
  rw [e] at h2
  exact absurd (hty h2) (by decide)
 have hCG : C ≠ G := fun e => by
  rw [e] at a2
  exact absurd (hty a2) (by decide)
 have hstr : ∀ b, (∃ s, W.cell? ⟨b, 0, none⟩ = some (.string s)) → b ≠ G := fun b ⟨s, hs⟩ e => by
  obtain ⟨vr, b3, _⟩ := hga
  rw [e] at hs
  simp only [World.cell?, b3] at hs
  simp [callCells] at hs
 refine ⟨⟨h.own.turn1 hga.isFar hBG h1 hs ho ht hu, (h1 Q hQG).trans h.head, ⟨ps, a1, (h1 C hCG).trans a2, fun k G' hk => ?_, fun k hk => ?_, a5⟩, h.geQ, h.geC⟩, (World.cell?_of_block (a := ⟨C, core, none⟩) (h1 C hCG)).trans hc⟩
 · by_cases e : G' = G
   · subst e
     have hkc := a5 k core G' hk hpc
     subst hkc
     exact ⟨hBG, g', if_pos rfl, hg⟩
   · obtain ⟨b1, g2, b2, b3⟩ := a3 k G' hk
     refine ⟨b1, g2, ?_, b3.far (h1 G' e) (fun b hb => h1 b (hstr b hb)) (Nat.le_of_eq hs.symm)⟩
     show (if (k : Int) = (core : Int) then _ else s.c k) = _
     have : k ≠ core := fun e2 => by
      rw [e2, hpc] at hk
      injection hk with hk
      injection hk with hk
      exact e hk.symm
     rw [if_neg (by omega)]
     exact b2
 · show (if (k : Int) = (core : Int) then _ else s.c k) = _
   have : k ≠ core := fun e2 => by
    rw [e2, hpc] at hk
    cases hk
   rw [if_neg (by omega)]
   exact a4 k hk
end
theorem go_x {w : World} {G : Nat} {v0 v1 v2 v3 v4 v5 v6 v7 v8 v9 v10 v11 v12 v13 v14 v15 v16 : Value} (h : w.heap[G]? = some (.cells #[v0, v1, v2, v3, v4, v5, v6, v7, v8, v9, v10, v11, v12, v13, v14, v15, v16] 276 (0, 0))) : w.cell? ⟨G, 0, none⟩ = some v0 ∧ w.cell? ⟨G, 1, none⟩ = some v1 ∧ w.cell? ⟨G, 2, none⟩ = some v2 ∧ w.cell? ⟨G, 3, none⟩ = some v3 ∧ w.cell? ⟨G, 4, none⟩ = some v4 ∧ w.cell? ⟨G, 5, none⟩ = some v5 ∧ w.cell? ⟨G, 6, none⟩ = some v6 := by
 simp [World.cell?, h]
theorem go_fr {w : World} {G : Nat} {cs : Array Value} (h : w.heap[G]? = some (.cells cs 276 (0, 0))) : w.frozen? ⟨G, 7, none⟩ = false ∧ w.frozen? ⟨G, 8, none⟩ = false ∧ w.frozen? ⟨G, 9, none⟩ = false ∧ w.frozen? ⟨G, 10, none⟩ = false ∧ w.frozen? ⟨G, 11, none⟩ = false ∧ w.frozen? ⟨G, 12, none⟩ = false ∧ w.frozen? ⟨G, 13, none⟩ = false ∧ w.frozen? ⟨G, 14, none⟩ = false ∧ w.frozen? ⟨G, 15, none⟩ = false ∧ w.frozen? ⟨G, 16, none⟩ = false := by
 simp [World.frozen?, h]
structure OffG (G : Nat) (W W' : World) : Prop where
 off : ∀ k, k ≠ G → W'.heap[k]? = W.heap[k]?
 size : W'.heap.size = W.heap.size
 os : W'.os = W.os
 tape : W'.tape = W.tape
 out : W'.output = W.output
theorem setCell_os (W : World) (p : Addr) (v : Value) : (W.setCell p v).os = W.os := rfl
theorem setCell_tape (W : World) (p : Addr) (v : Value) : (W.setCell p v).tape = W.tape := rfl
theorem setCell_out (W : World) (p : Addr) (v : Value) : (W.setCell p v).output = W.output := rfl
theorem setCell_off {W : World} {G j k : Nat} {v : Value} (hk : k ≠ G) : (W.setCell ⟨G, j, none⟩ v).heap[k]? = W.heap[k]? := Below.heap_setCell _ _ _ k hk
theorem set10 {W W' : World} {G : Nat} {v0 v1 v2 v3 v4 v5 v6 v7 v8 v9 v10 v11 v12 v13 v14 v15 v16 u7 u8 u9 u10 u11 u12 u13 u14 u15 u16 : Value} (h : W.heap[G]? = some (.cells #[v0, v1, v2, v3, v4, v5, v6, v7, v8, v9, v10, v11, v12, v13, v14, v15, v16] 276 (0, 0)))
  (hw : ((((((((((W.setCell ⟨G, 7, none⟩ u7).setCell ⟨G, 8, none⟩ u8).setCell ⟨G, 9, none⟩ u9).setCell ⟨G, 10, none⟩ u10).setCell ⟨G, 11, none⟩ u11).setCell ⟨G, 12, none⟩ u12).setCell ⟨G, 13, none⟩ u13).setCell ⟨G, 14, none⟩ u14).setCell ⟨G, 15, none⟩ u15).setCell ⟨G, 16, none⟩ u16) = W') : W'.heap[G]? = some (.cells #[v0, v1, v2, v3, v4, v5, v6, u7, u8, u9, u10, u11, u12, u13, u14, u15, u16] 276 (0, 0)) ∧ OffG G W W' := by
 refine ⟨?_, fun k hk => ?_, ?_, ?_, ?_, ?_⟩
 · rw [← hw]
   have e0 := h
   have e1 := pheap_set _ G 7 u7 _ _ e0
   simp only [List.setIfInBounds_toArray, List.set_cons_succ, List.set_cons_zero] at e1
   have e2 := pheap_set _ G 8 u8 _ _ e1
   simp only [List.setIfInBounds_toArray, List.set_cons_succ, List.set_cons_zero] at e2
   have e3 := pheap_set _ G 9 u9 _ _ e2
   simp only [List.setIfInBounds_toArray, List.set_cons_succ, List.set_cons_zero] at e3
   have e4 := pheap_set _ G 10 u10 _ _ e3
   simp only [List.setIfInBounds_toArray, List.set_cons_succ, List.set_cons_zero] at e4
   have e5 := pheap_set _ G 11 u11 _ _ e4
   simp only [List.setIfInBounds_toArray, List.set_cons_succ, List.set_cons_zero] at e5
   have e6 := pheap_set _ G 12 u12 _ _ e5
   simp only [List.setIfInBounds_toArray, List.set_cons_succ, List.set_cons_zero] at e6
   have e7 := pheap_set _ G 13 u13 _ _ e6
   simp only [List.setIfInBounds_toArray, List.set_cons_succ, List.set_cons_zero] at e7
   have e8 := pheap_set _ G 14 u14 _ _ e7
   simp only [List.setIfInBounds_toArray, List.set_cons_succ, List.set_cons_zero] at e8
   have e9 := pheap_set _ G 15 u15 _ _ e8
   simp only [List.setIfInBounds_toArray, List.set_cons_succ, List.set_cons_zero] at e9
   have e10 := pheap_set _ G 16 u16 _ _ e9
   simp only [List.setIfInBounds_toArray, List.set_cons_succ, List.set_cons_zero] at e10
   exact e10
 · rw [← hw]
   simp only [setCell_off hk]
 · rw [← hw]; simp [World.setCell]
 · rw [← hw]; simp only [setCell_os]
 · rw [← hw]; simp only [setCell_tape]
 · rw [← hw]; simp only [setCell_out]
theorem set9 {W W' : World} {G : Nat} {v0 v1 v2 v3 v4 v5 v6 v7 v8 v9 v10 v11 v12 v13 v14 v15 v16 u8 u9 u10 u11 u12 u13 u14 u15 u16 : Value} (h : W.heap[G]? = some (.cells #[v0, v1, v2, v3, v4, v5, v6, v7, v8, v9, v10, v11, v12, v13, v14, v15, v16] 276 (0, 0)))
  (hw : (((((((((W.setCell ⟨G, 8, none⟩ u8).setCell ⟨G, 9, none⟩ u9).setCell ⟨G, 10, none⟩ u10).setCell ⟨G, 11, none⟩ u11).setCell ⟨G, 12, none⟩ u12).setCell ⟨G, 13, none⟩ u13).setCell ⟨G, 14, none⟩ u14).setCell ⟨G, 15, none⟩ u15).setCell ⟨G, 16, none⟩ u16) = W') : W'.heap[G]? = some (.cells #[v0, v1, v2, v3, v4, v5, v6, v7, u8, u9, u10, u11, u12, u13, u14, u15, u16] 276 (0, 0)) ∧ OffG G W W' := by
 refine ⟨?_, fun k hk => ?_, ?_, ?_, ?_, ?_⟩
 · rw [← hw]
   have e0 := h
   have e1 := pheap_set _ G 8 u8 _ _ e0
   simp only [List.setIfInBounds_toArray, List.set_cons_succ, List.set_cons_zero] at e1
   have e2 := pheap_set _ G 9 u9 _ _ e1
   simp only [List.setIfInBounds_toArray, List.set_cons_succ, List.set_cons_zero] at e2
   have e3 := pheap_set _ G 10 u10 _ _ e2
   simp only [List.setIfInBounds_toArray, List.set_cons_succ, List.set_cons_zero] at e3
   have e4 := pheap_set _ G 11 u11 _ _ e3
   simp only [List.setIfInBounds_toArray, List.set_cons_succ, List.set_cons_zero] at e4
   have e5 := pheap_set _ G 12 u12 _ _ e4
   simp only [List.setIfInBounds_toArray, List.set_cons_succ, List.set_cons_zero] at e5
   have e6 := pheap_set _ G 13 u13 _ _ e5
   simp only [List.setIfInBounds_toArray, List.set_cons_succ, List.set_cons_zero] at e6
   have e7 := pheap_set _ G 14 u14 _ _ e6
   simp only [List.setIfInBounds_toArray, List.set_cons_succ, List.set_cons_zero] at e7
   have e8 := pheap_set _ G 15 u15 _ _ e7
   simp only [List.setIfInBounds_toArray, List.set_cons_succ, List.set_cons_zero] at e8
   have e9 := pheap_set _ G 16 u16 _ _ e8
   simp only [List.setIfInBounds_toArray, List.set_cons_succ, List.set_cons_zero] at e9
   exact e9
 · rw [← hw]
   simp only [setCell_off hk]
 · rw [← hw]; simp [World.setCell]
 · rw [← hw]; simp only [setCell_os]
 · rw [← hw]; simp only [setCell_tape]
 · rw [← hw]; simp only [setCell_out]
theorem GoAt.of {W : World} {G : Nat} {x : Cx} {cm : Bool} {r : Rp} {A : Option Addr} {c : Nat} (h : W.heap[G]? = some (.cells #[.int .u8 x.act, .string x.path, .string x.path2, .int .i64 x.fd, .int .i64 x.page, .int .u32 x.size, .string x.data, .bool cm, .int .i64 r.err, .int .i64 r.fd, .int .u32 r.ino, .int .u32 r.s0, .int .u8 r.s1, .int .i64 r.s2, .int .u32 r.s3, .slice A r.lst.length c, .string r.dt] 276 (0, 0))) (hE : EntsAt W A r.lst) : GoAt W G ⟨x, cm, r⟩ :=
 ⟨[.int .i64 r.err, .int .i64 r.fd, .int .u32 r.ino, .int .u32 r.s0, .int .u8 r.s1, .int .i64 r.s2, .int .u32 r.s3, .slice A r.lst.length c, .string r.dt], h, A, c, rfl, hE⟩
def RelT (W W' : World) : Prop := W.heap.size ≤ W'.heap.size ∧ ∀ b, (∃ s, W.cell? ⟨b, 0, none⟩ = some (.string s)) → W'.heap[b]? = W.heap[b]?
theorem RelT.of {W W' : World} (h : RelB W W') : RelT W W' := ⟨(relB_get h).size, fun b ⟨s, hs⟩ => (relB_get h).block b (Far.lt (.inr ⟨s, hs⟩))⟩
def isGR (r : Rp) : Ph := fun v W => GRAt W r v
theorem isGR.stay {r : Rp} : ∀ v W W', isGR r v W → RelT W W' → isGR r v W' := fun _ _ _ hh hr => GRAt.far hh hr.2 hr.1
theorem Rep.answered {B Q P Pt Pf C N q n c core G : Nat} {w1 W : World} {A : Option Addr} {s : R31} {x : Cx} (r : Rp) (gA : Option Addr) (gc : Nat) {v8 v9 v10 v11 v12 v13 v14 v15 v16 : Value} (h : Rep B w1 Q P Pt Pf C N q A n c s W) (hc : AtC C core G W)
  (hG : W.heap[G]? = some (.cells #[.int .u8 x.act, .string x.path, .string x.path2, .int .i64 x.fd, .int .i64 x.page, .int .u32 x.size, .string x.data, .bool true, v8, v9, v10, v11, v12, v13, v14, v15, v16] 276 (0, 0))) (h2 : EntsAt W gA r.lst) :
  Rep B w1 Q P Pt Pf C N q A n c (s.put core (some ⟨x, true, r⟩)) (((((((((W.setCell ⟨G, 8, none⟩ (.int .i64 r.err)).setCell ⟨G, 9, none⟩ (.int .i64 r.fd)).setCell ⟨G, 10, none⟩ (.int .u32 r.ino)).setCell ⟨G, 11, none⟩ (.int .u32 r.s0)).setCell ⟨G, 12, none⟩ (.int .u8 r.s1)).setCell ⟨G, 13, none⟩ (.int .i64 r.s2)).setCell ⟨G, 14, none⟩ (.int .u32 r.s3)).setCell ⟨G, 15, none⟩ (.slice gA r.lst.length gc)).setCell ⟨G, 16, none⟩ (.string r.dt)) ∧ RelT W (((((((((W.setCell ⟨G, 8, none⟩ (.int .i64 r.err)).setCell ⟨G, 9, none⟩ (.int .i64 r.fd)).setCell ⟨G, 10, none⟩ (.int .u32 r.ino)).setCell ⟨G, 11, none⟩ (.int .u32 r.s0)).setCell ⟨G, 12, none⟩ (.int .u8 r.s1)).setCell ⟨G, 13, none⟩ (.int .i64 r.s2)).setCell ⟨G, 14, none⟩ (.int .u32 r.s3)).setCell ⟨G, 15, none⟩ (.slice gA r.lst.length gc)).setCell ⟨G, 16, none⟩ (.string r.dt)) := by
 obtain ⟨W', hw⟩ : ∃ W', (((((((((W.setCell ⟨G, 8, none⟩ (.int .i64 r.err)).setCell ⟨G, 9, none⟩ (.int .i64 r.fd)).setCell ⟨G, 10, none⟩ (.int .u32 r.ino)).setCell ⟨G, 11, none⟩ (.int .u32 r.s0)).setCell ⟨G, 12, none⟩ (.int .u8 r.s1)).setCell ⟨G, 13, none⟩ (.int .i64 r.s2)).setCell ⟨G, 14, none⟩ (.int .u32 r.s3)).setCell ⟨G, 15, none⟩ (.slice gA r.lst.length gc)).setCell ⟨G, 16, none⟩ (.string r.dt)) = W' := ⟨_, rfl⟩
 rw [hw]
 obtain ⟨e9, o9⟩ := set9 hG hw
 have hstr : ∀ b, (∃ s, W.cell? ⟨b, 0, none⟩ = some (.string s)) → b ≠ G := fun b ⟨s, hs⟩ e => by
  rw [e, (go_x hG).1] at hs
  cases hs
 have hE : EntsAt W' gA r.lst := h2.far (fun b hb => o9.off b (hstr b hb)) (Nat.le_of_eq o9.size.symm)
 exact ⟨(h.turnG hc o9.off o9.size o9.os o9.tape o9.out (GoAt.of e9 hE)).1, Nat.le_of_eq o9.size.symm, fun b hb => o9.off b (hstr b hb)⟩
def DoneG (B : Nat) (w1 : World) (Q P Pt Pf C N q : Nat) (A : Option Addr) (n c core G : Nat) (x : Cx) (s : R31) (W : World) : Prop := Rep B w1 Q P Pt Pf C N q A n c s W ∧ AtC C core G W ∧ W.heap[G]? = some (.cells #[.int .u8 x.act, .string x.path, .string x.path2, .int .i64 x.fd, .int .i64 x.page, .int .u32 x.size, .string x.data, .bool true, .int .i64 270, .int .i64 0, .int .u32 0, .int .u32 0, .int .u8 0, .int .i64 0, .int .u32 0, .slice none 0 0, .string ⟨#[]⟩] 276 (0, 0))
theorem DoneG.below {B Q P Pt Pf C N q n c core G : Nat} {w1 W W' : World} {A : Option Addr} {s : R31} {x : Cx} (h : DoneG B w1 Q P Pt Pf C N q A n c core G x s W) (hb : Below W.heap.size W W') : DoneG B w1 Q P Pt Pf C N q A n c core G x s W' :=
 ⟨h.1.below hb, h.2.1.below hb, (hb.block _ (Array.getElem?_eq_some_iff.1 h.2.2).1).trans h.2.2⟩
theorem DoneG.do_ {B Q P Pt Pf C N q n c core G : Nat} {w1 W : World} {A : Option Addr} {s : R31} {x : Cx} (h : DoneG B w1 Q P Pt Pf C N q A n c core G x s W) (hx : x.Fits) (hk : KindsAt w1) (hB0 : 0 < B) (hN : N ≤ 50000) :
  Calls Tryz.prog 12 #[.pointer (some ⟨P, 0, none⟩), .int .i64 (core : Int), callV x] W fun e w' => (∃ v, e = .returned v ∧ GRAt w' (rpOf s.m.t (doM s.m core x).1) v) ∧ DoneG B w1 Q P Pt Pf C (N + 2) q A n c core G x ⟨(doM s.m core x).2, s.c⟩ w' ∧ RelT W w' := by
 obtain ⟨h1, h2, h3⟩ := h
 refine (h1.do_ x hx core hk hB0 hN).mono fun e w' ⟨hv, hr, hn⟩ => ⟨hv, ⟨hr, ?_, ?_⟩, hn.1, fun b hb => hn.2 b (.inr hb)⟩
 · exact (World.cell?_of_block (a := ⟨C, core, none⟩) (hn.2 _ h1.isFarC)).trans h2
 · exact (hn.2 G (.inl ⟨_, _, _, h3, by decide, by decide, by decide, by decide⟩)).trans h3
theorem put_put (s : R31) (k : Int) (a b : Option Go31) : (s.put k a).put k b = s.put k b := by
 unfold R31.put
 congr 1
 funext x
 dsimp only
 split <;> rfl
set_option maxRecDepth 100000 in
set_option maxHeartbeats 4000000 in
theorem t_commit31 {w1 : World} {Q P Pt Pf C N q n c i core : Nat} {A : Option Addr} {l : List Ev} {e : Ev} {s : R31} (w : World) (hE : EvAt w1 A n c q l i e core) (hK : KindsAt w1) (hN : N ≤ 50000) (hgf : ∀ k g, s.c k = some g → g.x.Fits) (hR : Rep w1.heap.size w1 Q P Pt Pf C N q A n c s w) :
  Calls Tryz.prog 134 #[.pointer (some ⟨Q, 0, none⟩), .int .i64 (i : Int)] w fun e' w' => e' = .returned (.int .i64 (commit31 l i s e).1) ∧ Rep w1.heap.size w1 Q P Pt Pf C (N + 2) q A n c (commit31 l i s e).2 w' := by
 have hi := hE.lti
 have hcq := hE.lt
 have hn2 := hE.small
 obtain ⟨b, off, rfl, hb, hc⟩ := hE.evs.get hE.at_
 obtain ⟨_, h1, h2⟩ := hR.head.cells
 obtain ⟨o, ho, hgo⟩ := hR.at2 hcq
 have HGO := zz hgo
 have HCK := zz ho
 have cC0 := ho w (Below.refl _ _)
 have x00 : w.cell? ⟨b, off + i * 18, none⟩ = some (.int .i64 (core : Int)) := by
  rw [← hE.cor]
  exact hc w hR.mem 0 _ rfl
 have HRV := zz (show ∀ W, Below w.heap.size w W → Rep w1.heap.size w1 Q P Pt Pf C N q (some ⟨b, off, none⟩) n c s W from fun W hb => hR.below hb)
 have HCO := zz hE.cor
 have HEA := zz hE
 have HKW := zz hK
 have HNN := zz hN
 obtain ⟨r, hr⟩ : ∃ r, commit31 l i s e = r := ⟨_, rfl⟩
 rw [hr]
 have hr2 := hr
 unfold commit31 at hr2
 rw [HCO.out] at hr2
 clear hb hc hE hR ho hgo hr hK hN
 cases o with
 | none =>
  have hg : s.c core = none := HGO.out
  rw [hg] at hr2
  have HF := zz (show r = (310, s) from hr2.symm)
  clear hr2 hg hgf
  have cC : w.cell? ⟨C, core, none⟩ = some (.pointer none) := cC0
  clear cC0
  go_enter Tryz.func134, Tryz.ntmps134
  go_wp2
  go_ret
  exact ⟨by rw [HF.out]; rfl, by rw [HF.out]; exact (HRV.out _ (Below.refl _ _)).mono (by omega)⟩
 | some G =>
  obtain ⟨g, hg, hGA⟩ := HGO.out
  have hgx := hgf _ _ hg
  have HGX := zz hgx
  have HG := zz hg
  rw [hg] at hr2
  dsimp only at hr2
  have HGA := zz hGA
  have cC : w.cell? ⟨C, core, none⟩ = some (.pointer (some ⟨G, 0, none⟩)) := cC0
  have HAT : Hid (AtC C core G w) := cC0
  obtain ⟨gA, gc, hgE, hgb⟩ := (hGA w (Below.refl _ _)).cells
  obtain ⟨k0, k7, k8, k9, k10, k11, k12, k13, k14, k15, k16⟩ := go_ck hgb
  obtain ⟨f7, f8, f9, f10, f11, f12, f13, f14, f15, f16⟩ := go_fr hgb
  have HGB := zz hgb
  clear hg hGA cC0 hgf hgx hgE hgb
  cases hcom : g.com with
  | true =>
   have HF := zz (show r = (310, s) from by rw [← hr2, if_pos hcom])
   rw [hcom] at k7
   clear hr2 hcom
   go_enter Tryz.func134, Tryz.ntmps134
   go_wp2
   go_ret
   exact ⟨by rw [HF.out]; rfl, by rw [HF.out]; exact (HRV.out _ (Below.refl _ _)).mono (by omega)⟩
  | false =>
   rw [hcom] at k7
   rw [if_neg (by rw [hcom]; decide)] at hr2
   have HR2 := zz hr2
   have HCOM := zz hcom
   clear hr2 hcom
   obtain ⟨w2, hw2⟩ : ∃ w2, ((((((((((w.setCell ⟨G, 7, none⟩ (.bool true)).setCell ⟨G, 8, none⟩ (.int .i64 270)).setCell ⟨G, 9, none⟩ (.int .i64 0)).setCell ⟨G, 10, none⟩ (.int .u32 0)).setCell ⟨G, 11, none⟩ (.int .u32 0)).setCell ⟨G, 12, none⟩ (.int .u8 0)).setCell ⟨G, 13, none⟩ (.int .i64 0)).setCell ⟨G, 14, none⟩ (.int .u32 0)).setCell ⟨G, 15, none⟩ (.slice none 0 0)).setCell ⟨G, 16, none⟩ (.string ⟨#[]⟩)) = w2 := ⟨_, rfl⟩
   obtain ⟨g2, o2⟩ := set10 HGB.out hw2
   have hga2 : GoAt w2 G ⟨g.x, true, logRp⟩ := GoAt.of (r := logRp) (c := 0) (A := none) g2 ⟨fun h => absurd h (by simp [logRp])⟩
   obtain ⟨hr2, hat2⟩ := (HRV.out w (Below.refl _ _)).turnG HAT.out o2.off o2.size o2.os o2.tape o2.out hga2
   have HR3 := zz hr2
   have HAT2 := zz hat2
   have HG2 := zz g2
   obtain ⟨x0, x1, x2, x3, x4, x5, x6⟩ := go_x g2
   have HRF := zz (show Calls Tryz.prog 218 #[.pointer (some ⟨Q, 0, none⟩), .int .i64 (i : Int), .agg #[.int .u8 g.x.act, .string g.x.path, .string g.x.path2, .int .i64 g.x.fd, .int .i64 g.x.page, .int .u32 g.x.size, .string g.x.data]] w2 fun e' w' => e' = .returned (.bool (refusedB l i e.core g.x.act)) ∧ Below w2.heap.size w2 w' from by
    obtain ⟨a, ha, _⟩ := HGX.out.act
    have hm := hr2.mem
    exact t_refused w2 Q P C q i n c (some ⟨b, off, none⟩) l e g.x hr2.head (HEA.out.evs.below hm) (HEA.out.lists.below hm) HEA.out.len HEA.out.small HEA.out.cap HEA.out.cap2 HEA.out.fits HEA.out.at_ a ha)
   rw [HCO.out] at HRF
   obtain ⟨rb, hrb⟩ : ∃ rb, refusedB l i (core : Int) g.x.act = rb := ⟨_, rfl⟩
   rw [hrb] at HRF
   have hR2 := HR2.out
   rw [hrb] at hR2
   clear g2 o2 hga2 hr2 hat2 hrb
   cases rb with
   | true =>
    have HF := zz (show r = (0, s.put core (some ⟨g.x, true, logRp⟩)) from by rw [← hR2, if_pos rfl])
    clear hR2
    go_enter Tryz.func134, Tryz.ntmps134
    go_wp2_with (go_at_call 218; (with_reducible refine HRF.out.mono ?_); rintro e5 w3 ⟨rfl, hb3⟩; have HB3 := zz hb3; clear hb3)
    go_ret
    exact ⟨by rw [HF.out]; rfl, by rw [HF.out]; exact (HR3.out.below HB3.out).mono (by omega)⟩
   | false =>
    have HF := zz (show r = (0, (R31.mk (doM s.m core g.x).2 s.c).put core (some ⟨g.x, true, rpOf s.m.t (doM s.m core g.x).1⟩)) from by rw [← hR2, if_neg (by decide)])
    clear hR2
    go_enter Tryz.func134, Tryz.ntmps134
    go_wp2_with (go_at_call 218; (with_reducible refine HRF.out.mono ?_); rintro e5 w3 ⟨rfl, hb3⟩
                 have HB3 := zz hb3
                 have HG3 := zz ((hb3.block _ (Array.getElem?_eq_some_iff.1 HG2.out).1).trans HG2.out)
                 obtain ⟨y0, y1, y2, y3, y4, y5, y6⟩ := go_x HG3.out
                 obtain ⟨p0, _, _⟩ := (HR3.out.below hb3).head.cells
                 have HDG := zz (show DoneG w1.heap.size w1 Q P Pt Pf C N q (some ⟨b, off, none⟩) n c core G g.x (s.put core (some ⟨g.x, true, logRp⟩)) w3 from ⟨HR3.out.below hb3, HAT2.out.below hb3, HG3.out⟩)
                 clear hb3)
    refine wp_region_st (fun j W => if j = 0 then DoneG w1.heap.size w1 Q P Pt Pf C N q (some ⟨b, off, none⟩) n c core G g.x (s.put core (some ⟨g.x, true, logRp⟩)) W else if j = 1 then DoneG w1.heap.size w1 Q P Pt Pf C (N + 2) q (some ⟨b, off, none⟩) n c core G g.x ⟨(doM s.m core g.x).2, (s.put core (some ⟨g.x, true, logRp⟩)).c⟩ W else Rep w1.heap.size w1 Q P Pt Pf C (N + 2) q (some ⟨b, off, none⟩) n c ((R31.mk (doM s.m core g.x).2 (s.put core (some ⟨g.x, true, logRp⟩)).c).put core (some ⟨g.x, true, (rpOf s.m.t (doM s.m core g.x).1)⟩)) W) RelB (RelT) [11, 14] (phi [isV (.pointer (some ⟨G, 0, none⟩)), isV (.pointer (some ⟨Q, 0, none⟩)), isV (.pointer (some ⟨Q, 0, none⟩)), isV (.pointer (some ⟨Q, 0, none⟩)), isV (.pointer (some ⟨Q, 0, none⟩)), isV (.pointer (some ⟨P, 0, none⟩)), isV (.int .i64 (core : Int)), isV (.pointer (some ⟨G, 0, none⟩)), isV (.pointer (some ⟨G, 0, none⟩)), isV (.pointer (some ⟨G, 0, none⟩)), isV (.agg #[.int .u8 g.x.act, .string g.x.path, .string g.x.path2, .int .i64 g.x.fd, .int .i64 g.x.page, .int .u32 g.x.size, .string g.x.data]), isGR (rpOf s.m.t (doM s.m core g.x).1), isV (.pointer (some ⟨G, 0, none⟩)), isV (.pointer (some ⟨G, 8, none⟩)), (fun _ _ => True)]) (by kernel_rfl) (by kernel_rfl) (by kernel_rfl) (by kernel_rfl) (by kernel_rfl) (DoneG.below HDG.out (below_drew _)) (fun j _ _ h hb => by by_cases hj : j = 0; (rw [if_pos hj] at h ⊢; exact h.below (relB_get hb)); (rw [if_neg hj] at h ⊢; by_cases hj1 : j = 1; (rw [if_pos hj1] at h ⊢; exact h.below (relB_get hb)); (rw [if_neg hj1] at h ⊢; exact h.below (relB_get hb)))) (fun _ _ h => RelT.of h) ?_ ?_ ?_
    · refine stays_phiR ?_
      simp only [List.forall_mem_cons]
      exact ⟨kv, kv, kv, kv, kv, kv, kv, kv, kv, kv, kv, isGR.stay, kv, kv, fun _ _ _ _ _ => trivial, fun _ h => absurd h (by simp)⟩
    · refine ⟨?_, ?_, ?_, ?_, ?_, ?_, ?_, ?_, ?_, ?_, ?_, ?_, ?_, ?_, ?_, trivial⟩
      · refine opS_mk rfl rfl fun aa W2 nJ hJ hp hq K hK => ?_
        have e6 : aa.tmps[6]?.getD undef = .pointer (some ⟨G, 0, none⟩) := hp 6 (by kernel_rfl)
        clear hp hq
        go_simp
        exact hK _ _ (RelB.refl _) rfl
      · refine opS_mk rfl rfl fun aa W2 nJ hJ hp hq K hK => ?_
        have e0 : aa.tmps[0]?.getD undef = .pointer (some ⟨Q, 0, none⟩) := hp 0 (by kernel_rfl)
        clear hp hq
        go_simp
        exact hK _ _ (RelB.refl _) rfl
      · refine opS_mk rfl rfl fun aa W2 nJ hJ hp hq K hK => ?_
        have e46 : aa.tmps[46]?.getD undef = .pointer (some ⟨Q, 0, none⟩) := hq 1 _ (by kernel_rfl) rfl
        clear hp hq
        go_simp
        exact hK _ _ (RelB.refl _) rfl
      · refine opS_mk rfl rfl fun aa W2 nJ hJ hp hq K hK => ?_
        have e47 : aa.tmps[47]?.getD undef = .pointer (some ⟨Q, 0, none⟩) := hq 2 _ (by kernel_rfl) rfl
        clear hp hq
        go_simp
        exact hK _ _ (RelB.refl _) rfl
      · refine opS_mk rfl rfl fun aa W2 nJ hJ hp hq K hK => ?_
        have e48 : aa.tmps[48]?.getD undef = .pointer (some ⟨Q, 0, none⟩) := hq 3 _ (by kernel_rfl) rfl
        clear hp hq
        go_simp
        exact hK _ _ (RelB.refl _) rfl
      · refine opS_ahead (m := 0) (k := 11) rfl rfl rfl rfl (by kernel_rfl) fun aa W2 nJ hnJ hJ hp hq K hK => ?_
        have e49 : aa.tmps[49]?.getD undef = .pointer (some ⟨Q, 0, none⟩) := hq 4 _ (by kernel_rfl) rfl
        obtain rfl : nJ = 0 := by omega
        have hD : DoneG w1.heap.size w1 Q P Pt Pf C N q (some ⟨b, off, none⟩) n c core G g.x (s.put core (some ⟨g.x, true, logRp⟩)) W2 := hJ
        have d1 := hD.1.head.cells.1
        clear hp hq
        go_simp
        exact hK _ _ (RelB.refl _) rfl
      · refine opS_mk rfl rfl fun aa W2 nJ hJ hp hq K hK => ?_
        have e5 : aa.tmps[5]?.getD undef = .int .i64 (core : Int) := hp 5 (by kernel_rfl)
        clear hp hq
        go_simp
        exact hK _ _ (RelB.refl _) rfl
      · refine opS_mk rfl rfl fun aa W2 nJ hJ hp hq K hK => ?_
        have e6 : aa.tmps[6]?.getD undef = .pointer (some ⟨G, 0, none⟩) := hp 6 (by kernel_rfl)
        clear hp hq
        go_simp
        exact hK _ _ (RelB.refl _) rfl
      · refine opS_mk rfl rfl fun aa W2 nJ hJ hp hq K hK => ?_
        have e52 : aa.tmps[52]?.getD undef = .pointer (some ⟨G, 0, none⟩) := hq 7 _ (by kernel_rfl) rfl
        clear hp hq
        go_simp
        exact hK _ _ (RelB.refl _) rfl
      · refine opS_mk rfl rfl fun aa W2 nJ hJ hp hq K hK => ?_
        have e53 : aa.tmps[53]?.getD undef = .pointer (some ⟨G, 0, none⟩) := hq 8 _ (by kernel_rfl) rfl
        clear hp hq
        go_simp
        exact hK _ _ (RelB.refl _) rfl
      · refine opS_ahead (m := 0) (k := 11) rfl rfl rfl rfl (by kernel_rfl) fun aa W2 nJ hnJ hJ hp hq K hK => ?_
        have e54 : aa.tmps[54]?.getD undef = .pointer (some ⟨G, 0, none⟩) := hq 9 _ (by kernel_rfl) rfl
        obtain rfl : nJ = 0 := by omega
        have hD : DoneG w1.heap.size w1 Q P Pt Pf C N q (some ⟨b, off, none⟩) n c core G g.x (s.put core (some ⟨g.x, true, logRp⟩)) W2 := hJ
        obtain ⟨z0, z1, z2, z3, z4, z5, z6⟩ := go_x hD.2.2
        clear hp hq
        go_simp
        exact hK _ _ (RelB.refl _) rfl
      · refine opS_at (m := 0) rfl rfl fun aa W2 hJ hp hq K hK => ?_
        have e50 : aa.tmps[50]?.getD undef = .pointer (some ⟨P, 0, none⟩) := hq 5 _ (by kernel_rfl) rfl
        have e51 : aa.tmps[51]?.getD undef = .int .i64 (core : Int) := hq 6 _ (by kernel_rfl) rfl
        have e55 : aa.tmps[55]?.getD undef = .agg #[.int .u8 g.x.act, .string g.x.path, .string g.x.path2, .int .i64 g.x.fd, .int .i64 g.x.page, .int .u32 g.x.size, .string g.x.data] := hq 10 _ (by kernel_rfl) rfl
        have hD : DoneG w1.heap.size w1 Q P Pt Pf C N q (some ⟨b, off, none⟩) n c core G g.x (s.put core (some ⟨g.x, true, logRp⟩)) W2 := hJ
        have HD := zz hD
        clear hJ hD
        clear hp hq
        go_simp
        go_at_call 12
        (with_reducible refine (HD.out.do_ HGX.out HKW.out HKW.out.pos HNN.out).mono ?_)
        rintro e5 w7 ⟨⟨v, rfl, hv⟩, hd, ht⟩
        exact hK _ _ ht hd hv
      · refine opS_mk rfl rfl fun aa W2 nJ hJ hp hq K hK => ?_
        have e45 : aa.tmps[45]?.getD undef = .pointer (some ⟨G, 0, none⟩) := hq 0 _ (by kernel_rfl) rfl
        clear hp hq
        go_simp
        exact hK _ _ (RelB.refl _) rfl
      · refine opS_mk rfl rfl fun aa W2 nJ hJ hp hq K hK => ?_
        have e57 : aa.tmps[57]?.getD undef = .pointer (some ⟨G, 0, none⟩) := hq 12 _ (by kernel_rfl) rfl
        clear hp hq
        go_simp
        exact hK _ _ (RelB.refl _) rfl
      · refine opS_at (m := 1) rfl rfl fun aa W2 hJ hp hq K hK => ?_
        have e58 : aa.tmps[58]?.getD undef = .pointer (some ⟨G, 8, none⟩) := hq 13 _ (by kernel_rfl) rfl
        have hD : DoneG w1.heap.size w1 Q P Pt Pf C (N + 2) q (some ⟨b, off, none⟩) n c core G g.x ⟨(doM s.m core g.x).2, (s.put core (some ⟨g.x, true, logRp⟩)).c⟩ W2 := hJ
        have HD := zz hD
        obtain ⟨gA, gc, e56, hE⟩ : isGR (rpOf s.m.t (doM s.m core g.x).1) (aa.tmps[56]?.getD undef) W2 := hq 11 _ (by kernel_rfl) rfl
        have HE := zz hE
        obtain ⟨rp, hrp⟩ : ∃ rp, (rpOf s.m.t (doM s.m core g.x).1) = rp := ⟨_, rfl⟩
        have HRP := zz hrp
        rw [hrp] at e56 HE
        unfold Rp.val at e56
        obtain ⟨_, k7, k8, k9, k10, k11, k12, k13, k14, k15, k16⟩ := go_ck hD.2.2
        obtain ⟨_, f8, f9, f10, f11, f12, f13, f14, f15, f16⟩ := go_fr hD.2.2
        clear hJ hD hE hrp
        clear hp hq
        go_simp
        obtain ⟨t1, t2⟩ := Rep.answered rp gA gc HD.out.1 HD.out.2.1 HD.out.2.2 HE.out
        rw [HRP.out] at hK
        exact hK undef _ t2 t1 trivial
    · intro vs W9 hJ9 hv9 _
      have HN9 : Hid (Rep w1.heap.size w1 Q P Pt Pf C (N + 2) q (some ⟨b, off, none⟩) n c ((R31.mk (doM s.m core g.x).2 (s.put core (some ⟨g.x, true, logRp⟩)).c).put core (some ⟨g.x, true, (rpOf s.m.t (doM s.m core g.x).1)⟩)) W9) := hJ9
      simp only [putAll, Act.put, List.setIfInBounds_toArray, List.set_cons_succ, List.set_cons_zero, Nat.zero_add, Nat.reduceAdd]
      clear hJ9 hv9
      go_wp2
      go_ret
      refine ⟨by rw [HF.out]; rfl, ?_⟩
      rw [HF.out]
      have h9 := HN9.out
      rw [show (R31.mk (doM s.m core g.x).2 (s.put core (some ⟨g.x, true, logRp⟩)).c) = (R31.mk (doM s.m core g.x).2 s.c).put core (some ⟨g.x, true, logRp⟩) from rfl, put_put] at h9
      exact h9
end
end Go.Proofs.YtpcnolkdnmolgaaGreatDoor
