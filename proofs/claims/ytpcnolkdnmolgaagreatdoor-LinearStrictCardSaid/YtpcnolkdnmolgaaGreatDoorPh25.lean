/- linear: a replay in memory. -/
import Derived.Test.YtpcnolkdnmolgaaGreatDoorPh24
namespace Go.Proofs.YtpcnolkdnmolgaaGreatDoor
section
open Go.RowKit Go.Maps
def Far (w : World) (b : Nat) : Prop := (∃ cs T fr, w.heap[b]? = some (Obj.cells cs T fr) ∧ T ≠ 109 ∧ T ≠ 115 ∧ T ≠ 85 ∧ T ≠ 146) ∨ ∃ s, w.cell? ⟨b, 0, none⟩ = some (.string s)
def RelN (w w' : World) : Prop := w.heap.size ≤ w'.heap.size ∧ ∀ b, Far w b → w'.heap[b]? = w.heap[b]?
section
variable {B P Pt Pf N b : Nat} {y : Lay} {F : Nat → Prop} {w1 w w' : World} {m : MD}
theorem Far.lt (h : Far w b) : b < w.heap.size := by
 rcases h with ⟨cs, T, fr, h, _⟩ | ⟨s, h⟩
 · exact (Array.getElem?_eq_some_iff.1 h).1
 · cases hh : w.heap[b]? with
   | none => simp [World.cell?, hh] at h
   | some o => exact (Array.getElem?_eq_some_iff.1 hh).1
theorem ModM.far (h : ModM w F P Pt Pf N y m) (hb : Far w b) : ¬ Fm (Ft Pt y m.t) P Pf b := by
 rcases hb with ⟨cs, T, fr, hb, h1, h2, h3, h4⟩ | ⟨s, hb⟩
 · rintro (h5 | rfl | rfl)
   · exact Ft.not h.tree hb h1 h2 h5
   · rw [h.head] at hb
     cases hb
     exact h3 rfl
   · obtain ⟨cs', h5, _⟩ := h.tab.ex
     rw [h5] at hb
     cases hb
     exact h4 rfl
 · rintro ((rfl | rfl | ⟨i, x, hx, h3⟩) | rfl | rfl)
   · simp [World.cell?, h.tree.head] at hb
   · obtain ⟨es, c, hm⟩ := h.tree.nodes.isMap
     simp [World.cell?, hm] at hb
   · have hn := h.tree.node i x hx
     rcases h3 with rfl | rfl | rfl
     · simp [World.cell?, hn.cells] at hb
     · obtain ⟨es, c, hm⟩ := hn.ents.isMap
       simp [World.cell?, hm] at hb
     · obtain ⟨es, c, hm⟩ := hn.pages.isMap
       simp [World.cell?, hm] at hb
   · simp [World.cell?, h.head] at hb
   · have := h.tab.cell (i := 0) (by decide)
     rw [this] at hb
     cases hb
theorem ModM.tightN (h : ModM w F P Pt Pf N y m) : ModM w (Ft Pt y m.t) P Pt Pf N y m := mod_of h.tree h.tab h.head
theorem Fm.subN (h : ModM w F P Pt Pf N y m) : ∀ b, Fm (Ft Pt y m.t) P Pf b → Fm F P Pf b := by
 rintro b (h1 | h1)
 · exact .inl (Ft.sub h.tree b h1)
 · exact .inr h1
theorem own_do_r (x : Cx) (hx : x.Fits) (core : Int) (h : MOwn B w1 P Pt Pf N m [] w) (hk : KindsAt w1) (hB0 : 0 < B) (hN : N ≤ 50000) :
  Calls Tryz.prog 12 #[.pointer (some ⟨P, 0, none⟩), .int .i64 core, callV x] w fun e w' => (∃ v, e = .returned v ∧ ResV m.t w.heap.size w' (doM m core x).1 v) ∧ MOwn B w1 P Pt Pf (N + 2) (doM m core x).2 [] w' ∧ RelN w w' := by
 obtain ⟨y, F, hM0, hO, hF0, hs, hB, _⟩ := h
 have hM := hM0.tightN
 have hF := fun b hb => hF0 b (Fm.subN hM0 b hb)
 obtain ⟨a, ha, ha2⟩ := hx.act
 refine (t_doM w hM hO core x a ha ha2 hx.path hx.path2 hx.data hx.size hN (hk.below hB hB0)).mono fun e w' ⟨v, he, hv, y', F', hM', hU⟩ => ⟨⟨v, he, hv⟩, ⟨y', F', hM', (deed_do hO core x hx.size).1, fun b hb => ?_, Nat.le_trans hs hU.size, hB.trans (hU.below hF hs), KeptL.nil⟩, hU.size, fun b hb => hU.block b hb.lt (hM0.far hb)⟩
 rcases hU.foot b hb with h1 | h1
 · exact hF b h1
 · exact Nat.le_trans hs h1
theorem MOwn.turn1 (h : MOwn B w1 P Pt Pf N m [] w) (hb : Far w b) (hBb : B ≤ b) (h1 : ∀ k, k ≠ b → w'.heap[k]? = w.heap[k]?) (hs : w'.heap.size = w.heap.size) (ho : w'.os = w.os) (ht : w'.tape = w.tape) (hu : w'.output = w.output) : MOwn B w1 P Pt Pf N m [] w' := by
 obtain ⟨y, F, hM0, hO, hF0, hsz, hB, _⟩ := h
 have n1 := hM0.far hb
 exact ⟨y, _, hM0.tightN.same (w' := w') (fun k hf => h1 k (fun e => n1 (e ▸ hf))) (Nat.le_of_eq hs.symm), hO, fun k hf => hF0 k (Fm.subN hM0 k hf), hs ▸ hsz, ⟨ho.trans hB.os, ht.trans hB.tape, hu.trans hB.output, hs ▸ hB.size, fun c hc => (h1 c (by omega)).trans (hB.block c hc)⟩, KeptL.nil⟩
theorem MOwn.setCell (h : MOwn B w1 P Pt Pf N m [] w) (hb : Far w b) (hBb : B ≤ b) (k : Nat) (v : Value) : MOwn B w1 P Pt Pf N m [] (w.setCell ⟨b, k, none⟩ v) :=
 h.turn1 hb hBb (fun j hj => Below.heap_setCell _ _ _ j hj) (by simp [World.setCell]) rfl rfl rfl
end
def GRAt (w : World) (r : Rp) (v : Value) : Prop := ∃ A c, v = r.val A c ∧ EntsAt w A r.lst
section
variable {w w' : World} {r : Rp} {v : Value}
theorem GRAt.below (h : GRAt w r v) (hb : Below w.heap.size w w') : GRAt w' r v := by
 obtain ⟨A, c, h1, h2⟩ := h
 exact ⟨A, c, h1, h2.below hb⟩
theorem EntsAt.far {A : Option Addr} {L : List E} (h : EntsAt w A L) (hr : ∀ b, (∃ s, w.cell? ⟨b, 0, none⟩ = some (.string s)) → w'.heap[b]? = w.heap[b]?) (hs : w.heap.size ≤ w'.heap.size) : EntsAt w' A L := ⟨fun h0 => by
 obtain ⟨b, h1, h2, h3⟩ := h.at_ h0
 have e := hr b ⟨_, by have := (h3 0 _ (List.getElem?_eq_getElem h0)).1; rw [Nat.zero_mul] at this; exact this⟩
 exact ⟨b, h1, Nat.lt_of_lt_of_le h2 hs, fun k x hk => ⟨(World.cell?_of_block (a := ⟨b, _, none⟩) e).trans (h3 k x hk).1, (World.cell?_of_block (a := ⟨b, _, none⟩) e).trans (h3 k x hk).2⟩⟩⟩
theorem GRAt.far (h : GRAt w r v) (hr : ∀ b, (∃ s, w.cell? ⟨b, 0, none⟩ = some (.string s)) → w'.heap[b]? = w.heap[b]?) (hs : w.heap.size ≤ w'.heap.size) : GRAt w' r v := by
 obtain ⟨A, c, h1, h2⟩ := h
 exact ⟨A, c, h1, h2.far hr hs⟩
end
theorem grat_of {t : PT} {lo : Nat} {w : World} {r : Rs} {v : Value} (h : ResV t lo w r v) (hs : ∃ a b d e : Int, statCells r.stat = [.int .u32 a, .int .u8 b, .int .i64 d, .int .u32 e]) : GRAt w (rpOf t r) v := by
 obtain ⟨lv, rfl, hl⟩ := h
 obtain ⟨a, b, d, e, hs⟩ := hs
 unfold rpOf resCells
 rw [hs]
 dsimp only
 unfold ListV at hl
 cases hr : r.ls with
 | none =>
  rw [hr] at hl
  dsimp only at hl
  subst hl
  exact ⟨none, 0, rfl, ⟨fun h => absurd h (by simp)⟩⟩
 | some k =>
  rw [hr] at hl
  obtain ⟨A, c, L, rfl, h2, h3, _⟩ := hl
  have e2 : entsOf t k = L := entsOf_spec h2
  dsimp only
  rw [e2]
  exact ⟨A, c, rfl, h3⟩
def GoAt (w : World) (G : Nat) (g : Go31) : Prop := ∃ vr : List Value, w.heap[G]? = some (.cells (callCells g.x ++ .bool g.com :: vr).toArray 276 (0, 0)) ∧ GRAt w g.r (.agg vr.toArray)
def ptrV (o : Option Nat) : Value := .pointer (o.map fun G => ⟨G, 0, none⟩)
structure Rep (B : Nat) (w1 : World) (Q P Pt Pf C N q : Nat) (A : Option Addr) (n c : Nat) (s : R31) (w : World) : Prop where
 own : MOwn B w1 P Pt Pf N s.m [] w
 head : HeadR w Q P C q A n c
 tab : ∃ ps : List (Option Nat), ps.length = q ∧ w.heap[C]? = some (.cells (ps.map ptrV).toArray 274 (0, 0)) ∧ (∀ (k G : Nat), ps[k]? = some (some G) → B ≤ G ∧ ∃ g, s.c k = some g ∧ GoAt w G g) ∧ (∀ k : Nat, ps[k]? = some none → s.c k = none) ∧ (∀ k k' G : Nat, ps[k]? = some (some G) → ps[k']? = some (some G) → k = k')
 geQ : B ≤ Q
 geC : B ≤ C
section
variable {B Q P Pt Pf C N q n c : Nat} {w1 w w' : World} {A : Option Addr} {s : R31} {g : Go31} {G : Nat}
theorem GoAt.below (h : GoAt w G g) (hb : Below w.heap.size w w') : GoAt w' G g := by
 obtain ⟨vr, h1, h2⟩ := h
 exact ⟨vr, (hb.block _ (Array.getElem?_eq_some_iff.1 h1).1).trans h1, h2.below hb⟩
theorem GoAt.far (h : GoAt w G g) (hg : w'.heap[G]? = w.heap[G]?) (hr : ∀ b, (∃ s, w.cell? ⟨b, 0, none⟩ = some (.string s)) → w'.heap[b]? = w.heap[b]?) (hs : w.heap.size ≤ w'.heap.size) : GoAt w' G g := by
 obtain ⟨vr, h1, h2⟩ := h
 exact ⟨vr, hg.trans h1, h2.far hr hs⟩
theorem GoAt.isFar (h : GoAt w G g) : Far w G := by
 obtain ⟨vr, h1, _⟩ := h
 exact .inl ⟨_, _, _, h1, by decide, by decide, by decide, by decide⟩
theorem Rep.below (h : Rep B w1 Q P Pt Pf C N q A n c s w) (hb : Below w.heap.size w w') : Rep B w1 Q P Pt Pf C N q A n c s w' := by
 obtain ⟨h1, h2, ⟨ps, a1, a2, a3, a4, a5⟩, h4, h5⟩ := h
 refine ⟨h1.below hb, h2.below hb, ⟨ps, a1, (hb.block _ (Array.getElem?_eq_some_iff.1 a2).1).trans a2, fun k G hk => ?_, a4, a5⟩, h4, h5⟩
 obtain ⟨b1, g, b2, b3⟩ := a3 k G hk
 exact ⟨b1, g, b2, b3.below hb⟩
theorem Rep.isFarQ (h : Rep B w1 Q P Pt Pf C N q A n c s w) : Far w Q := .inl ⟨_, _, _, h.head, by decide, by decide, by decide, by decide⟩
theorem Rep.isFarC (h : Rep B w1 Q P Pt Pf C N q A n c s w) : Far w C := by
 obtain ⟨ps, a1, a2, _⟩ := h.tab
 exact .inl ⟨_, _, _, a2, by decide, by decide, by decide, by decide⟩
theorem Rep.mono {N' : Nat} (h : Rep B w1 Q P Pt Pf C N q A n c s w) (hN : N ≤ N') : Rep B w1 Q P Pt Pf C N' q A n c s w := { h with own := h.own.mono hN }
theorem Rep.do_ (h : Rep B w1 Q P Pt Pf C N q A n c s w) (x : Cx) (hx : x.Fits) (core : Int) (hk : KindsAt w1) (hB0 : 0 < B) (hN : N ≤ 50000) :
  Calls Tryz.prog 12 #[.pointer (some ⟨P, 0, none⟩), .int .i64 core, callV x] w fun e w' => (∃ v, e = .returned v ∧ GRAt w' (rpOf s.m.t (doM s.m core x).1) v) ∧ Rep B w1 Q P Pt Pf C (N + 2) q A n c ⟨(doM s.m core x).2, s.c⟩ w' ∧ RelN w w' := by
 refine (own_do_r x hx core h.own hk hB0 hN).mono fun e w' ⟨⟨v, he, hv⟩, ho, hr⟩ => ⟨⟨v, he, grat_of hv (do_stat4 _ _ _)⟩, ?_, hr⟩
 obtain ⟨ps, a1, a2, a3, a4, a5⟩ := h.tab
 refine ⟨ho, (hr.2 _ h.isFarQ).trans h.head, ⟨ps, a1, (hr.2 _ h.isFarC).trans a2, fun k G hk => ?_, a4, a5⟩, h.geQ, h.geC⟩
 obtain ⟨b1, g, b2, b3⟩ := a3 k G hk
 exact ⟨b1, g, b2, b3.far (hr.2 _ b3.isFar) (fun b hb => hr.2 b (.inr hb)) hr.1⟩
end
end

section
open Go.RowKit Go.Maps
section
variable {B Q P Pt Pf C N q n c : Nat} {w1 w w' : World} {A : Option Addr} {s : R31}
theorem Rep.at_ (h : Rep B w1 Q P Pt Pf C N q A n c s w) {k : Nat} (hk : k < q) : ∃ o : Option Nat, (∀ W, Below w.heap.size w W → W.cell? ⟨C, k, none⟩ = some (ptrV o)) ∧ w.frozen? ⟨C, k, none⟩ = false ∧ C < w.heap.size ∧ (match o with | none => s.c k = none | some G => B ≤ G ∧ ∃ g, s.c k = some g ∧ GoAt w G g) := by
 obtain ⟨ps, a1, a2, a3, a4, a5⟩ := h.tab
 have hlt := (Array.getElem?_eq_some_iff.1 a2).1
 obtain ⟨o, ho⟩ : ∃ o, ps[k]? = some o := ⟨ps[k]'(by omega), List.getElem?_eq_getElem _⟩
 refine ⟨o, fun W hW => ?_, by simp [World.frozen?, a2], hlt, ?_⟩
 · have h2 := (hW.block C hlt).trans a2
   simp [World.cell?, h2, ho]
 · cases o with
   | none => exact a4 k ho
   | some G => exact a3 k G ho
theorem Rep.mem (h : Rep B w1 Q P Pt Pf C N q A n c s w) : Below B w1 w := h.own.mem
end
theorem ev_call {w : World} {B : Nat} {y : Ev} (h : w.heap[B]? = some (.cells y.cells.toArray 120 (0, 0))) : w.cell? ⟨B, 2, none⟩ = some (.int .u8 y.x.act) ∧ w.cell? ⟨B, 2 + 1, none⟩ = some (.string y.x.path) ∧ w.cell? ⟨B, 2 + 2, none⟩ = some (.string y.x.path2) ∧ w.cell? ⟨B, 2 + 3, none⟩ = some (.int .i64 y.x.fd) ∧ w.cell? ⟨B, 2 + 4, none⟩ = some (.int .i64 y.x.page) ∧ w.cell? ⟨B, 2 + 5, none⟩ = some (.int .u32 y.x.size) ∧ w.cell? ⟨B, 2 + 6, none⟩ = some (.string y.x.data) := by
 simp [World.cell?, h, Ev.cells]
def RelC (C : Nat) (W W' : World) : Prop := ∀ (b : Nat) (o : Obj), b ≠ C → W.heap[b]? = some o → W'.heap[b]? = some o
theorem RelC.of {C : Nat} {W W' : World} (h : RelB W W') : RelC C W W' := fun b _o _ hb => ((relB_get h).block b (Array.getElem?_eq_some_iff.1 hb).1).trans hb
def isNewG (lo : Nat) (cs : Array Value) : Ph := fun v W => ∃ G, v = .pointer (some ⟨G, 0, none⟩) ∧ lo ≤ G ∧ W.heap[G]? = some (Obj.cells cs 276 (0, 0))
theorem isNewG.stay {C lo : Nat} {cs : Array Value} (hC : C < lo) : ∀ v W W', isNewG lo cs v W → RelC C W W' → isNewG lo cs v W' := fun v W W' hh hr => by
 obtain ⟨G, h1, h2, h3⟩ := hh
 exact ⟨G, h1, h2, hr G _ (by omega) h3⟩
theorem Rep.begin {B Q P Pt Pf C N q n c G core : Nat} {w1 w3 W : World} {A : Option Addr} {s : R31} {x : Cx} (h : Rep B w1 Q P Pt Pf C N q A n c s w3) (hb : Below w3.heap.size w3 W) (hG : w3.heap.size ≤ G) (hg : W.heap[G]? = some (.cells (callCells x ++ .bool false :: zeroR).toArray 276 (0, 0))) (hk : core < q) :
  Rep B w1 Q P Pt Pf C N q A n c (s.put core (some ⟨x, false, zRp⟩)) (W.setCell ⟨C, core, none⟩ (.pointer (some ⟨G, 0, none⟩))) := by
 have hR := h.below hb
 obtain ⟨ps, a1, a2, a3, a4, a5⟩ := h.tab
 have hCl := (Array.getElem?_eq_some_iff.1 a2).1
 have hBs := h.own.base
 have e2 : ∀ j, j ≠ C → (W.setCell ⟨C, core, none⟩ (.pointer (some ⟨G, 0, none⟩))).heap[j]? = W.heap[j]? := fun j hj => Below.heap_setCell _ _ _ j hj
 have hQC : Q ≠ C := fun e => by
  have h1 := h.head
  unfold HeadR at h1
  rw [e, a2] at h1
  injection h1 with h1
  injection h1 with _ h1
  exact absurd h1 (by decide)
 have old : ∀ k G', ps[k]? = some (some G') → G' < w3.heap.size ∧ G' ≠ C := fun k G' hk => by
  obtain ⟨_, g, _, vr, b3, _⟩ := a3 k G' hk
  refine ⟨(Array.getElem?_eq_some_iff.1 b3).1, fun e => ?_⟩
  rw [e, a2] at b3
  injection b3 with b3
  injection b3 with _ b3
  exact absurd b3 (by decide)
 have hstr : ∀ b, (∃ s, W.cell? ⟨b, 0, none⟩ = some (.string s)) → b ≠ C := fun b ⟨s, hs⟩ e => by
  have h2 := (hb.block C hCl).trans a2
  rw [e] at hs
  simp only [World.cell?, h2] at hs
  cases hps : ps[0]? with
  | none => simp [hps] at hs
  | some o => simp [hps, ptrV] at hs
 refine ⟨hR.own.setCell (hR.isFarC) h.geC _ _, ?_, ⟨ps.set core (some G), by simpa using a1, ?_, fun k G' hk2 => ?_, fun k hk2 => ?_, fun k k' G' h1 h2 => ?_⟩, h.geQ, h.geC⟩
 · exact (e2 Q hQC).trans hR.head
 · have h2 := (hb.block C hCl).trans a2
   rw [pheap_set W C core _ _ _ h2]
   congr 2
   simp [List.map_set, ptrV]
 · rw [List.getElem?_set] at hk2
   by_cases c : core = k
   · rw [if_pos c, if_pos (by omega)] at hk2
     injection hk2 with hk2
     injection hk2 with hk2
     subst hk2
     refine ⟨by omega, _, if_pos (by rw [c]), zeroR, (e2 G (by omega)).trans hg, none, 0, rfl, ⟨fun h => absurd h (by simp [zRp])⟩⟩
   · rw [if_neg c] at hk2
     obtain ⟨b1, g, b2, b3⟩ := a3 k G' hk2
     refine ⟨b1, g, ?_, (b3.below hb).far (e2 G' (old k G' hk2).2) (fun b hb2 => e2 b (hstr b hb2)) (by simp [World.setCell])⟩
     show (if (k : Int) = (core : Int) then _ else s.c k) = _
     rw [if_neg (by omega)]
     exact b2
 · rw [List.getElem?_set] at hk2
   by_cases c : core = k
   · rw [if_pos c, if_pos (by omega)] at hk2
     cases hk2
   · rw [if_neg c] at hk2
     show (if (k : Int) = (core : Int) then _ else s.c k) = _
     rw [if_neg (by omega)]
     exact a4 k hk2
 · rw [List.getElem?_set] at h1 h2
   by_cases c : core = k <;> by_cases c' : core = k'
   · omega
   · rw [if_pos c, if_pos (by omega)] at h1
     rw [if_neg c'] at h2
     injection h1 with h1
     injection h1 with h1
     have := (old k' G' h2).1
     omega
   · rw [if_neg c] at h1
     rw [if_pos c', if_pos (by omega)] at h2
     injection h2 with h2
     injection h2 with h2
     have := (old k G' h1).1
     omega
   · rw [if_neg c] at h1
     rw [if_neg c'] at h2
     exact a5 k k' G' h1 h2
structure EvAt (w1 : World) (A : Option Addr) (n c q : Nat) (l : List Ev) (i : Nat) (e : Ev) (core : Nat) : Prop where
 evs : EvsAt w1 A l
 lists : EvsL w1 l
 len : l.length = n
 small : n ≤ 1000
 cap : n ≤ c
 cap2 : c ≤ maxLen
 fits : ∀ e ∈ l, Ev.Fits e
 at_ : l[i]? = some e
 cor : e.core = core
 lt : core < q
theorem EvAt.lti {w1 : World} {A : Option Addr} {n c q i core : Nat} {l : List Ev} {e : Ev} (h : EvAt w1 A n c q l i e core) : i < n := by rw [← h.len]; exact (List.getElem?_eq_some_iff.1 h.at_).1
theorem Ev.Fits.cx {e : Ev} (h : e.Fits) : e.x.Fits := ⟨h.act, h.path, h.path2, h.data, h.size⟩
set_option maxRecDepth 100000 in
set_option maxHeartbeats 4000000 in
theorem t_begin31 {w1 : World} {Q P Pt Pf C N q n c i core : Nat} {A : Option Addr} {l : List Ev} {e : Ev} {s : R31} (w : World) (hE : EvAt w1 A n c q l i e core) (hK : KindsAt w1) (hR : Rep w1.heap.size w1 Q P Pt Pf C N q A n c s w) :
  Calls Tryz.prog 133 #[.pointer (some ⟨Q, 0, none⟩), .int .i64 (i : Int)] w fun e' w' => e' = .returned (.int .i64 (begin31 s e).1) ∧ Rep w1.heap.size w1 Q P Pt Pf C N q A n c (begin31 s e).2 w' := by
 have hi := hE.lti
 have hcq := hE.lt
 have hn2 := hE.small
 obtain ⟨o, ho, hfo, hCl, hgo⟩ := hR.at_ hcq
 obtain ⟨b, off, rfl, hb, hc⟩ := hE.evs.get hE.at_
 have HRA := zz (hc w hR.mem)
 obtain ⟨_, h1, h2⟩ := hR.head.cells
 obtain ⟨w3, hst, hw3, hb3⟩ := ev_store w e
 have HST := zz hst
 have HB3 := zz hb3
 have hh3 := hR.head.below hb3
 have HQ2 := zz (show ∀ W, Below w3.heap.size w3 W → W.cell? ⟨Q, 2, none⟩ = some (.slice (some ⟨C, 0, none⟩) q q) from fun W hb => (hh3.below hb).cells.2.2)
 have HCK := zz (show ∀ W, Below w3.heap.size w3 W → W.cell? ⟨C, core, none⟩ = some (ptrV o) from fun W hb => ho W (ptrans hb3 hb))
 have hX := (Array.getElem?_eq_some_iff.1 hw3).1
 have HX0 := zz (show ∀ W, Below w3.heap.size w3 W → W.cell? ⟨w.heap.size, 0, none⟩ = some (.int .i64 (core : Int)) from fun W hb => by rw [(ev_ck ((hb.block _ hX).trans hw3)).1, hE.cor])
 have HXC := zz (fun (W : World) (hb : Below w3.heap.size w3 W) => ev_call ((hb.block _ hX).trans hw3))
 have hfx := hE.fits e (List.mem_of_getElem? hE.at_)
 obtain ⟨a, ha, ha2⟩ := hfx.act
 have HKC := zz (show ∀ W, Below w3.heap.size w3 W → Calls Tryz.prog 44 #[.agg #[.int .u8 e.x.act, .string e.x.path, .string e.x.path2, .int .i64 e.x.fd, .int .i64 e.x.page, .int .u32 e.x.size, .string e.x.data]] W fun e' w' => e' = .returned (.int .i64 (checkC e.x)) ∧ Below W.heap.size W w' from fun W hb => t_callCheck e.x a ha ha2 hfx.path hfx.path2 W (hK.below (hR.mem.trans ((ptrans hb3 hb).mono hR.own.base)) hK.pos))
 have HRV := zz (show ∀ W, Below w3.heap.size w3 W → Rep w1.heap.size w1 Q P Pt Pf C N q (some ⟨b, off, none⟩) n c s W from fun W hb => hR.below (ptrans hb3 hb))
 have HCO := zz hE.cor
 have HGO := zz hgo
 obtain ⟨ev, hev⟩ : ∃ ev, e.cells = ev := ⟨_, rfl⟩
 rw [hev] at HRA HST
 have HINF := zz (show (Tryz.prog.info? 120).map (·.size) = some ev.length from by rw [← hev, ev_len]; exact infoEv)
 clear hb hc hst hw3 hb3 hE hK hR ho hgo hev hfo hfx ha ha2 hX hh3
 obtain ⟨r, hr⟩ : ∃ r, begin31 s e = r := ⟨_, rfl⟩
 rw [hr]
 have HR := zz hr
 clear hr
 have hb1 : begin31 s e = if (s.c core).isSome = true ∨ checkC e.x ≠ 0 then (310, s) else (0, s.put core (some ⟨e.x, false, zRp⟩)) := by
  unfold begin31
  rw [HCO.out]
 rw [HR.out] at hb1
 cases o with
 | some G =>
  obtain ⟨-, g, hg, -⟩ := HGO.out
  have HF := zz (show r = (310, s) from by rw [hb1, hg, if_pos (.inl rfl)])
  clear hg hb1
  go_enter Tryz.func133, Tryz.ntmps133
  go_wp2_with (first
   | (refine wpList_load_mid rfl 120 _ rfl b _ rfl ev _ HRA.out Tryz.underlying120 rfl HINF.out ?_)
   | ((with_reducible refine wpList_alloc_z 120 zEv.cells.toArray zeroEv ?_); intro w5 hw5; rw [hw5])
   | (refine wpList_store_run 120 5 12 w3 _ _ rfl rfl HST.out ?_))
  refine wp_region_rel RelB (phi [isV (.pointer (some ⟨Q, 0, none⟩)), isV (.pointer (some ⟨Q, 0, none⟩)), isV (.pointer (some ⟨Q, 2, none⟩)), isV (.slice (some ⟨C, 0, none⟩) q q), isV (.pointer (some ⟨w.heap.size, 0, none⟩)), isV (.int .i64 (core : Int)), isV (.pointer (some ⟨C, core, none⟩)), isV (.pointer (some ⟨G, 0, none⟩)), isV (.bool true), isV (.bool true), (fun _ _ => True), (fun _ _ => True), (fun _ _ => True), (fun _ _ => True), isV (.bool true)]) (by kernel_rfl) (by kernel_rfl) (by kernel_rfl) (RelB.of (below_drew _)) (fun _ _ _ a b => a.trans b) ?_ ?_ ?_
  · refine stays_phiR ?_
    simp only [List.forall_mem_cons]
    exact ⟨kv, kv, kv, kv, kv, kv, kv, kv, kv, kv, fun _ _ _ _ _ => trivial, fun _ _ _ _ _ => trivial, fun _ _ _ _ _ => trivial, fun _ _ _ _ _ => trivial, kv, fun _ h => absurd h (by simp)⟩
  · refine ⟨?_, ?_, ?_, ?_, ?_, ?_, ?_, ?_, ?_, ?_, ?_, ?_, ?_, ?_, ?_, trivial⟩
    · refine opR_mk rfl fun aa W2 hB hp hq K hK => ?_
      have e0 : aa.tmps[0]?.getD undef = .pointer (some ⟨Q, 0, none⟩) := hp 0 (by kernel_rfl)
      clear hp hq
      go_simp
      exact hK _ _ (RelB.refl _) rfl
    · refine opR_mk rfl fun aa W2 hB hp hq K hK => ?_
      have e13 : aa.tmps[13]?.getD undef = .pointer (some ⟨Q, 0, none⟩) := hq 0 _ (by kernel_rfl) rfl
      clear hp hq
      go_simp
      exact hK _ _ (RelB.refl _) rfl
    · refine opR_mk rfl fun aa W2 hB hp hq K hK => ?_
      have e14 : aa.tmps[14]?.getD undef = .pointer (some ⟨Q, 0, none⟩) := hq 1 _ (by kernel_rfl) rfl
      clear hp hq
      go_simp
      exact hK _ _ (RelB.refl _) rfl
    · refine opR_mk rfl fun aa W2 hB hp hq K hK => ?_
      have e15 : aa.tmps[15]?.getD undef = .pointer (some ⟨Q, 2, none⟩) := hq 2 _ (by kernel_rfl) rfl
      have d1 := HQ2.out W2 (relB_get hB)
      clear hp hq
      go_simp
      exact hK _ _ (RelB.refl _) rfl
    · refine opR_mk rfl fun aa W2 hB hp hq K hK => ?_
      have e5 : aa.tmps[5]?.getD undef = .pointer (some ⟨w.heap.size, 0, none⟩) := hp 5 (by kernel_rfl)
      clear hp hq
      go_simp
      exact hK _ _ (RelB.refl _) rfl
    · refine opR_mk rfl fun aa W2 hB hp hq K hK => ?_
      have e17 : aa.tmps[17]?.getD undef = .pointer (some ⟨w.heap.size, 0, none⟩) := hq 4 _ (by kernel_rfl) rfl
      have d2 := HX0.out W2 (relB_get hB)
      clear hp hq
      go_simp
      exact hK _ _ (RelB.refl _) rfl
    · refine opR_mk rfl fun aa W2 hB hp hq K hK => ?_
      have e16 : aa.tmps[16]?.getD undef = .slice (some ⟨C, 0, none⟩) q q := hq 3 _ (by kernel_rfl) rfl
      have e18 : aa.tmps[18]?.getD undef = .int .i64 (core : Int) := hq 5 _ (by kernel_rfl) rfl
      clear hp hq
      go_simp
      exact hK _ _ (RelB.refl _) rfl
    · refine opR_mk rfl fun aa W2 hB hp hq K hK => ?_
      have e19 : aa.tmps[19]?.getD undef = .pointer (some ⟨C, core, none⟩) := hq 6 _ (by kernel_rfl) rfl
      have d3 : W2.cell? ⟨C, core, none⟩ = some (.pointer (some ⟨G, 0, none⟩)) := HCK.out W2 (relB_get hB)
      clear hp hq
      go_simp
      exact hK _ _ (RelB.refl _) rfl
    · refine opR_mk rfl fun aa W2 hB hp hq K hK => ?_
      have e20 : aa.tmps[20]?.getD undef = .pointer (some ⟨G, 0, none⟩) := hq 7 _ (by kernel_rfl) rfl
      clear hp hq
      go_simp
      exact hK _ _ (RelB.refl _) rfl
    · refine opR_mk rfl fun aa W2 hB hp hq K hK => ?_
      have e21 : aa.tmps[21]?.getD undef = .bool true := hq 8 _ (by kernel_rfl) rfl
      clear hp hq
      go_simp
      exact hK _ _ (RelB.refl _) rfl
    · exact opR_guard (j := 9) (d := 22) (c := true) rfl rfl (by kernel_rfl) rfl rfl (fun v W h => h) (fun _ => RelB.refl _) (fun _ _ => trivial) (fun hc => absurd hc (by decide))
    · exact opR_guard (j := 9) (d := 22) (c := true) rfl rfl (by kernel_rfl) rfl rfl (fun v W h => h) (fun _ => RelB.refl _) (fun _ _ => trivial) (fun hc => absurd hc (by decide))
    · exact opR_guard (j := 9) (d := 22) (c := true) rfl rfl (by kernel_rfl) rfl rfl (fun v W h => h) (fun _ => RelB.refl _) (fun _ _ => trivial) (fun hc => absurd hc (by decide))
    · exact opR_guard (j := 9) (d := 22) (c := true) rfl rfl (by kernel_rfl) rfl rfl (fun v W h => h) (fun _ => RelB.refl _) (fun _ _ => trivial) (fun hc => absurd hc (by decide))
    · refine opR_mk rfl fun aa W2 hB hp hq K hK => ?_
      have e22 : aa.tmps[22]?.getD undef = .bool true := hq 9 _ (by kernel_rfl) rfl
      clear hp hq
      go_simp
      exact hK _ _ (RelB.refl _) rfl
  · intro vs W3 hB3 hv3 _
    have v14 : vs 14 = .bool true := hv3 14 _ rfl rfl
    have HB4 := zz (relB_get hB3)
    simp only [putAll, Act.put, List.setIfInBounds_toArray, List.set_cons_succ, List.set_cons_zero, Nat.zero_add, Nat.reduceAdd]
    rw [v14]
    clear hB3 hv3 v14
    go_wp2
    go_ret
    exact ⟨by rw [HF.out]; rfl, by rw [HF.out]; exact HRV.out _ HB4.out⟩
 | none =>
  have hgn : s.c core = none := HGO.out
  by_cases hck : checkC e.x = 0
  · have HF := zz (show r = (0, s.put core (some ⟨e.x, false, zRp⟩)) from by rw [hb1, hgn, hck]; rfl)
    have HCZ := zz hck
    rw [hck] at HKC
    clear hb1 hck
    go_enter Tryz.func133, Tryz.ntmps133
    go_wp2_with (first
     | (refine wpList_load_mid rfl 120 _ rfl b _ rfl ev _ HRA.out Tryz.underlying120 rfl HINF.out ?_)
     | ((with_reducible refine wpList_alloc_z 120 zEv.cells.toArray zeroEv ?_); intro w5 hw5; rw [hw5])
     | (refine wpList_store_run 120 5 12 w3 _ _ rfl rfl HST.out ?_))
    refine wp_region_rel RelB (phi [isV (.pointer (some ⟨Q, 0, none⟩)), isV (.pointer (some ⟨Q, 0, none⟩)), isV (.pointer (some ⟨Q, 2, none⟩)), isV (.slice (some ⟨C, 0, none⟩) q q), isV (.pointer (some ⟨w.heap.size, 0, none⟩)), isV (.int .i64 (core : Int)), isV (.pointer (some ⟨C, core, none⟩)), isV (.pointer none), isV (.bool false), isV (.bool false), isV (.pointer (some ⟨w.heap.size, 2, none⟩)), isV (.agg #[.int .u8 e.x.act, .string e.x.path, .string e.x.path2, .int .i64 e.x.fd, .int .i64 e.x.page, .int .u32 e.x.size, .string e.x.data]), isV (.int .i64 0), isV (.bool false), isV (.bool false)]) (by kernel_rfl) (by kernel_rfl) (by kernel_rfl) (RelB.of (below_drew _)) (fun _ _ _ a b => a.trans b) ?_ ?_ ?_
    · refine stays_phiR ?_
      simp only [List.forall_mem_cons]
      exact ⟨kv, kv, kv, kv, kv, kv, kv, kv, kv, kv, kv, kv, kv, kv, kv, fun _ h => absurd h (by simp)⟩
    · refine ⟨?_, ?_, ?_, ?_, ?_, ?_, ?_, ?_, ?_, ?_, ?_, ?_, ?_, ?_, ?_, trivial⟩
      · refine opR_mk rfl fun aa W2 hB hp hq K hK => ?_
        have e0 : aa.tmps[0]?.getD undef = .pointer (some ⟨Q, 0, none⟩) := hp 0 (by kernel_rfl)
        clear hp hq
        go_simp
        exact hK _ _ (RelB.refl _) rfl
      · refine opR_mk rfl fun aa W2 hB hp hq K hK => ?_
        have e13 : aa.tmps[13]?.getD undef = .pointer (some ⟨Q, 0, none⟩) := hq 0 _ (by kernel_rfl) rfl
        clear hp hq
        go_simp
        exact hK _ _ (RelB.refl _) rfl
      · refine opR_mk rfl fun aa W2 hB hp hq K hK => ?_
        have e14 : aa.tmps[14]?.getD undef = .pointer (some ⟨Q, 0, none⟩) := hq 1 _ (by kernel_rfl) rfl
        clear hp hq
        go_simp
        exact hK _ _ (RelB.refl _) rfl
      · refine opR_mk rfl fun aa W2 hB hp hq K hK => ?_
        have e15 : aa.tmps[15]?.getD undef = .pointer (some ⟨Q, 2, none⟩) := hq 2 _ (by kernel_rfl) rfl
        have d1 := HQ2.out W2 (relB_get hB)
        clear hp hq
        go_simp
        exact hK _ _ (RelB.refl _) rfl
      · refine opR_mk rfl fun aa W2 hB hp hq K hK => ?_
        have e5 : aa.tmps[5]?.getD undef = .pointer (some ⟨w.heap.size, 0, none⟩) := hp 5 (by kernel_rfl)
        clear hp hq
        go_simp
        exact hK _ _ (RelB.refl _) rfl
      · refine opR_mk rfl fun aa W2 hB hp hq K hK => ?_
        have e17 : aa.tmps[17]?.getD undef = .pointer (some ⟨w.heap.size, 0, none⟩) := hq 4 _ (by kernel_rfl) rfl
        have d2 := HX0.out W2 (relB_get hB)
        clear hp hq
        go_simp
        exact hK _ _ (RelB.refl _) rfl
      · refine opR_mk rfl fun aa W2 hB hp hq K hK => ?_
        have e16 : aa.tmps[16]?.getD undef = .slice (some ⟨C, 0, none⟩) q q := hq 3 _ (by kernel_rfl) rfl
        have e18 : aa.tmps[18]?.getD undef = .int .i64 (core : Int) := hq 5 _ (by kernel_rfl) rfl
        clear hp hq
        go_simp
        exact hK _ _ (RelB.refl _) rfl
      · refine opR_mk rfl fun aa W2 hB hp hq K hK => ?_
        have e19 : aa.tmps[19]?.getD undef = .pointer (some ⟨C, core, none⟩) := hq 6 _ (by kernel_rfl) rfl
        have d3 : W2.cell? ⟨C, core, none⟩ = some (.pointer none) := HCK.out W2 (relB_get hB)
        clear hp hq
        go_simp
        exact hK _ _ (RelB.refl _) rfl
      · refine opR_mk rfl fun aa W2 hB hp hq K hK => ?_
        have e20 : aa.tmps[20]?.getD undef = .pointer none := hq 7 _ (by kernel_rfl) rfl
        clear hp hq
        go_simp
        exact hK _ _ (RelB.refl _) rfl
      · refine opR_mk rfl fun aa W2 hB hp hq K hK => ?_
        have e21 : aa.tmps[21]?.getD undef = .bool false := hq 8 _ (by kernel_rfl) rfl
        clear hp hq
        go_simp
        exact hK _ _ (RelB.refl _) rfl
      · refine opR_guard (j := 9) (d := 22) (c := false) rfl rfl (by kernel_rfl) rfl rfl (fun v W h => h) (fun _ => RelB.refl _) (fun hne => absurd rfl hne) fun hc aa W2 hB hp hq K hK => ?_
        have e5 : aa.tmps[5]?.getD undef = .pointer (some ⟨w.heap.size, 0, none⟩) := hp 5 (by kernel_rfl)
        clear hp hq
        go_simp
        exact hK _ _ (RelB.refl _) rfl
      · refine opR_guard (j := 9) (d := 22) (c := false) rfl rfl (by kernel_rfl) rfl rfl (fun v W h => h) (fun _ => RelB.refl _) (fun hne => absurd rfl hne) fun hc aa W2 hB hp hq K hK => ?_
        have e23 : aa.tmps[23]?.getD undef = .pointer (some ⟨w.heap.size, 2, none⟩) := hq 10 _ (by kernel_rfl) rfl
        obtain ⟨z0, z1, z2, z3, z4, z5, z6⟩ := HXC.out W2 (relB_get hB)
        clear hp hq
        go_simp
        exact hK _ _ (RelB.refl _) rfl
      · refine opR_guard (j := 9) (d := 22) (c := false) rfl rfl (by kernel_rfl) rfl rfl (fun v W h => h) (fun _ => RelB.refl _) (fun hne => absurd rfl hne) fun hc aa W2 hB hp hq K hK => ?_
        have e24 : aa.tmps[24]?.getD undef = .agg #[.int .u8 e.x.act, .string e.x.path, .string e.x.path2, .int .i64 e.x.fd, .int .i64 e.x.page, .int .u32 e.x.size, .string e.x.data] := hq 11 _ (by kernel_rfl) rfl
        clear hp hq
        go_simp
        go_at_call 44
        (with_reducible refine (HKC.out W2 (relB_get hB)).mono ?_)
        rintro e5 w5 ⟨rfl, hb5⟩
        exact hK _ _ (RelB.of hb5) rfl
      · refine opR_guard (j := 9) (d := 22) (c := false) rfl rfl (by kernel_rfl) rfl rfl (fun v W h => h) (fun _ => RelB.refl _) (fun hne => absurd rfl hne) fun hc aa W2 hB hp hq K hK => ?_
        have e25 : aa.tmps[25]?.getD undef = .int .i64 0 := hq 12 _ (by kernel_rfl) rfl
        clear hp hq
        go_simp
        exact hK _ _ (RelB.refl _) rfl
      · refine opR_mk rfl fun aa W2 hB hp hq K hK => ?_
        have e22 : aa.tmps[22]?.getD undef = .bool false := hq 9 _ (by kernel_rfl) rfl
        have e26 : aa.tmps[26]?.getD undef = .bool false := hq 13 _ (by kernel_rfl) rfl
        clear hp hq
        go_simp
        exact hK _ _ (RelB.refl _) rfl
    · intro vs W3 hB3 hv3 _
      have v14 : vs 14 = .bool false := hv3 14 _ rfl rfl
      have HB4 := zz (relB_get hB3)
      simp only [putAll, Act.put, List.setIfInBounds_toArray, List.set_cons_succ, List.set_cons_zero, Nat.zero_add, Nat.reduceAdd]
      rw [v14]
      clear hB3 hv3 v14
      go_wp2
      have hRW := HRV.out _ HB4.out
      have HC3 : Hid (C < W3.heap.size) := hRW.isFarC.lt
      have HFC := zz (show ∀ W, Below W3.heap.size W3 W → W.frozen? ⟨C, core, none⟩ = false from fun W hb => by
       obtain ⟨ps, _, a2, _⟩ := (hRW.below hb).tab
       simp [World.frozen?, a2])
      have HCQ := zz hcq
      clear hRW
      refine wp_region_st (fun j W => if j = 0 then Below W3.heap.size W3 W else Rep w1.heap.size w1 Q P Pt Pf C N q (some ⟨b, off, none⟩) n c (s.put core (some ⟨e.x, false, zRp⟩)) W) RelB (RelC C) [11] (phi [isV (.pointer (some ⟨Q, 0, none⟩)), isV (.pointer (some ⟨Q, 0, none⟩)), isV (.pointer (some ⟨Q, 2, none⟩)), isV (.slice (some ⟨C, 0, none⟩) q q), isV (.pointer (some ⟨w.heap.size, 0, none⟩)), isV (.int .i64 (core : Int)), isV (.pointer (some ⟨w.heap.size, 2, none⟩)), isV (.agg #[.int .u8 e.x.act, .string e.x.path, .string e.x.path2, .int .i64 e.x.fd, .int .i64 e.x.page, .int .u32 e.x.size, .string e.x.data]), isV (.agg #[.int .u8 e.x.act, .string e.x.path, .string e.x.path2, .int .i64 e.x.fd, .int .i64 e.x.page, .int .u32 e.x.size, .string e.x.data, .bool false, .int .i64 0, .int .i64 0, .int .u32 0, .int .u32 0, .int .u8 0, .int .i64 0, .int .u32 0, .slice none 0 0, .string ⟨#[]⟩]), isNewG W3.heap.size #[.int .u8 e.x.act, .string e.x.path, .string e.x.path2, .int .i64 e.x.fd, .int .i64 e.x.page, .int .u32 e.x.size, .string e.x.data, .bool false, .int .i64 0, .int .i64 0, .int .u32 0, .int .u32 0, .int .u8 0, .int .i64 0, .int .u32 0, .slice none 0 0, .string ⟨#[]⟩], isV (.pointer (some ⟨C, core, none⟩)), (fun _ _ => True)]) (by kernel_rfl) (by kernel_rfl) (by kernel_rfl) (by kernel_rfl) (by kernel_rfl) (below_drew _) (fun j _ _ h hb => by by_cases hj : j = 0; (rw [if_pos hj] at h ⊢; exact ptrans h (relB_get hb)); (rw [if_neg hj] at h ⊢; exact h.below (relB_get hb))) (fun _ _ h => RelC.of h) ?_ ?_ ?_
      · refine stays_phiR ?_
        simp only [List.forall_mem_cons]
        exact ⟨kv, kv, kv, kv, kv, kv, kv, kv, kv, isNewG.stay HC3.out, kv, fun _ _ _ _ _ => trivial, fun _ h => absurd h (by simp)⟩
      · refine ⟨?_, ?_, ?_, ?_, ?_, ?_, ?_, ?_, ?_, ?_, ?_, ?_, trivial⟩
        · refine opS_mk rfl rfl fun aa W2 nJ hJ hp hq K hK => ?_
          have e0 : aa.tmps[0]?.getD undef = .pointer (some ⟨Q, 0, none⟩) := hp 0 (by kernel_rfl)
          clear hp hq
          go_simp
          exact hK _ _ (RelB.refl _) rfl
        · refine opS_mk rfl rfl fun aa W2 nJ hJ hp hq K hK => ?_
          have e28 : aa.tmps[28]?.getD undef = .pointer (some ⟨Q, 0, none⟩) := hq 0 _ (by kernel_rfl) rfl
          clear hp hq
          go_simp
          exact hK _ _ (RelB.refl _) rfl
        · refine opS_mk rfl rfl fun aa W2 nJ hJ hp hq K hK => ?_
          have e29 : aa.tmps[29]?.getD undef = .pointer (some ⟨Q, 0, none⟩) := hq 1 _ (by kernel_rfl) rfl
          clear hp hq
          go_simp
          exact hK _ _ (RelB.refl _) rfl
        · refine opS_ahead (m := 0) (k := 11) rfl rfl rfl rfl (by kernel_rfl) fun aa W2 nJ hnJ hJ hp hq K hK => ?_
          have e30 : aa.tmps[30]?.getD undef = .pointer (some ⟨Q, 2, none⟩) := hq 2 _ (by kernel_rfl) rfl
          obtain rfl : nJ = 0 := by omega
          have hJB : Below W3.heap.size W3 W2 := hJ
          have d1 := HQ2.out W2 (ptrans HB4.out hJB)
          clear hp hq
          go_simp
          exact hK _ _ (RelB.refl _) rfl
        · refine opS_mk rfl rfl fun aa W2 nJ hJ hp hq K hK => ?_
          have e5 : aa.tmps[5]?.getD undef = .pointer (some ⟨w.heap.size, 0, none⟩) := hp 5 (by kernel_rfl)
          clear hp hq
          go_simp
          exact hK _ _ (RelB.refl _) rfl
        · refine opS_ahead (m := 0) (k := 11) rfl rfl rfl rfl (by kernel_rfl) fun aa W2 nJ hnJ hJ hp hq K hK => ?_
          have e32 : aa.tmps[32]?.getD undef = .pointer (some ⟨w.heap.size, 0, none⟩) := hq 4 _ (by kernel_rfl) rfl
          obtain rfl : nJ = 0 := by omega
          have hJB : Below W3.heap.size W3 W2 := hJ
          have d2 := HX0.out W2 (ptrans HB4.out hJB)
          clear hp hq
          go_simp
          exact hK _ _ (RelB.refl _) rfl
        · refine opS_mk rfl rfl fun aa W2 nJ hJ hp hq K hK => ?_
          have e5 : aa.tmps[5]?.getD undef = .pointer (some ⟨w.heap.size, 0, none⟩) := hp 5 (by kernel_rfl)
          clear hp hq
          go_simp
          exact hK _ _ (RelB.refl _) rfl
        · refine opS_ahead (m := 0) (k := 11) rfl rfl rfl rfl (by kernel_rfl) fun aa W2 nJ hnJ hJ hp hq K hK => ?_
          have e34 : aa.tmps[34]?.getD undef = .pointer (some ⟨w.heap.size, 2, none⟩) := hq 6 _ (by kernel_rfl) rfl
          obtain rfl : nJ = 0 := by omega
          have hJB : Below W3.heap.size W3 W2 := hJ
          obtain ⟨z0, z1, z2, z3, z4, z5, z6⟩ := HXC.out W2 (ptrans HB4.out hJB)
          clear hp hq
          go_simp
          exact hK _ _ (RelB.refl _) rfl
        · refine opS_mk rfl rfl fun aa W2 nJ hJ hp hq K hK => ?_
          have e35 : aa.tmps[35]?.getD undef = .agg #[.int .u8 e.x.act, .string e.x.path, .string e.x.path2, .int .i64 e.x.fd, .int .i64 e.x.page, .int .u32 e.x.size, .string e.x.data] := hq 7 _ (by kernel_rfl) rfl
          clear hp hq
          go_simp
          exact hK _ _ (RelB.refl _) rfl
        · refine opS_ahead (m := 0) (k := 11) rfl rfl rfl rfl (by kernel_rfl) fun aa W2 nJ hnJ hJ hp hq K hK => ?_
          have e36 : aa.tmps[36]?.getD undef = .agg #[.int .u8 e.x.act, .string e.x.path, .string e.x.path2, .int .i64 e.x.fd, .int .i64 e.x.page, .int .u32 e.x.size, .string e.x.data, .bool false, .int .i64 0, .int .i64 0, .int .u32 0, .int .u32 0, .int .u8 0, .int .i64 0, .int .u32 0, .slice none 0 0, .string ⟨#[]⟩] := hq 8 _ (by kernel_rfl) rfl
          obtain rfl : nJ = 0 := by omega
          have hJB : Below W3.heap.size W3 W2 := hJ
          clear hp hq
          go_simp
          exact hK _ _ (RelB.of (below_a1 _ _)) ⟨W2.heap.size, rfl, hJB.size, heap_alloc_new _ _⟩
        · refine opS_mk rfl rfl fun aa W2 nJ hJ hp hq K hK => ?_
          have e31 : aa.tmps[31]?.getD undef = .slice (some ⟨C, 0, none⟩) q q := hq 3 _ (by kernel_rfl) rfl
          have e33 : aa.tmps[33]?.getD undef = .int .i64 (core : Int) := hq 5 _ (by kernel_rfl) rfl
          clear hp hq
          go_simp
          exact hK _ _ (RelB.refl _) rfl
        · refine opS_at (m := 0) rfl rfl fun aa W2 hJ hp hq K hK => ?_
          have e38 : aa.tmps[38]?.getD undef = .pointer (some ⟨C, core, none⟩) := hq 10 _ (by kernel_rfl) rfl
          have hJB : Below W3.heap.size W3 W2 := hJ
          obtain ⟨G, e37, hlo, hG⟩ : isNewG W3.heap.size #[.int .u8 e.x.act, .string e.x.path, .string e.x.path2, .int .i64 e.x.fd, .int .i64 e.x.page, .int .u32 e.x.size, .string e.x.data, .bool false, .int .i64 0, .int .i64 0, .int .u32 0, .int .u32 0, .int .u8 0, .int .i64 0, .int .u32 0, .slice none 0 0, .string ⟨#[]⟩] (aa.tmps[37]?.getD undef) W2 := hq 9 _ (by kernel_rfl) rfl
          have HG := zz hG
          have d3 : W2.cell? ⟨C, core, none⟩ = some (.pointer none) := HCK.out W2 (ptrans HB4.out hJB)
          have d4 := HFC.out W2 hJB
          have HNW := zz (Rep.begin (HRV.out _ HB4.out) hJB hlo hG HCQ.out)
          clear hJ hG hJB
          clear hp hq
          go_simp
          exact hK undef _ (fun b o hb ho => (Below.heap_setCell _ _ _ b hb).trans ho) HNW.out trivial
      · intro vs W9 hJ9 hv9 _
        have HN9 : Hid (Rep w1.heap.size w1 Q P Pt Pf C N q (some ⟨b, off, none⟩) n c (s.put core (some ⟨e.x, false, zRp⟩)) W9) := hJ9
        simp only [putAll, Act.put, List.setIfInBounds_toArray, List.set_cons_succ, List.set_cons_zero, Nat.zero_add, Nat.reduceAdd]
        clear hJ9 hv9
        go_wp2
        go_ret
        exact ⟨by rw [HF.out]; rfl, by rw [HF.out]; exact HN9.out⟩
  · have HF := zz (show r = (310, s) from by rw [hb1, if_pos (.inr hck)])
    obtain ⟨ck, hcke⟩ : ∃ ck, checkC e.x = ck := ⟨_, rfl⟩
    rw [hcke] at HKC hck
    clear hb1
    go_enter Tryz.func133, Tryz.ntmps133
    go_wp2_with (first
     | (refine wpList_load_mid rfl 120 _ rfl b _ rfl ev _ HRA.out Tryz.underlying120 rfl HINF.out ?_)
     | ((with_reducible refine wpList_alloc_z 120 zEv.cells.toArray zeroEv ?_); intro w5 hw5; rw [hw5])
     | (refine wpList_store_run 120 5 12 w3 _ _ rfl rfl HST.out ?_))
    refine wp_region_rel RelB (phi [isV (.pointer (some ⟨Q, 0, none⟩)), isV (.pointer (some ⟨Q, 0, none⟩)), isV (.pointer (some ⟨Q, 2, none⟩)), isV (.slice (some ⟨C, 0, none⟩) q q), isV (.pointer (some ⟨w.heap.size, 0, none⟩)), isV (.int .i64 (core : Int)), isV (.pointer (some ⟨C, core, none⟩)), isV (.pointer none), isV (.bool false), isV (.bool false), isV (.pointer (some ⟨w.heap.size, 2, none⟩)), isV (.agg #[.int .u8 e.x.act, .string e.x.path, .string e.x.path2, .int .i64 e.x.fd, .int .i64 e.x.page, .int .u32 e.x.size, .string e.x.data]), isV (.int .i64 ck), isV (.bool true), isV (.bool true)]) (by kernel_rfl) (by kernel_rfl) (by kernel_rfl) (RelB.of (below_drew _)) (fun _ _ _ a b => a.trans b) ?_ ?_ ?_
    · refine stays_phiR ?_
      simp only [List.forall_mem_cons]
      exact ⟨kv, kv, kv, kv, kv, kv, kv, kv, kv, kv, kv, kv, kv, kv, kv, fun _ h => absurd h (by simp)⟩
    · refine ⟨?_, ?_, ?_, ?_, ?_, ?_, ?_, ?_, ?_, ?_, ?_, ?_, ?_, ?_, ?_, trivial⟩
      · refine opR_mk rfl fun aa W2 hB hp hq K hK => ?_
        have e0 : aa.tmps[0]?.getD undef = .pointer (some ⟨Q, 0, none⟩) := hp 0 (by kernel_rfl)
        clear hp hq
        go_simp
        exact hK _ _ (RelB.refl _) rfl
      · refine opR_mk rfl fun aa W2 hB hp hq K hK => ?_
        have e13 : aa.tmps[13]?.getD undef = .pointer (some ⟨Q, 0, none⟩) := hq 0 _ (by kernel_rfl) rfl
        clear hp hq
        go_simp
        exact hK _ _ (RelB.refl _) rfl
      · refine opR_mk rfl fun aa W2 hB hp hq K hK => ?_
        have e14 : aa.tmps[14]?.getD undef = .pointer (some ⟨Q, 0, none⟩) := hq 1 _ (by kernel_rfl) rfl
        clear hp hq
        go_simp
        exact hK _ _ (RelB.refl _) rfl
      · refine opR_mk rfl fun aa W2 hB hp hq K hK => ?_
        have e15 : aa.tmps[15]?.getD undef = .pointer (some ⟨Q, 2, none⟩) := hq 2 _ (by kernel_rfl) rfl
        have d1 := HQ2.out W2 (relB_get hB)
        clear hp hq
        go_simp
        exact hK _ _ (RelB.refl _) rfl
      · refine opR_mk rfl fun aa W2 hB hp hq K hK => ?_
        have e5 : aa.tmps[5]?.getD undef = .pointer (some ⟨w.heap.size, 0, none⟩) := hp 5 (by kernel_rfl)
        clear hp hq
        go_simp
        exact hK _ _ (RelB.refl _) rfl
      · refine opR_mk rfl fun aa W2 hB hp hq K hK => ?_
        have e17 : aa.tmps[17]?.getD undef = .pointer (some ⟨w.heap.size, 0, none⟩) := hq 4 _ (by kernel_rfl) rfl
        have d2 := HX0.out W2 (relB_get hB)
        clear hp hq
        go_simp
        exact hK _ _ (RelB.refl _) rfl
      · refine opR_mk rfl fun aa W2 hB hp hq K hK => ?_
        have e16 : aa.tmps[16]?.getD undef = .slice (some ⟨C, 0, none⟩) q q := hq 3 _ (by kernel_rfl) rfl
        have e18 : aa.tmps[18]?.getD undef = .int .i64 (core : Int) := hq 5 _ (by kernel_rfl) rfl
        clear hp hq
        go_simp
        exact hK _ _ (RelB.refl _) rfl
      · refine opR_mk rfl fun aa W2 hB hp hq K hK => ?_
        have e19 : aa.tmps[19]?.getD undef = .pointer (some ⟨C, core, none⟩) := hq 6 _ (by kernel_rfl) rfl
        have d3 : W2.cell? ⟨C, core, none⟩ = some (.pointer none) := HCK.out W2 (relB_get hB)
        clear hp hq
        go_simp
        exact hK _ _ (RelB.refl _) rfl
      · refine opR_mk rfl fun aa W2 hB hp hq K hK => ?_
        have e20 : aa.tmps[20]?.getD undef = .pointer none := hq 7 _ (by kernel_rfl) rfl
        clear hp hq
        go_simp
        exact hK _ _ (RelB.refl _) rfl
      · refine opR_mk rfl fun aa W2 hB hp hq K hK => ?_
        have e21 : aa.tmps[21]?.getD undef = .bool false := hq 8 _ (by kernel_rfl) rfl
        clear hp hq
        go_simp
        exact hK _ _ (RelB.refl _) rfl
      · refine opR_guard (j := 9) (d := 22) (c := false) rfl rfl (by kernel_rfl) rfl rfl (fun v W h => h) (fun _ => RelB.refl _) (fun hne => absurd rfl hne) fun hc aa W2 hB hp hq K hK => ?_
        have e5 : aa.tmps[5]?.getD undef = .pointer (some ⟨w.heap.size, 0, none⟩) := hp 5 (by kernel_rfl)
        clear hp hq
        go_simp
        exact hK _ _ (RelB.refl _) rfl
      · refine opR_guard (j := 9) (d := 22) (c := false) rfl rfl (by kernel_rfl) rfl rfl (fun v W h => h) (fun _ => RelB.refl _) (fun hne => absurd rfl hne) fun hc aa W2 hB hp hq K hK => ?_
        have e23 : aa.tmps[23]?.getD undef = .pointer (some ⟨w.heap.size, 2, none⟩) := hq 10 _ (by kernel_rfl) rfl
        obtain ⟨z0, z1, z2, z3, z4, z5, z6⟩ := HXC.out W2 (relB_get hB)
        clear hp hq
        go_simp
        exact hK _ _ (RelB.refl _) rfl
      · refine opR_guard (j := 9) (d := 22) (c := false) rfl rfl (by kernel_rfl) rfl rfl (fun v W h => h) (fun _ => RelB.refl _) (fun hne => absurd rfl hne) fun hc aa W2 hB hp hq K hK => ?_
        have e24 : aa.tmps[24]?.getD undef = .agg #[.int .u8 e.x.act, .string e.x.path, .string e.x.path2, .int .i64 e.x.fd, .int .i64 e.x.page, .int .u32 e.x.size, .string e.x.data] := hq 11 _ (by kernel_rfl) rfl
        clear hp hq
        go_simp
        go_at_call 44
        (with_reducible refine (HKC.out W2 (relB_get hB)).mono ?_)
        rintro e5 w5 ⟨rfl, hb5⟩
        exact hK _ _ (RelB.of hb5) rfl
      · refine opR_guard (j := 9) (d := 22) (c := false) rfl rfl (by kernel_rfl) rfl rfl (fun v W h => h) (fun _ => RelB.refl _) (fun hne => absurd rfl hne) fun hc aa W2 hB hp hq K hK => ?_
        have e25 : aa.tmps[25]?.getD undef = .int .i64 ck := hq 12 _ (by kernel_rfl) rfl
        have hck1 : (ck != 0) = true := by simpa using hck
        clear hp hq
        go_simp
        exact hK _ _ (RelB.refl _) rfl
      · refine opR_mk rfl fun aa W2 hB hp hq K hK => ?_
        have e22 : aa.tmps[22]?.getD undef = .bool false := hq 9 _ (by kernel_rfl) rfl
        have e26 : aa.tmps[26]?.getD undef = .bool true := hq 13 _ (by kernel_rfl) rfl
        clear hp hq
        go_simp
        exact hK _ _ (RelB.refl _) rfl
    · intro vs W3 hB3 hv3 _
      have v14 : vs 14 = .bool true := hv3 14 _ rfl rfl
      have HB4 := zz (relB_get hB3)
      simp only [putAll, Act.put, List.setIfInBounds_toArray, List.set_cons_succ, List.set_cons_zero, Nat.zero_add, Nat.reduceAdd]
      rw [v14]
      clear hB3 hv3 v14
      go_wp2
      go_ret
      exact ⟨by rw [HF.out]; rfl, by rw [HF.out]; exact HRV.out _ HB4.out⟩
end
end Go.Proofs.YtpcnolkdnmolgaaGreatDoor
