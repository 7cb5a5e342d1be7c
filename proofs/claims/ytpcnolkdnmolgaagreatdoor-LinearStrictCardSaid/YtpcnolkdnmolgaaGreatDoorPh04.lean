/- The program's tree: what turns an inode. -/
import Derived.Test.YtpcnolkdnmolgaaGreatDoorPh02
import Derived.Maps.OwnOps
namespace Go.Proofs.YtpcnolkdnmolgaaGreatDoor
section
open Go.RowKit Go.Maps
section
variable {w w' : World} {F : Nat → Prop} {P N : Nat} {y : Lay} {t : PT} {i : Int} {x : PN}
theorem NodeM.neL {Q L G : Nat} (h : NodeM w Q L G N x) : Q ≠ L := fun e => by
 obtain ⟨es, c, h1⟩ := h.ents.isMap
 rw [← e, h.cells] at h1; cases h1
theorem NodeM.neG {Q L G : Nat} (h : NodeM w Q L G N x) : Q ≠ G := fun e => by
 obtain ⟨es, c, h1⟩ := h.pages.isMap
 rw [← e, h.cells] at h1; cases h1
theorem TreeM.store (h : TreeM w F P N y t) (hx : t.n i = some x) (j : Nat) (v : Value) {x' : PN}
  (hc : (#[Value.int .u8 x.kind, .int .i64 x.links, .int .u32 x.size, .map (some (y.L i)), .map (some (y.G i)), .int .i64 x.held, .int .u32 x.up]).setIfInBounds j v = #[Value.int .u8 x'.kind, .int .i64 x'.links, .int .u32 x'.size, .map (some (y.L i)), .map (some (y.G i)), .int .i64 x'.held, .int .u32 x'.up])
  (hl : x'.l = x.l) (hp : x'.pages = x.pages) : TreeM (w.setCell ⟨y.f i, j, none⟩ v) F P N y (t.set i x') := by
 have hn := h.node i x hx
 have other : ∀ b, b ≠ y.f i → (w.setCell ⟨y.f i, j, none⟩ v).heap[b]? = w.heap[b]? := fun b hb => Below.heap_setCell w ⟨y.f i, j, none⟩ v b hb
 refine h.setNode (Nat.le_refl _) hx ⟨?_, ?_, ?_⟩ (fun b _ h1 _ _ => other b h1) (by simp [World.setCell])
 · rw [pheap_set _ _ _ _ _ _ hn.cells, hc]
 · rw [hl]; exact hn.ents.same (other _ (Ne.symm hn.neL))
 · rw [hp]; exact hn.pages.same (other _ (Ne.symm hn.neG))
theorem TreeM.foot_f (h : TreeM w F P N y t) (hx : t.n i = some x) : F (y.f i) := (h.foot i x hx).1
theorem turn_store (F : Nat → Prop) (w : World) (b j : Nat) (v : Value) (hF : F b) : Turn w (w.setCell ⟨b, j, none⟩ v) F F := Turn.of_grown (pgrown_set w b j v) hF
theorem turn_map {F : Nat → Prop} {b : Nat} (h : w.mapTurned w' b) (hF : F b) : Turn w w' F F := Turn.of_grown h.grown hF
def updL (l : List UInt8 → Option Int) (s : List UInt8) (v : Int) : List UInt8 → Option Int := fun k => if k = s then some v else l k
def delL (l : List UInt8 → Option Int) (s : List UInt8) : List UInt8 → Option Int := fun k => if k = s then none else l k
theorem entsM_upd (l : List UInt8 → Option Int) (s : List UInt8) (v : Int) : ∀ kl, WideAt.IsKeyLit kl → updM (entsM l) (.string s) (.int .u32 v) kl = entsM (updL l s v) kl := by
 intro kl _
 unfold updM
 cases kl with
 | string k =>
  by_cases hk : k = s
  · subst hk; simp [Lit.sameKey, entsM, updL]
  · simp [Lit.sameKey, entsM, updL, hk]
 | _ => simp [Lit.sameKey, entsM]
theorem entsM_del (l : List UInt8 → Option Int) (s : List UInt8) : ∀ kl, WideAt.IsKeyLit kl → delM (entsM l) (.string s) kl = entsM (delL l s) kl := by
 intro kl _
 unfold delM
 cases kl with
 | string k =>
  by_cases hk : k = s
  · subst hk; simp [Lit.sameKey, entsM, delL]
  · simp [Lit.sameKey, entsM, delL, hk]
 | _ => simp [Lit.sameKey, entsM]
theorem TreeM.ents (h : TreeM w F P N y t) {N' : Nat} (hN : N ≤ N') (hx : t.n i = some x) {l' : List UInt8 → Option Int} (hm : MapAt w' Tryz.prog 9 (y.L i) N' (entsM l')) (ht : w.mapTurned w' (y.L i)) :
  TreeM w' F P N' y (t.set i { x with l := l' }) ∧ Turn w w' F F := by
 have hn := h.node i x hx
 have hg := ht.grown
 have other : ∀ b, b < w.heap.size → b ≠ y.L i → w'.heap[b]? = w.heap[b]? := fun b hb hne => hg.block b hb (fun e => hne (by injection e))
 refine ⟨h.setNode hN hx ⟨?_, hm, ?_⟩ (fun b hb _ h2 _ => other b (h.lt b hb) h2) hg.size, turn_map ht (h.foot i x hx).2.1⟩
 · exact (other _ hn.ltQ hn.neL).trans hn.cells
 · exact (hn.pages.mono hN).same (other _ hn.pages.lt (Ne.symm (h.own i x hx).2.2.2))
theorem TreeM.pages_ (h : TreeM w F P N y t) {N' : Nat} (hN : N ≤ N') (hx : t.n i = some x) {p' : Int → Option (List UInt8)} (hm : MapAt w' Tryz.prog 3 (y.G i) N' (pagesM p')) (ht : w.mapTurned w' (y.G i)) :
  TreeM w' F P N' y (t.set i { x with pages := p' }) ∧ Turn w w' F F := by
 have hn := h.node i x hx
 have hg := ht.grown
 have other : ∀ b, b < w.heap.size → b ≠ y.G i → w'.heap[b]? = w.heap[b]? := fun b hb hne => hg.block b hb (fun e => hne (by injection e))
 refine ⟨h.setNode hN hx ⟨?_, ?_, hm⟩ (fun b hb _ _ h3 => other b (h.lt b hb) h3) hg.size, turn_map ht (h.foot i x hx).2.2⟩
 · exact (other _ hn.ltQ hn.neG).trans hn.cells
 · exact (hn.ents.mono hN).same (other _ hn.ents.lt (h.own i x hx).2.2.2)
end
section
variable {F : Nat → Prop} {P N : Nat} {y : Lay} {t : PT}
theorem PT.set_n (t : PT) (i j : Int) (x : PN) : (t.set i x).n j = if j = i then some x else t.n j := rfl
theorem PT.del_n (t : PT) (i j : Int) : (t.del i).n j = if j = i then none else t.n j := rfl
def inN (x : PN) (dir : Int) : PN := if x.kind = 2 then { x with up := dir } else { x with links := x.links + 1 }
def outN (x : PN) : PN := if x.kind = 2 then { x with up := 0 } else { x with links := x.links - 1 }
def enterT (t : PT) (dir : Int) (xd : PN) (s : ByteArray) (ino : Int) (xi : PN) : PT := (t.set dir { xd with l := updL xd.l s.data.toList ino }).set ino (inN xi dir)
def leaveT (t : PT) (dir : Int) (xd : PN) (s : ByteArray) (ino : Int) (xi : PN) : PT := (t.set ino (outN xi)).set dir { xd with l := delL xd.l s.data.toList }
set_option maxHeartbeats 2000000 in
theorem t_enter (dir : Int) (s : ByteArray) (ino : Int) (xd xi : PN) (w : World) (h : TreeM w F P N y t) (hN : N < 1000000) (hd : t.n dir = some xd) (hi : t.n ino = some xi) (hne : ino ≠ dir) (hs : s.size ≤ maxLen) (hl : 0 ≤ xi.links ∧ xi.links ≤ 1000000) :
  Calls Tryz.prog 191 #[.pointer (some ⟨P, 0, none⟩), .int .u32 dir, .string s, .int .u32 ino] w fun e w' => e = .returned (.tuple #[]) ∧ TreeM w' F P (N + 1) y (enterT t dir xd s ino xi) ∧ Turn w w' F F := by
 have c1 := h.c1
 have hl1 := h.look_some hd
 have k3 : w.cell? ⟨y.f dir, 3, none⟩ = some (.map (some (y.L dir))) := (h.node dir xd hd).cell 3
 obtain ⟨w1, hrun, hM, ht⟩ := (h.node dir xd hd).ents.update lawS Tryz.underlying112 (by unfold maxLen; omega) (val := .int .u32 ino) (pkeyS hs)
 obtain ⟨hT1, hTu⟩ := h.ents (Nat.le_succ N) hd (hM.congr (entsM_upd xd.l s.data.toList ino)) ht
 have hi1 : (t.set dir { xd with l := updL xd.l s.data.toList ino }).n ino = some xi := by rw [PT.set_n, if_neg hne]; exact hi
 have d1 := hT1.c1
 have dl := hT1.look_some hi1
 have q0 : w1.cell? ⟨y.f ino, 0, none⟩ = some (.int .u8 xi.kind) := (hT1.node ino xi hi1).cell 0
 have q1 : w1.cell? ⟨y.f ino, 1, none⟩ = some (.int .i64 xi.links) := (hT1.node ino xi hi1).cell 1
 have q6 : w1.cell? ⟨y.f ino, 6, none⟩ = some (.int .u32 xi.up) := (hT1.node ino xi hi1).cell 6
 have f1 := (hT1.node ino xi hi1).frozen 1
 have f6 := (hT1.node ino xi hi1).frozen 6
 have HT := zz hT1
 have HU := zz hTu
 have HI := zz hi1
 have HFo := zz (hT1.foot_f hi1)
 clear h hd hi hM ht hT1 hTu hi1 hne
 cases hk : (xi.kind == 2) with
 | true =>
  have HK : Hid (inN xi dir = { xi with up := dir }) := by show _ = _; unfold inN; rw [if_pos (by simpa using hk)]
  go_enter Tryz.func191, Tryz.ntmps191
  go_wp2_with (go_at_call 125; refine (t_isdir (y.f ino) xi.kind true hk _ q0).mono ?_; rintro e w' ⟨rfl, rfl⟩)
  go_end0
  exact ⟨rfl, by unfold enterT; rw [HK.out]; exact HT.out.store HI.out 6 _ rfl rfl rfl, HU.out.trans (turn_store _ _ _ _ _ HFo.out)⟩
 | false =>
  have HK : Hid (inN xi dir = { xi with links := xi.links + 1 }) := by show _ = _; unfold inN; rw [if_neg (by simpa using hk)]
  go_enter Tryz.func191, Tryz.ntmps191
  go_wp2_with (go_at_call 125; refine (t_isdir (y.f ino) xi.kind false hk _ q0).mono ?_; rintro e w' ⟨rfl, rfl⟩)
  go_end0
  exact ⟨rfl, by unfold enterT; rw [HK.out]; exact HT.out.store HI.out 1 _ rfl rfl rfl, HU.out.trans (turn_store _ _ _ _ _ HFo.out)⟩
set_option maxHeartbeats 2000000 in
theorem t_leave (dir : Int) (s : ByteArray) (ino : Int) (xd xi : PN) (w : World) (h : TreeM w F P N y t) (hd : t.n dir = some xd) (he : xd.l s.data.toList = some ino) (hi : t.n ino = some xi) (hne : ino ≠ dir) (hs : s.size ≤ maxLen) (hl : 0 ≤ xi.links ∧ xi.links ≤ 1000000) :
  Calls Tryz.prog 197 #[.pointer (some ⟨P, 0, none⟩), .int .u32 dir, .string s] w fun e w' => e = .returned (.tuple #[]) ∧ TreeM w' F P N y (leaveT t dir xd s ino xi) ∧ Turn w w' F F := by
 have c1 := h.c1
 have hl1 : ∀ n, (Instr.lookup 106 (.map (some y.M)) (.int .u32 dir) false).run Tryz.prog (w.drewN n) = .ok (.pointer (some ⟨y.f dir, 0, none⟩)) (w.drewN n) := fun n => (h.drewN n).look_some hd
 have hl2 : ∀ n, (Instr.lookup 106 (.map (some y.M)) (.int .u32 ino) false).run Tryz.prog (w.drewN n) = .ok (.pointer (some ⟨y.f ino, 0, none⟩)) (w.drewN n) := fun n => (h.drewN n).look_some hi
 have hl3 : ∀ n, (Instr.lookup 112 (.map (some (y.L dir))) (.string s) false).run Tryz.prog (w.drewN n) = .ok (.int .u32 ino) (w.drewN n) := fun n => by
  have := ((h.drewN n).node dir xd hd).look hs
  rw [he] at this; exact this
 have k3 : w.cell? ⟨y.f dir, 3, none⟩ = some (.map (some (y.L dir))) := (h.node dir xd hd).cell 3
 have HT := zz h
 have HI := zz hi
 have HD := zz hd
 have HNE := zz hne
 have HS := zz hs
 clear h hd hi hne he
 go_enter Tryz.func197, Tryz.ntmps197
 go_wp2
 go_quiet (fail)
 generalize hw2 : w.drewN _ = w2
 have hb2 : Below w.heap.size w w2 := by rw [← hw2]; exact pbelow_drewN (Below.refl _ _) _
 have hT := HT.out.below hb2
 clear hw2 hl1 hl2 hl3 c1 k3
 have q0 : w2.cell? ⟨y.f ino, 0, none⟩ = some (.int .u8 xi.kind) := (hT.node ino xi HI.out).cell 0
 have q1 : w2.cell? ⟨y.f ino, 1, none⟩ = some (.int .i64 xi.links) := (hT.node ino xi HI.out).cell 1
 have q6 : w2.cell? ⟨y.f ino, 6, none⟩ = some (.int .u32 xi.up) := (hT.node ino xi HI.out).cell 6
 have f1 := (hT.node ino xi HI.out).frozen 1
 have f6 := (hT.node ino xi HI.out).frozen 6
 have hFo := hT.foot_f HI.out
 have rest : ∀ w3, TreeM w3 F P N y (t.set ino (outN xi)) → Turn w2 w3 F F → w3.cell? ⟨P, 1, none⟩ = some (.map (some y.M)) ∧ (Instr.lookup 106 (.map (some y.M)) (.int .u32 dir) false).run Tryz.prog w3 = .ok (.pointer (some ⟨y.f dir, 0, none⟩)) w3 ∧ w3.cell? ⟨y.f dir, 3, none⟩ = some (.map (some (y.L dir))) ∧
   ∃ w4, (∀ ty, (Builtin.delete_ #[112, 9] ty #[.map (some (y.L dir)), .string s]).run Tryz.prog w3 = .ok (.tuple #[]) w4) ∧ TreeM w4 F P N y (leaveT t dir xd s ino xi) ∧ Turn w w4 F F := by
  intro w3 h3 hu
  have hd3 : (t.set ino (outN xi)).n dir = some xd := by rw [PT.set_n, if_neg (fun e => HNE.out e.symm)]; exact HD.out
  refine ⟨h3.c1, h3.look_some hd3, (h3.node dir xd hd3).cell 3, ?_⟩
  obtain ⟨w4, hrun, hM, ht⟩ := (h3.node dir xd hd3).ents.drop lawS Tryz.underlying112 (pkeyS HS.out) 0
  obtain ⟨hT4, hTu⟩ := h3.ents (Nat.le_refl N) hd3 (hM.congr (entsM_del xd.l s.data.toList)) ht
  exact ⟨w4, fun ty => hrun, hT4, (Turn.of_below F hb2).trans (hu.trans hTu)⟩
 cases hk : (xi.kind == 2) with
 | true =>
  have hout : outN xi = { xi with up := 0 } := by unfold outN; rw [if_pos (by simpa using hk)]
  obtain ⟨g1, g2, g3, w4, g4, g5, g6⟩ := rest (w2.setCell ⟨y.f ino, 6, none⟩ (.int .u32 0)) (by rw [hout]; exact hT.store HI.out 6 _ rfl rfl rfl) (turn_store _ _ _ _ _ hFo)
  have G5 := zz g5
  have G6 := zz g6
  clear rest hT g5 g6 hout
  go_wp2_with (go_at_call 125; refine (t_isdir (y.f ino) xi.kind true hk _ q0).mono ?_; rintro e w' ⟨rfl, rfl⟩)
  go_end0
  exact ⟨rfl, G5.out, G6.out⟩
 | false =>
  have hout : outN xi = { xi with links := xi.links - 1 } := by unfold outN; rw [if_neg (by simpa using hk)]
  obtain ⟨g1, g2, g3, w4, g4, g5, g6⟩ := rest (w2.setCell ⟨y.f ino, 1, none⟩ (.int .i64 (xi.links - 1))) (by rw [hout]; exact hT.store HI.out 1 _ rfl rfl rfl) (turn_store _ _ _ _ _ hFo)
  have G5 := zz g5
  have G6 := zz g6
  clear rest hT g5 g6 hout
  go_wp2_with (go_at_call 125; refine (t_isdir (y.f ino) xi.kind false hk _ q0).mono ?_; rintro e w' ⟨rfl, rfl⟩)
  go_end0
  exact ⟨rfl, G5.out, G6.out⟩
end
end
section
open Go.RowKit Go.Maps
section
variable {F : Nat → Prop} {P N : Nat} {y : Lay} {t : PT}
def goneB (i : Int) (x : PN) : Bool := i != 1 && (x.held == 0 && (if (x.kind == 2) = true then x.up == 0 else x.links == 0))
def freeP (t : PT) (i : Int) (x : PN) : PT := if goneB i x = true then t.del i else t
set_option maxHeartbeats 4000000 in
theorem t_freeP (i : Int) (x : PN) (w : World) (h : TreeM w F P N y t) (hx : t.n i = some x) :
  Calls Tryz.prog 189 #[.pointer (some ⟨P, 0, none⟩), .int .u32 i] w fun e w' => e = .returned (.tuple #[]) ∧ TreeM w' F P N y (freeP t i x) ∧ Turn w w' F F := by
 have c1 := h.c1
 have hl1 := h.look_some hx
 have hp := h.pos i x hx
 obtain ⟨w1, hrun0, hM, ht⟩ := h.nodes.drop law32 Tryz.underlying106 (pkey32 (i := i) ⟨by omega, hp.2⟩) 0
 have hrun : ∀ ty, (Builtin.delete_ #[106, 29] ty #[.map (some y.M), .int .u32 i]).run Tryz.prog w = .ok (.tuple #[]) w1 := fun ty => hrun0
 have hg := ht.grown
 have hT1 : TreeM w1 F P N y (t.del i) := h.delNode hM (fun b hb hne => hg.block b (h.lt b hb) (fun e => hne (by injection e))) hg.size
 have hU := turn_map ht h.fM
 have k0 : w.cell? ⟨y.f i, 0, none⟩ = some (.int .u8 x.kind) := (h.node i x hx).cell 0
 have k1 : w.cell? ⟨y.f i, 1, none⟩ = some (.int .i64 x.links) := (h.node i x hx).cell 1
 have k5 : w.cell? ⟨y.f i, 5, none⟩ = some (.int .i64 x.held) := (h.node i x hx).cell 5
 have k6 : w.cell? ⟨y.f i, 6, none⟩ = some (.int .u32 x.up) := (h.node i x hx).cell 6
 have HT := zz h
 have H1 : Hid (goneB i x = true → TreeM w1 F P N y (freeP t i x) ∧ Turn w w1 F F) := fun hb => by unfold freeP; rw [if_pos hb]; exact ⟨hT1, hU⟩
 have H0 : Hid (goneB i x = false → TreeM w F P N y (freeP t i x) ∧ Turn w w F F) := fun hb => by unfold freeP; rw [if_neg (by rw [hb]; simp)]; exact ⟨HT.out, Turn.refl _ _⟩
 clear h hx hM ht hg hT1 hU hrun0
 cases g1 : (i != 1) with
 | false =>
  have R := zz (H0.out (by unfold goneB; rw [g1]; rfl))
  go_enter Tryz.func189, Tryz.ntmps189
  go_wp2
  go_end0
  exact ⟨rfl, R.out⟩
 | true =>
  cases g2 : (x.held == 0) with
  | false =>
   have R := zz (H0.out (by unfold goneB; rw [g1, g2]; rfl))
   go_enter Tryz.func189, Tryz.ntmps189
   go_wp2
   go_end0
   exact ⟨rfl, R.out⟩
  | true =>
   cases g3 : (x.kind == 2) with
   | true =>
    have hD := t_isdir (y.f i) x.kind true g3 w k0
    have HD := zz hD
    clear hD
    cases g4 : (x.up == 0) with
    | true =>
     have R := zz (H1.out (by unfold goneB; rw [g1, g2, g3, g4]; rfl))
     clear g3
     go_enter Tryz.func189, Tryz.ntmps189
     go_wp2_with (go_at_call 125; refine HD.out.mono ?_; rintro e w' ⟨rfl, rfl⟩)
     go_end0
     exact ⟨rfl, R.out⟩
    | false =>
     have R := zz (H0.out (by unfold goneB; rw [g1, g2, g3, g4]; rfl))
     clear g3
     go_enter Tryz.func189, Tryz.ntmps189
     go_wp2_with (go_at_call 125; refine HD.out.mono ?_; rintro e w' ⟨rfl, rfl⟩)
     go_end0
     exact ⟨rfl, R.out⟩
   | false =>
    have hD := t_isdir (y.f i) x.kind false g3 w k0
    have HD := zz hD
    clear hD
    cases g4 : (x.links == 0) with
    | true =>
     have R := zz (H1.out (by unfold goneB; rw [g1, g2, g3, g4]; rfl))
     clear g3
     go_enter Tryz.func189, Tryz.ntmps189
     go_wp2_with (go_at_call 125; refine HD.out.mono ?_; rintro e w' ⟨rfl, rfl⟩)
     go_end0
     exact ⟨rfl, R.out⟩
    | false =>
     have R := zz (H0.out (by unfold goneB; rw [g1, g2, g3, g4]; rfl))
     clear g3
     go_enter Tryz.func189, Tryz.ntmps189
     go_wp2_with (go_at_call 125; refine HD.out.mono ?_; rintro e w' ⟨rfl, rfl⟩)
     go_end0
     exact ⟨rfl, R.out⟩
noncomputable def emptyB (l : List UInt8 → Option Int) : Bool := @decide (∀ k, l k = none) (Classical.propDecidable _)
theorem emptyB_iff {l : List UInt8 → Option Int} : emptyB l = true ↔ ∀ k, l k = none := by unfold emptyB; simp
theorem NodeM.len {w : World} {Q L G : Nat} {x : PN} (h : NodeM w Q L G N x) : ∃ n : Nat, (∀ ty, (Builtin.len_ #[112] ty #[.map (some L)]).run Tryz.prog w = .ok (.int .i64 n) w) ∧ decide (0 < n) = !emptyB x.l := by
 obtain ⟨n, h1, h2, h3⟩ := h.ents.len lawS Tryz.underlying112 0
 refine ⟨n, fun ty => h2, ?_⟩
 rw [Bool.eq_iff_iff]
 simp only [decide_eq_true_eq, Bool.not_eq_true', Bool.eq_false_iff, ne_eq, emptyB_iff]
 constructor
 · intro hn hall
   have : n = 0 := h3.2 (fun kl _ => by cases kl <;> simp [entsM, hall])
   omega
 · intro hne
   refine Nat.pos_of_ne_zero fun h0 => hne fun k => ?_
   have := h3.1 h0 (.string k) trivial
   simpa [entsM] using this
noncomputable def givesE (x old : PN) : Int :=
 if (old.kind == 2 && !(x.kind == 2)) = true then 181 else if (!(old.kind == 2) && x.kind == 2) = true then 180 else if emptyB old.l = true then 0 else 182
set_option maxHeartbeats 2000000 in
theorem t_gives (Q1 L1 G1 Q2 L2 G2 : Nat) (x old : PN) (r : Int) (hr : givesE x old = r) (w : World) (h1 : NodeM w Q1 L1 G1 N x) (h2 : NodeM w Q2 L2 G2 N old) :
  Calls Tryz.prog 196 #[.pointer (some ⟨Q1, 0, none⟩), .pointer (some ⟨Q2, 0, none⟩)] w fun e w' => e = .returned (.int .i64 r) ∧ w = w' := by
 have k1 : w.cell? ⟨Q1, 0, none⟩ = some (.int .u8 x.kind) := h1.cell 0
 have k2 : w.cell? ⟨Q2, 0, none⟩ = some (.int .u8 old.kind) := h2.cell 0
 have k3 : w.cell? ⟨Q2, 3, none⟩ = some (.map (some L2)) := h2.cell 3
 obtain ⟨n, hlen, hn⟩ := h2.len
 obtain ⟨b, hb⟩ : ∃ b, decide (0 < n) = b := ⟨_, rfl⟩
 have hb2 : decide ((0 : Int) < (n : Int)) = b := by rw [← hb, decide_eq_decide]; omega
 rw [hb] at hn
 have HR := zz hr
 clear h1 h2 hr
 cases g1 : (old.kind == 2) with
 | true =>
  have HD2 := zz (t_isdir Q2 old.kind true g1 w k2)
  cases g2 : (x.kind == 2) with
  | true =>
   have HD1 := zz (t_isdir Q1 x.kind true g2 w k1)
   have HA : Hid ((if b = true then (182 : Int) else 0) = r) := by
    show _ = _; rw [← HR.out]; unfold givesE; rw [g1, g2, hn]; cases emptyB old.l <;> rfl
   clear g1 g2 hn k1 k2
   go_enter Tryz.func196, Tryz.ntmps196
   go_wp2_with (first | (go_at_call 125; (with_reducible refine HD2.out.mono ?_); rintro e w' ⟨rfl, rfl⟩) | (go_at_call 125; (with_reducible refine HD1.out.mono ?_); rintro e w' ⟨rfl, rfl⟩) | (go_at_call 120; refine (t_as b 182 _ HA.out _).mono ?_; rintro e w' ⟨rfl, rfl⟩))
   go_ret
   exact ⟨rfl, rfl⟩
  | false =>
   have HD1 := zz (t_isdir Q1 x.kind false g2 w k1)
   have HA : Hid (181 = r) := by
    show _ = _; rw [← HR.out]; unfold givesE; rw [g1, g2]; rfl
   clear g1 g2 hn k1 k2
   go_enter Tryz.func196, Tryz.ntmps196
   go_wp2_with (first | (go_at_call 125; (with_reducible refine HD2.out.mono ?_); rintro e w' ⟨rfl, rfl⟩) | (go_at_call 125; (with_reducible refine HD1.out.mono ?_); rintro e w' ⟨rfl, rfl⟩))
   go_ret
   exact ⟨pret_i64 HA.out, rfl⟩
 | false =>
  have HD2 := zz (t_isdir Q2 old.kind false g1 w k2)
  cases g2 : (x.kind == 2) with
  | true =>
   have HD1 := zz (t_isdir Q1 x.kind true g2 w k1)
   have HA : Hid (180 = r) := by
    show _ = _; rw [← HR.out]; unfold givesE; rw [g1, g2]; rfl
   clear g1 g2 hn k1 k2
   go_enter Tryz.func196, Tryz.ntmps196
   go_wp2_with (first | (go_at_call 125; (with_reducible refine HD2.out.mono ?_); rintro e w' ⟨rfl, rfl⟩) | (go_at_call 125; (with_reducible refine HD1.out.mono ?_); rintro e w' ⟨rfl, rfl⟩))
   go_ret
   exact ⟨pret_i64 HA.out, rfl⟩
  | false =>
   have HD1 := zz (t_isdir Q1 x.kind false g2 w k1)
   have HA : Hid ((if b = true then (182 : Int) else 0) = r) := by
    show _ = _; rw [← HR.out]; unfold givesE; rw [g1, g2, hn]; cases emptyB old.l <;> rfl
   clear g1 g2 hn k1 k2
   go_enter Tryz.func196, Tryz.ntmps196
   go_wp2_with (first | (go_at_call 125; (with_reducible refine HD2.out.mono ?_); rintro e w' ⟨rfl, rfl⟩) | (go_at_call 125; (with_reducible refine HD1.out.mono ?_); rintro e w' ⟨rfl, rfl⟩) | (go_at_call 120; refine (t_as b 182 _ HA.out _).mono ?_; rintro e w' ⟨rfl, rfl⟩))
   go_ret
   exact ⟨rfl, rfl⟩
def upAt (t : PT) (i : Int) : Int := match t.n i with | some x => x.up | none => 0
def Ends (t : PT) : Nat → Int → Prop
 | 0, d => d = 0
 | k + 1, d => d = 0 ∨ ((t.n d).isSome = true ∧ Ends t k (upAt t d))
def belowP (t : PT) (top : Int) : Nat → Int → Bool
 | 0, _ => false
 | k + 1, d => if d = 0 then false else if d = top then true else belowP t top k (upAt t d)
theorem belowP_zero (t : PT) (top : Int) (k : Nat) : belowP t top k 0 = false := by cases k <;> simp [belowP]
set_option maxHeartbeats 2000000 in
theorem t_belowP (dir top : Int) (k : Nat) (r : Bool) (hr : belowP t top k dir = r) (hk : Ends t k dir) (w : World) (h : TreeM w F P N y t) :
  Calls Tryz.prog 195 #[.pointer (some ⟨P, 0, none⟩), .int .u32 dir, .int .u32 top] w fun e w' => e = .returned (.bool r) ∧ w = w' := by
 have HT := zz h
 have HR := zz hr
 have HK := zz hk
 have c1 := h.c1
 clear h hr hk
 go_enter Tryz.func195, Tryz.ntmps195
 go_wp2
 go_loopg [1] k (fun gf d wx => ∃ i : Int, d = .int .u32 i ∧ Hid (Ends t gf i) ∧ Hid (belowP t top gf i = r) ∧ w = wx)
 case atStart => exact ⟨dir, rfl, HK, HR, rfl⟩
 case round =>
  obtain ⟨i, rfl, hE, hB, rfl⟩ := hrel
  by_cases hi : i = 0
  · subst hi
    have HX : Hid (false = r) := by show _ = _; rw [← hB.out, belowP_zero]
    go_wp2
    go_ret
    exact ⟨pret_bool HX.out, rfl⟩
  · have hi' : (i != 0) = true := by simpa using hi
    obtain ⟨g', rfl⟩ : ∃ g', gk = g' + 1 := by
     cases gk with
     | zero => exact absurd hE.out hi
     | succ g => exact ⟨g, rfl⟩
    have hE2 := hE.out.resolve_left hi
    obtain ⟨x, hx⟩ := Option.isSome_iff_exists.1 hE2.1
    by_cases ht : i = top
    · have ht' : (i == top) = true := by simpa using ht
      have HX : Hid (true = r) := by show _ = _; rw [← hB.out]; simp only [belowP]; rw [if_neg hi, if_pos ht]
      clear ht hi hE2 hx
      go_wp2
      go_ret
      exact ⟨pret_bool HX.out, rfl⟩
    · have ht' : (i == top) = false := by simpa using ht
      have hup : upAt t i = x.up := by unfold upAt; rw [hx]
      have HX : Hid (Ends t g' x.up) := by rw [← hup]; exact hE2.2
      have HY : Hid (belowP t top g' x.up = r) := by
       show _ = _
       have := hB.out
       simp only [belowP] at this
       rw [if_neg hi, if_neg ht, hup] at this
       exact this
      have hl := HT.out.look_some hx
      have k6 : w.cell? ⟨y.f i, 6, none⟩ = some (.int .u32 x.up) := (HT.out.node i x hx).cell 6
      clear ht hi hE2 hx hup
      go_wp2
      go_roundg g'
      case measure => omega
      case rel => exact ⟨x.up, rfl, HX, HY, rfl⟩
end
end
section
open Go.RowKit Go.Maps
def newN (kind : Int) : PN := ⟨kind, kind - 1, 0, fun _ => none, fun _ => none, 0, 0⟩
theorem entsM_none : ∀ kl, WideAt.IsKeyLit kl → (none : Option Value) = entsM (fun _ => none) kl := fun kl _ => by cases kl <;> rfl
theorem pagesM_none : ∀ kl, WideAt.IsKeyLit kl → (none : Option Value) = pagesM (fun _ => none) kl := fun kl _ => by
 cases kl with
 | int q a => cases q <;> rfl
 | _ => rfl
def NewPost (kind : Int) (w : World) (e : Ending) (w' : World) : Prop :=
 e = .returned (.pointer (some ⟨w.heap.size + 2, 0, none⟩)) ∧ NodeM w' (w.heap.size + 2) w.heap.size (w.heap.size + 1) 0 (newN kind) ∧ Below w.heap.size w w' ∧ w'.heap.size = w.heap.size + 3
theorem new_post (kind : Int) (w : World) : NewPost kind w (.returned (.pointer (some ⟨w.heap.size + 2, 0, none⟩)))
  (((w.alloc (.map #[] 0)).alloc (.map #[] 0)).alloc (.cells #[.int .u8 kind, .int .i64 (kind - 1), .int .u32 0, .map (some w.heap.size), .map (some (w.heap.size + 1)), .int .i64 0, .int .u32 0] 115)) := by
 have m1 := MapAt.made w Tryz.prog 9
 have m2 := MapAt.made (w.alloc (.map #[] 0)) Tryz.prog 3
 have e1 : (w.alloc (.map #[] 0)).heap.size = w.heap.size + 1 := by simp
 have e2 : ((w.alloc (.map #[] 0)).alloc (.map #[] 0)).heap.size = w.heap.size + 2 := by simp
 rw [e1] at m2
 have old : ∀ (w : World) (o : Obj) (b : Nat), b < w.heap.size → (w.alloc o).heap[b]? = w.heap[b]? := fun w o b hb => Below.heap_alloc w o b hb
 refine ⟨rfl, ⟨?_, ?_, ?_⟩, (((Below.refl _ _).alloc (Nat.le_refl _) _).alloc (by simp) _).alloc (by simp; omega) _, by simp⟩
 · have := heap_alloc_new ((w.alloc (.map #[] 0)).alloc (.map #[] 0)) (.cells #[.int .u8 kind, .int .i64 (kind - 1), .int .u32 0, .map (some w.heap.size), .map (some (w.heap.size + 1)), .int .i64 0, .int .u32 0] 115)
   rw [e2] at this
   exact this
 · exact (((m1.same (old _ _ _ m1.lt)).same (old _ _ _ (by rw [e2]; omega))).congr entsM_none)
 · exact ((m2.same (old _ _ _ m2.lt)).congr pagesM_none)
set_option maxHeartbeats 1000000 in
theorem t_freshN (kind : Int) (hk : kind = 1 ∨ kind = 2) (w : World) : Calls Tryz.prog 64 #[.int .u8 kind] w (NewPost kind w) := by
 have hmm := @run_makeMap Tryz.prog
 rcases hk with rfl | rfl
 · have HP := zz (new_post 1 w)
   go_enter Tryz.func64, Tryz.ntmps64
   go_wp2
   go_ret
   exact HP.out
 · have HP := zz (new_post 2 w)
   go_enter Tryz.func64, Tryz.ntmps64
   go_wp2
   go_ret
   exact HP.out
def Lay.add (y : Lay) (i : Int) (Q L G : Nat) : Lay :=
 { M := y.M, f := fun j => if j = i then Q else y.f j, L := fun j => if j = i then L else y.L j, G := fun j => if j = i then G else y.G j, own := fun b => if b = Q ∨ b = L ∨ b = G then i else y.own b }
def addF (F : Nat → Prop) (Q L G : Nat) : Nat → Prop := fun b => F b ∨ b = Q ∨ b = L ∨ b = G
theorem TreeM.add {w w1 w2 : World} {F : Nat → Prop} {P N : Nat} {y : Lay} {t : PT} (h : TreeM w F P N y t) {i : Int} (hi : 1 ≤ i ∧ i ≤ 4294967295) {Q L G : Nat} {x : PN} (hb1 : Below w.heap.size w w1)
  (hn : NodeM w1 Q L G 0 x) (hQ : w.heap.size ≤ Q) (hL : w.heap.size ≤ L) (hG : w.heap.size ≤ G) (hLG : L ≠ G)
  (hM : MapAt w2 Tryz.prog 29 y.M (N + 1) (updM (nodesM t.n y.f) (.int .u32 i) (.pointer (some ⟨Q, 0, none⟩)))) (ht : w1.mapTurned w2 y.M) :
  TreeM w2 (addF F Q L G) P (N + 1) (y.add i Q L G) (t.set i x) ∧ Turn w w2 F (addF F Q L G) := by
 have hg := ht.grown
 have hs := hb1.size
 have hMlt := h.nodes.lt
 have hn1 : Q < w1.heap.size := hn.ltQ
 have hn2 : L < w1.heap.size := hn.ents.lt
 have hn3 : G < w1.heap.size := hn.pages.lt
 have keep : ∀ b, b < w1.heap.size → b ≠ y.M → w2.heap[b]? = w1.heap[b]? := fun b hb hne => hg.block b hb (fun e => hne (by injection e))
 have keep0 : ∀ b, F b → b ≠ y.M → w2.heap[b]? = w.heap[b]? := fun b hb hne => (keep b (Nat.lt_of_lt_of_le (h.lt b hb) hs) hne).trans (hb1.block b (h.lt b hb))
 have hPM : P ≠ y.M := fun e => by
  obtain ⟨es, c, h1⟩ := h.nodes.isMap
  rw [← e, h.head] at h1; cases h1
 have newb : ∀ b, F b → ¬ (b = Q ∨ b = L ∨ b = G) := fun b hb e => by
  have := h.lt b hb
  rcases e with e | e | e <;> omega
 refine ⟨{ head := (keep0 P h.fP hPM).trans h.head, nodes := ?_, node := ?_, pos := ?_, own := ?_, ownM := ?_, ownP := ?_, fP := .inl h.fP, fM := .inl h.fM, foot := ?_, lt := ?_ }, ?_⟩
 · refine hM.congr fun kl _ => ?_
   cases kl with
   | int q a =>
    cases q <;> try (unfold updM; simp [nodesM, Lit.sameKey]; done)
    show updM _ _ _ _ = ((t.set i x).n a).map _
    unfold updM PT.set Lay.add
    by_cases ha : a = i
    · subst ha; simp [Lit.sameKey]
    · simp [Lit.sameKey, ha, nodesM]
   | _ => unfold updM; simp [nodesM, Lit.sameKey]
 · intro j z hz
   rw [PT.set_n] at hz
   by_cases hj : j = i
   · subst hj
     rw [if_pos rfl] at hz; cases hz
     simp only [Lay.add, if_pos]
     exact (hn.mono (Nat.zero_le _)).same (keep _ hn1 (by omega)) (keep _ hn2 (by omega)) (keep _ hn3 (by omega))
   · rw [if_neg hj] at hz
     simp only [Lay.add, if_neg hj]
     obtain ⟨p1, p2, p3, _⟩ := h.own j z hz
     obtain ⟨f1, f2, f3⟩ := h.foot j z hz
     have hp := h.pos j z hz
     have ne : ∀ b, y.own b = j → b ≠ y.M := fun b hb e => by rw [e, h.ownM] at hb; omega
     exact ((h.node j z hz).mono (Nat.le_succ N)).same (keep0 _ f1 (ne _ p1)) (keep0 _ f2 (ne _ p2)) (keep0 _ f3 (ne _ p3))
 · intro j z hz
   rw [PT.set_n] at hz
   by_cases hj : j = i
   · rw [hj]; exact hi
   · rw [if_neg hj] at hz; exact h.pos j z hz
 · intro j z hz
   rw [PT.set_n] at hz
   by_cases hj : j = i
   · subst hj
     simp only [Lay.add, if_pos]
     exact ⟨by simp, by simp, by simp, hLG⟩
   · rw [if_neg hj] at hz
     obtain ⟨p1, p2, p3, p4⟩ := h.own j z hz
     obtain ⟨f1, f2, f3⟩ := h.foot j z hz
     simp only [Lay.add, if_neg hj]
     exact ⟨by rw [if_neg (newb _ f1)]; exact p1, by rw [if_neg (newb _ f2)]; exact p2, by rw [if_neg (newb _ f3)]; exact p3, p4⟩
 · simp only [Lay.add]; rw [if_neg (newb _ h.fM)]; exact h.ownM
 · simp only [Lay.add]; rw [if_neg (newb _ h.fP)]; exact h.ownP
 · intro j z hz
   rw [PT.set_n] at hz
   by_cases hj : j = i
   · subst hj
     simp only [Lay.add, if_pos]
     exact ⟨.inr (.inl rfl), .inr (.inr (.inl rfl)), .inr (.inr (.inr rfl))⟩
   · rw [if_neg hj] at hz
     obtain ⟨f1, f2, f3⟩ := h.foot j z hz
     simp only [Lay.add, if_neg hj]
     exact ⟨.inl f1, .inl f2, .inl f3⟩
 · intro b hb
   rcases hb with hb | hb | hb | hb
   · exact Nat.lt_of_lt_of_le (h.lt b hb) (Nat.le_trans hs hg.size)
   · exact Nat.lt_of_lt_of_le (by omega) hg.size
   · exact Nat.lt_of_lt_of_le (by omega) hg.size
   · exact Nat.lt_of_lt_of_le (by omega) hg.size
 · refine ⟨hg.os.trans hb1.os, hg.tape.trans hb1.tape, hg.output.trans hb1.output, Nat.le_trans hs hg.size, fun b hb hF => ?_, fun b hb => ?_⟩
   · exact (keep b (Nat.lt_of_lt_of_le hb hs) (fun e => hF (by rw [e]; exact h.fM))).trans (hb1.block b hb)
   · rcases hb with hb | hb | hb | hb
     · exact .inl hb
     · exact .inr (by omega)
     · exact .inr (by omega)
     · exact .inr (by omega)
def isNew (B : Nat) (x : PN) : Ph := fun v W => ∃ Q L G, v = .pointer (some ⟨Q, 0, none⟩) ∧ NodeM W Q L G 0 x ∧ B ≤ Q ∧ B ≤ L ∧ B ≤ G ∧ L ≠ G
theorem stays_New (B : Nat) (x : PN) : StaysP (isNew B x) := fun _ _ _ ⟨Q, L, G, h1, h2, h3⟩ hb => ⟨Q, L, G, h1, h2.same (hb.block _ h2.ltQ) (hb.block _ h2.ents.lt) (hb.block _ h2.pages.lt), h3⟩
end
end Go.Proofs.YtpcnolkdnmolgaaGreatDoor
