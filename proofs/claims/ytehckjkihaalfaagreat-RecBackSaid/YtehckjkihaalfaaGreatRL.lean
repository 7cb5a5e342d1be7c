/- The program's tree: what turns an inode. -/
import Derived.Test.YtehckjkihaalfaaGreatRK
import Derived.Maps.OwnOps
namespace Go.Proofs.YtehckjkihaalfaaGreat
open Go.RowKit Go.Maps

section
variable {w w' : World} {F : Nat → Prop} {P N : Nat} {y : Lay} {t : PT} {i : Int} {x : PN}
theorem NodeM.neL {Q L G : Nat} (h : NodeM w Q L G N x) : Q ≠ L := fun e => by
  obtain ⟨es, c, h1⟩ := h.ents.isMap
  rw [← e, h.cells] at h1; cases h1
theorem NodeM.neG {Q L G : Nat} (h : NodeM w Q L G N x) : Q ≠ G := fun e => by
  obtain ⟨es, c, h1⟩ := h.pages.isMap
  rw [← e, h.cells] at h1; cases h1
/-- A number of an inode is stored. -/
theorem TreeM.store (h : TreeM w F P N y t) (hx : t.n i = some x) (j : Nat) (v : Value) {x' : PN}
    (hc : (#[Value.int .u8 x.kind, .int .i64 x.links, .int .u32 x.size, .map (some (y.L i)), .map (some (y.G i)), .int .i64 x.held, .int .u32 x.up]).setIfInBounds j v = #[Value.int .u8 x'.kind, .int .i64 x'.links, .int .u32 x'.size, .map (some (y.L i)), .map (some (y.G i)), .int .i64 x'.held, .int .u32 x'.up])
    (hl : x'.l = x.l) (hp : x'.pages = x.pages) : TreeM (w.setCell ⟨y.f i, j, none⟩ v) F P N y (t.set i x') := by
  have hn := h.node i x hx
  have other : ∀ b, b ≠ y.f i → (w.setCell ⟨y.f i, j, none⟩ v).heap[b]? = w.heap[b]? := fun b hb => Below.heap_setCell w ⟨y.f i, j, none⟩ v b hb
  refine h.setNode (Nat.le_refl _) hx ⟨?_, ?_, ?_⟩ (fun b _ h1 _ _ => other b h1) (by simp [World.setCell])
  · rw [pheap_set _ _ _ _ _ _ hn.cells, hc]
  · rw [hl]; exact hn.ents.same (other _ (Ne.symm hn.neL))
  · rw [hp]; exact hn.pages.same (other _ (Ne.symm hn.neG))
theorem TreeM.foot_f (h : TreeM w F P N y t) (hx : t.n i = some x) : F (y.f i) := (h.foot i x hx).1
theorem turn_store (F : Nat → Prop) (w : World) (b j : Nat) (v : Value) (hF : F b) : Turn w (w.setCell ⟨b, j, none⟩ v) F F := Turn.of_grown (pgrown_set w b j v) hF
theorem turn_map {F : Nat → Prop} {b : Nat} (h : w.mapTurned w' b) (hF : F b) : Turn w w' F F := Turn.of_grown h.grown hF
theorem Turn.foot_new {w w' : World} {F F' : Nat → Prop} (h : Turn w w' F F') {b : Nat} (hb : b < w.heap.size) (hF : ¬ F b) : ¬ F' b := fun h1 => by
  rcases h.foot b h1 with h2 | h2
  · exact hF h2
  · omega

def updL (l : List UInt8 → Option Int) (s : List UInt8) (v : Int) : List UInt8 → Option Int := fun k => if k = s then some v else l k
def delL (l : List UInt8 → Option Int) (s : List UInt8) : List UInt8 → Option Int := fun k => if k = s then none else l k
theorem entsM_upd (l : List UInt8 → Option Int) (s : List UInt8) (v : Int) : ∀ kl, WideAt.IsKeyLit kl → updM (entsM l) (.string s) (.int .u32 v) kl = entsM (updL l s v) kl := by
  intro kl _
  unfold updM
  cases kl with
  | string k =>
    by_cases hk : k = s
    · subst hk; simp [Lit.sameKey, entsM, updL]
    · simp [Lit.sameKey, entsM, updL, hk]
  | _ => simp [Lit.sameKey, entsM]
theorem entsM_del (l : List UInt8 → Option Int) (s : List UInt8) : ∀ kl, WideAt.IsKeyLit kl → delM (entsM l) (.string s) kl = entsM (delL l s) kl := by
  intro kl _
  unfold delM
  cases kl with
  | string k =>
    by_cases hk : k = s
    · subst hk; simp [Lit.sameKey, entsM, delL]
    · simp [Lit.sameKey, entsM, delL, hk]
  | _ => simp [Lit.sameKey, entsM]
/-- An inode's map of entries has turned. -/
theorem TreeM.ents (h : TreeM w F P N y t) {N' : Nat} (hN : N ≤ N') (hx : t.n i = some x) {l' : List UInt8 → Option Int} (hm : MapAt w' Tryz.prog 9 (y.L i) N' (entsM l')) (ht : w.mapTurned w' (y.L i)) :
    TreeM w' F P N' y (t.set i { x with l := l' }) ∧ Turn w w' F F := by
  have hn := h.node i x hx
  have hg := ht.grown
  have other : ∀ b, b < w.heap.size → b ≠ y.L i → w'.heap[b]? = w.heap[b]? := fun b hb hne => hg.block b hb (fun e => hne (by injection e))
  refine ⟨h.setNode hN hx ⟨?_, hm, ?_⟩ (fun b hb _ h2 _ => other b (h.lt b hb) h2) hg.size, turn_map ht (h.foot i x hx).2.1⟩
  · exact (other _ hn.ltQ hn.neL).trans hn.cells
  · exact (hn.pages.mono hN).same (other _ hn.pages.lt (Ne.symm (h.own i x hx).2.2.2))
theorem TreeM.pages_ (h : TreeM w F P N y t) {N' : Nat} (hN : N ≤ N') (hx : t.n i = some x) {p' : Int → Option (List UInt8)} (hm : MapAt w' Tryz.prog 3 (y.G i) N' (pagesM p')) (ht : w.mapTurned w' (y.G i)) :
    TreeM w' F P N' y (t.set i { x with pages := p' }) ∧ Turn w w' F F := by
  have hn := h.node i x hx
  have hg := ht.grown
  have other : ∀ b, b < w.heap.size → b ≠ y.G i → w'.heap[b]? = w.heap[b]? := fun b hb hne => hg.block b hb (fun e => hne (by injection e))
  refine ⟨h.setNode hN hx ⟨?_, ?_, hm⟩ (fun b hb _ _ h3 => other b (h.lt b hb) h3) hg.size, turn_map ht (h.foot i x hx).2.2⟩
  · exact (other _ hn.ltQ hn.neG).trans hn.cells
  · exact (hn.ents.mono hN).same (other _ hn.ents.lt (h.own i x hx).2.2.2)
end

section
variable {F : Nat → Prop} {P N : Nat} {y : Lay} {t : PT}
theorem PT.set_n (t : PT) (i j : Int) (x : PN) : (t.set i x).n j = if j = i then some x else t.n j := rfl
theorem PT.del_n (t : PT) (i j : Int) : (t.del i).n j = if j = i then none else t.n j := rfl
/-- An inode by an entry more. -/
def inN (x : PN) (dir : Int) : PN := if x.kind = 2 then { x with up := dir } else { x with links := x.links + 1 }
def outN (x : PN) : PN := if x.kind = 2 then { x with up := 0 } else { x with links := x.links - 1 }
def enterT (t : PT) (dir : Int) (xd : PN) (s : ByteArray) (ino : Int) (xi : PN) : PT := (t.set dir { xd with l := updL xd.l s.data.toList ino }).set ino (inN xi dir)
def leaveT (t : PT) (dir : Int) (xd : PN) (s : ByteArray) (ino : Int) (xi : PN) : PT := (t.set ino (outN xi)).set dir { xd with l := delL xd.l s.data.toList }
set_option maxHeartbeats 2000000 in
theorem t_enter (dir : Int) (s : ByteArray) (ino : Int) (xd xi : PN) (w : World) (h : TreeM w F P N y t) (hN : N < 1000000) (hd : t.n dir = some xd) (hi : t.n ino = some xi) (hne : ino ≠ dir) (hs : s.size ≤ maxLen) (hl : 0 ≤ xi.links ∧ xi.links ≤ 1000000) :
    Calls Tryz.prog 170 #[.pointer (some ⟨P, 0, none⟩), .int .u32 dir, .string s, .int .u32 ino] w fun e w' => e = .returned (.tuple #[]) ∧ TreeM w' F P (N + 1) y (enterT t dir xd s ino xi) ∧ Turn w w' F F := by
  have c1 := h.c1
  have hl1 := h.look_some hd
  have k3 : w.cell? ⟨y.f dir, 3, none⟩ = some (.map (some (y.L dir))) := (h.node dir xd hd).cell 3
  obtain ⟨w1, hrun, hM, ht⟩ := (h.node dir xd hd).ents.update lawS Tryz.underlying182 (by unfold maxLen; omega) (val := .int .u32 ino) (pkeyS hs)
  obtain ⟨hT1, hTu⟩ := h.ents (Nat.le_succ N) hd (hM.congr (entsM_upd xd.l s.data.toList ino)) ht
  have hi1 : (t.set dir { xd with l := updL xd.l s.data.toList ino }).n ino = some xi := by rw [PT.set_n, if_neg hne]; exact hi
  have d1 := hT1.c1
  have dl := hT1.look_some hi1
  have q0 : w1.cell? ⟨y.f ino, 0, none⟩ = some (.int .u8 xi.kind) := (hT1.node ino xi hi1).cell 0
  have q1 : w1.cell? ⟨y.f ino, 1, none⟩ = some (.int .i64 xi.links) := (hT1.node ino xi hi1).cell 1
  have q6 : w1.cell? ⟨y.f ino, 6, none⟩ = some (.int .u32 xi.up) := (hT1.node ino xi hi1).cell 6
  have f1 := (hT1.node ino xi hi1).frozen 1
  have f6 := (hT1.node ino xi hi1).frozen 6
  have HT := Lib.hid hT1
  have HU := Lib.hid hTu
  have HI := Lib.hid hi1
  have HFo := Lib.hid (hT1.foot_f hi1)
  clear h hd hi hM ht hT1 hTu hi1 hne
  cases hk : (xi.kind == 2) with
  | true =>
    have HK : Hid (inN xi dir = { xi with up := dir }) := by show _ = _; unfold inN; rw [if_pos (by simpa using hk)]
    go_enter Tryz.func170, Tryz.ntmps170
    go_wp2_with (go_at_call 175; refine (t_isdir (y.f ino) xi.kind true hk _ q0).mono ?_; rintro e w' ⟨rfl, rfl⟩)
    go_end0
    exact ⟨rfl, by unfold enterT; rw [HK.out]; exact HT.out.store HI.out 6 _ rfl rfl rfl, HU.out.trans (turn_store _ _ _ _ _ HFo.out)⟩
  | false =>
    have HK : Hid (inN xi dir = { xi with links := xi.links + 1 }) := by show _ = _; unfold inN; rw [if_neg (by simpa using hk)]
    go_enter Tryz.func170, Tryz.ntmps170
    go_wp2_with (go_at_call 175; refine (t_isdir (y.f ino) xi.kind false hk _ q0).mono ?_; rintro e w' ⟨rfl, rfl⟩)
    go_end0
    exact ⟨rfl, by unfold enterT; rw [HK.out]; exact HT.out.store HI.out 1 _ rfl rfl rfl, HU.out.trans (turn_store _ _ _ _ _ HFo.out)⟩
set_option maxHeartbeats 2000000 in
theorem t_leave (dir : Int) (s : ByteArray) (ino : Int) (xd xi : PN) (w : World) (h : TreeM w F P N y t) (hd : t.n dir = some xd) (he : xd.l s.data.toList = some ino) (hi : t.n ino = some xi) (hne : ino ≠ dir) (hs : s.size ≤ maxLen) (hl : 0 ≤ xi.links ∧ xi.links ≤ 1000000) :
    Calls Tryz.prog 180 #[.pointer (some ⟨P, 0, none⟩), .int .u32 dir, .string s] w fun e w' => e = .returned (.tuple #[]) ∧ TreeM w' F P N y (leaveT t dir xd s ino xi) ∧ Turn w w' F F := by
  have c1 := h.c1
  have hl1 : ∀ n, (Instr.lookup 153 (.map (some y.M)) (.int .u32 dir) false).run Tryz.prog (w.drewN n) = .ok (.pointer (some ⟨y.f dir, 0, none⟩)) (w.drewN n) := fun n => (h.drewN n).look_some hd
  have hl2 : ∀ n, (Instr.lookup 153 (.map (some y.M)) (.int .u32 ino) false).run Tryz.prog (w.drewN n) = .ok (.pointer (some ⟨y.f ino, 0, none⟩)) (w.drewN n) := fun n => (h.drewN n).look_some hi
  have hl3 : ∀ n, (Instr.lookup 182 (.map (some (y.L dir))) (.string s) false).run Tryz.prog (w.drewN n) = .ok (.int .u32 ino) (w.drewN n) := fun n => by
    have := ((h.drewN n).node dir xd hd).look hs
    rw [he] at this; exact this
  have k3 : w.cell? ⟨y.f dir, 3, none⟩ = some (.map (some (y.L dir))) := (h.node dir xd hd).cell 3
  have HT := Lib.hid h
  have HI := Lib.hid hi
  have HD := Lib.hid hd
  have HNE := Lib.hid hne
  have HS := Lib.hid hs
  clear h hd hi hne he
  go_enter Tryz.func180, Tryz.ntmps180
  go_wp2
  go_quiet (fail)
  generalize hw2 : w.drewN _ = w2
  have hb2 : Below w.heap.size w w2 := by rw [← hw2]; exact pbelow_drewN (Below.refl _ _) _
  have hT := HT.out.below hb2
  clear hw2 hl1 hl2 hl3 c1 k3
  have q0 : w2.cell? ⟨y.f ino, 0, none⟩ = some (.int .u8 xi.kind) := (hT.node ino xi HI.out).cell 0
  have q1 : w2.cell? ⟨y.f ino, 1, none⟩ = some (.int .i64 xi.links) := (hT.node ino xi HI.out).cell 1
  have q6 : w2.cell? ⟨y.f ino, 6, none⟩ = some (.int .u32 xi.up) := (hT.node ino xi HI.out).cell 6
  have f1 := (hT.node ino xi HI.out).frozen 1
  have f6 := (hT.node ino xi HI.out).frozen 6
  have hFo := hT.foot_f HI.out
  have rest : ∀ w3, TreeM w3 F P N y (t.set ino (outN xi)) → Turn w2 w3 F F → w3.cell? ⟨P, 1, none⟩ = some (.map (some y.M)) ∧ (Instr.lookup 153 (.map (some y.M)) (.int .u32 dir) false).run Tryz.prog w3 = .ok (.pointer (some ⟨y.f dir, 0, none⟩)) w3 ∧ w3.cell? ⟨y.f dir, 3, none⟩ = some (.map (some (y.L dir))) ∧
      ∃ w4, (∀ ty, (Builtin.delete_ #[182, 9] ty #[.map (some (y.L dir)), .string s]).run Tryz.prog w3 = .ok (.tuple #[]) w4) ∧ TreeM w4 F P N y (leaveT t dir xd s ino xi) ∧ Turn w w4 F F := by
    intro w3 h3 hu
    have hd3 : (t.set ino (outN xi)).n dir = some xd := by rw [PT.set_n, if_neg (fun e => HNE.out e.symm)]; exact HD.out
    refine ⟨h3.c1, h3.look_some hd3, (h3.node dir xd hd3).cell 3, ?_⟩
    obtain ⟨w4, hrun, hM, ht⟩ := (h3.node dir xd hd3).ents.drop lawS Tryz.underlying182 (pkeyS HS.out) 0
    obtain ⟨hT4, hTu⟩ := h3.ents (Nat.le_refl N) hd3 (hM.congr (entsM_del xd.l s.data.toList)) ht
    exact ⟨w4, fun ty => hrun, hT4, (Turn.of_below F hb2).trans (hu.trans hTu)⟩
  cases hk : (xi.kind == 2) with
  | true =>
    have hout : outN xi = { xi with up := 0 } := by unfold outN; rw [if_pos (by simpa using hk)]
    obtain ⟨g1, g2, g3, w4, g4, g5, g6⟩ := rest (w2.setCell ⟨y.f ino, 6, none⟩ (.int .u32 0)) (by rw [hout]; exact hT.store HI.out 6 _ rfl rfl rfl) (turn_store _ _ _ _ _ hFo)
    have G5 := Lib.hid g5
    have G6 := Lib.hid g6
    clear rest hT g5 g6 hout
    go_wp2_with (go_at_call 175; refine (t_isdir (y.f ino) xi.kind true hk _ q0).mono ?_; rintro e w' ⟨rfl, rfl⟩)
    go_end0
    exact ⟨rfl, G5.out, G6.out⟩
  | false =>
    have hout : outN xi = { xi with links := xi.links - 1 } := by unfold outN; rw [if_neg (by simpa using hk)]
    obtain ⟨g1, g2, g3, w4, g4, g5, g6⟩ := rest (w2.setCell ⟨y.f ino, 1, none⟩ (.int .i64 (xi.links - 1))) (by rw [hout]; exact hT.store HI.out 1 _ rfl rfl rfl) (turn_store _ _ _ _ _ hFo)
    have G5 := Lib.hid g5
    have G6 := Lib.hid g6
    clear rest hT g5 g6 hout
    go_wp2_with (go_at_call 175; refine (t_isdir (y.f ino) xi.kind false hk _ q0).mono ?_; rintro e w' ⟨rfl, rfl⟩)
    go_end0
    exact ⟨rfl, G5.out, G6.out⟩
end
end Go.Proofs.YtehckjkihaalfaaGreat
