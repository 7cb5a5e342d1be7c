/- model.On; models of the call's own, one and two. -/
import Derived.Test.YtpcnolkdnmolgaaGreatDoorPe21
import Derived.Test.YtpcnolkdnmolgaaGreatDoorPe24
namespace Go.Proofs.YtpcnolkdnmolgaaGreatDoor
section
open Go.RowKit Go.Maps
set_option maxRecDepth 100000 in
theorem t_onNil (n : Int) (w : World) : Calls Tryz.prog 38 #[.pointer none, .int .i64 n] w fun e w' => e = .returned (.tuple #[.pointer none, .int .i64 1]) ∧ w = w' := by
 go_enter Tryz.func38, Tryz.ntmps38
 go_wp2
 go_ret2
 exact ⟨rfl, rfl⟩
section
variable {F : Nat → Prop} {P Pt Pf N : Nat} {y : Lay} {t : PT} {m : MD}
set_option maxRecDepth 100000 in
set_option maxHeartbeats 1000000 in
theorem t_onM (n : Int) (w : World) (h : TreeM w F Pt N y t) (hN : N ≤ 60000) (h3 : 1 ≤ n) (h4 : n ≤ 8) :
  Calls Tryz.prog 38 #[.pointer (some ⟨Pt, 0, none⟩), .int .i64 n] w fun e w' => ∃ P Pt' Pf y' F', e = .returned (.tuple #[.pointer (some ⟨P, 0, none⟩), .int .i64 0]) ∧ ModM w' F' P Pt' Pf N y' ⟨t, fun _ => 0, n⟩ ∧ (∀ b, Fm F' P Pf b → w.heap.size ≤ b) ∧ Below w.heap.size w w' := by
 have HF := zz (fds_new_ok n h3 h4 w)
 have HTG := zz (show ∀ W, Below w.heap.size w W → TreeM W F Pt N y t from fun W hb => h.below hb)
 have HTC := zz (show ∀ W, Below w.heap.size w W → Calls Tryz.prog 41 #[.pointer (some ⟨Pt, 0, none⟩)] W (CopyP N t W) from fun W hb => t_copyP W (h.below hb) hN)
 clear h h3 h4
 go_enter Tryz.func38, Tryz.ntmps38
 go_wp2_with (first
  | (go_at_call 40; (with_reducible refine HF.out.mono ?_); rintro e w3 ⟨rfl, rfl⟩)
  | (go_at_call 41; (with_reducible refine (HTC.out _ ((Below.refl _ _).alloc (Nat.le_refl _) _)).mono ?_); rintro e w4 ⟨P2, y2, F2, rfl, hT, hF, hb⟩
     have HT := zz hT
     have HFF := zz hF
     have HB := zz hb
     clear hT hF hb))
 go_ret2
 have hs := HB.out.size
 simp at hs
 have hb1 : Below w.heap.size w (w.alloc (.cells (zTab.setIfInBounds 128 (.int .i64 n)) 146)) := (Below.refl _ _).alloc (Nat.le_refl _) _
 have hT4 := (Tab.new w n).below HB.out (by simp)
 refine ⟨w4.heap.size, P2, w.heap.size, y2, _, rfl, mod_of (m := ⟨t, fun _ => 0, n⟩) (HT.out.below ((Below.refl _ _).alloc (Nat.le_refl _) _)) (hT4.alloc _) (heap_alloc_new _ _), ?_, (ptrans hb1 HB.out).alloc (by omega) _⟩
 rintro b (h1 | rfl | rfl)
 · have := HFF.out b (Ft.sub HT.out b h1)
   simp at this
   omega
 · omega
 · exact Nat.le_refl _
end
def KeptL (L : List (Nat × Obj)) (G : Nat → Prop) (w : World) : Prop := ∀ p ∈ L, w.heap[p.1]? = some p.2 ∧ ¬ G p.1
section
variable {L : List (Nat × Obj)} {G G' : Nat → Prop} {w w' : World}
theorem KeptL.below (h : KeptL L G w) (hb : Below w.heap.size w w') : KeptL L G w' := fun p hp => ⟨(hb.block _ (Array.getElem?_eq_some_iff.1 (h p hp).1).1).trans (h p hp).1, (h p hp).2⟩
theorem KeptL.turn (h : KeptL L G w) (hU : Turn w w' G G') : KeptL L G' w' := fun p hp => by
 obtain ⟨h1, h2⟩ := h p hp
 have hlt := (Array.getElem?_eq_some_iff.1 h1).1
 refine ⟨(hU.block _ hlt h2).trans h1, fun e => ?_⟩
 rcases hU.foot _ e with h3 | h3
 · exact h2 h3
 · omega
theorem KeptL.alloc (h : KeptL L G w) (hG : ∀ b, G b → b < w.heap.size) (o : Obj) : KeptL ((w.heap.size, o) :: L) G (w.alloc o) := fun p hp => by
 rcases List.mem_cons.1 hp with rfl | hp
 · exact ⟨heap_alloc_new w o, fun e => absurd (hG _ e) (Nat.lt_irrefl _)⟩
 · exact h.below ((Below.refl _ _).alloc (Nat.le_refl _) _) p hp
theorem KeptL.nil : KeptL [] G w := fun p hp => absurd hp (by simp)
end
def MOwn (B : Nat) (w1 : World) (P Pt Pf N : Nat) (m : MD) (L : List (Nat × Obj)) (w : World) : Prop := ∃ y F, ModM w F P Pt Pf N y m ∧ m.Ok ∧ (∀ b, Fm F P Pf b → B ≤ b) ∧ B ≤ w.heap.size ∧ Below B w1 w ∧ KeptL L (Fm F P Pf) w
section
variable {B P Pt Pf P2 Pt2 Pf2 N N' : Nat} {w1 w w' : World} {m m2 : MD} {L : List (Nat × Obj)}
theorem MOwn.below (h : MOwn B w1 P Pt Pf N m L w) (hb : Below w.heap.size w w') : MOwn B w1 P Pt Pf N m L w' := by
 obtain ⟨y, F, hM, hO, hF, hs, hB, hL⟩ := h
 exact ⟨y, F, hM.below hb, hO, hF, Nat.le_trans hs hb.size, hB.trans (hb.mono hs), hL.below hb⟩
theorem MOwn.alloc (h : MOwn B w1 P Pt Pf N m L w) (o : Obj) : MOwn B w1 P Pt Pf N m ((w.heap.size, o) :: L) (w.alloc o) := by
 obtain ⟨y, F, hM, hO, hF, hs, hB, hL⟩ := h
 have hb : Below w.heap.size w (w.alloc o) := (Below.refl _ _).alloc (Nat.le_refl _) _
 exact ⟨y, F, hM.below hb, hO, hF, Nat.le_trans hs hb.size, hB.trans (hb.mono hs), hL.alloc hM.lt o⟩
theorem MOwn.mem (h : MOwn B w1 P Pt Pf N m L w) : Below B w1 w := by
 obtain ⟨y, F, _, _, _, _, hB, _⟩ := h
 exact hB
theorem MOwn.base (h : MOwn B w1 P Pt Pf N m L w) : B ≤ w.heap.size := by
 obtain ⟨y, F, _, _, _, hs, _, _⟩ := h
 exact hs
theorem MOwn.ok (h : MOwn B w1 P Pt Pf N m L w) : m.Ok := by
 obtain ⟨y, F, _, hO, _⟩ := h
 exact hO
theorem MOwn.mod (h : MOwn B w1 P Pt Pf N m L w) : ∃ y F, ModM w F P Pt Pf N y m := by
 obtain ⟨y, F, hM, _⟩ := h
 exact ⟨y, F, hM⟩
theorem MOwn.at_ (h : MOwn B w1 P Pt Pf N m L w) {b : Nat} {o : Obj} (hb : (b, o) ∈ L) : w.heap[b]? = some o := by
 obtain ⟨y, F, _, _, _, _, _, hL⟩ := h
 exact (hL _ hb).1
structure Cx.Fits (x : Cx) : Prop where
 act : ∃ a : Nat, x.act = a ∧ a ≤ 255
 path : x.path.size ≤ maxLen
 path2 : x.path2.size ≤ maxLen
 data : x.data.size ≤ maxLen
 size : 0 ≤ x.size
theorem own_do (x : Cx) (hx : x.Fits) (core : Int) (h : MOwn B w1 P Pt Pf N m L w) (hk : KindsAt w1) (hB0 : 0 < B) (hN : N ≤ 50000) :
  Calls Tryz.prog 12 #[.pointer (some ⟨P, 0, none⟩), .int .i64 core, callV x] w fun e w' => (∃ v, e = .returned v ∧ ResV m.t w.heap.size w' (doM m core x).1 v) ∧ MOwn B w1 P Pt Pf (N + 2) (doM m core x).2 L w' := by
 obtain ⟨y, F, hM, hO, hF, hs, hB, hL⟩ := h
 obtain ⟨a, ha, ha2⟩ := hx.act
 refine (t_doM w hM hO core x a ha ha2 hx.path hx.path2 hx.data hx.size hN (hk.below hB hB0)).mono fun e w' ⟨v, he, hv, y', F', hM', hU⟩ => ⟨⟨v, he, hv⟩, y', F', hM', (deed_do hO core x hx.size).1, fun b hb => ?_, Nat.le_trans hs hU.size, hB.trans (hU.below hF hs), hL.turn hU⟩
 rcases hU.foot b hb with h1 | h1
 · exact hF b h1
 · exact Nat.le_trans hs h1
def MPair (B : Nat) (w1 : World) (P Pt Pf P2 Pt2 Pf2 N : Nat) (m m2 : MD) (L : List (Nat × Obj)) (w : World) : Prop := ∃ y F y2 F2, ModM w F P Pt Pf N y m ∧ ModM w F2 P2 Pt2 Pf2 N y2 m2 ∧ m.Ok ∧ m2.Ok ∧ (∀ b, Fm F P Pf b → B ≤ b) ∧ (∀ b, Fm F2 P2 Pf2 b → B ≤ b) ∧ (∀ b, Fm F P Pf b → ¬ Fm F2 P2 Pf2 b) ∧ B ≤ w.heap.size ∧ Below B w1 w ∧ KeptL L (Fm F P Pf) w
theorem MPair.mem (h : MPair B w1 P Pt Pf P2 Pt2 Pf2 N m m2 L w) : Below B w1 w := by
 obtain ⟨y, F, y2, F2, hM, hM2, hO, hO2, hF, hF2, hd, hs, hB, _⟩ := h
 exact hB
theorem MPair.fst (h : MPair B w1 P Pt Pf P2 Pt2 Pf2 N m m2 L w) : MOwn B w1 P Pt Pf N m L w := by
 obtain ⟨y, F, y2, F2, hM, hM2, hO, hO2, hF, hF2, hd, hs, hB, hL⟩ := h
 exact ⟨y, F, hM, hO, hF, hs, hB, hL⟩
theorem MPair.snd (h : MPair B w1 P Pt Pf P2 Pt2 Pf2 N m m2 L w) : MOwn B w1 P2 Pt2 Pf2 N m2 [] w := by
 obtain ⟨y, F, y2, F2, hM, hM2, hO, hO2, hF, hF2, hd, hs, hB, hL⟩ := h
 exact ⟨y2, F2, hM2, hO2, hF2, hs, hB, KeptL.nil⟩
theorem own_copyM (h : MOwn B w1 P Pt Pf N m L w) (hN : N ≤ 60000) :
  Calls Tryz.prog 11 #[.pointer (some ⟨P, 0, none⟩)] w fun e w' => ∃ P2 Pt2 Pf2, e = .returned (.pointer (some ⟨P2, 0, none⟩)) ∧ MPair B w1 P Pt Pf P2 Pt2 Pf2 N m m L w' := by
 obtain ⟨y, F, hM, hO, hF, hs, hB, hL⟩ := h
 refine (t_copyM w hM hN).mono fun e w' ⟨P2, Pt2, Pf2, y2, F2, he, hM2, hF2, hb⟩ => ⟨P2, Pt2, Pf2, he, y, F, y2, F2, hM.below hb, hM2, hO, hO, hF, fun b h2 => Nat.le_trans hs (hF2 b h2), fun b h1 h2 => ?_, Nat.le_trans hs hb.size, hB.trans (hb.mono hs), hL.below hb⟩
 have := hM.lt b h1
 have := hF2 b h2
 omega
theorem pair_do (x : Cx) (hx : x.Fits) (core : Int) (h : MPair B w1 P Pt Pf P2 Pt2 Pf2 N m m2 L w) (hk : KindsAt w1) (hB0 : 0 < B) (hN : N ≤ 50000) :
  Calls Tryz.prog 12 #[.pointer (some ⟨P, 0, none⟩), .int .i64 core, callV x] w fun e w' => (∃ v, e = .returned v ∧ ResV m.t w.heap.size w' (doM m core x).1 v) ∧ MPair B w1 P Pt Pf P2 Pt2 Pf2 (N + 2) (doM m core x).2 m2 L w' := by
 obtain ⟨y, F, y2, F2, hM, hM2, hO, hO2, hF, hF2, hd, hs, hB, hL⟩ := h
 obtain ⟨a, ha, ha2⟩ := hx.act
 refine (t_doM w hM hO core x a ha ha2 hx.path hx.path2 hx.data hx.size hN (hk.below hB hB0)).mono fun e w' ⟨v, he, hv, y', F', hM', hU⟩ => ⟨⟨v, he, hv⟩, y', F', y2, F2, hM', (hM2.same (fun b hb => hU.block b (hM2.lt b hb) (fun h1 => hd b h1 hb)) hU.size).mono (by omega), (deed_do hO core x hx.size).1, hO2, fun b hb => ?_, hF2, fun b hb hb2 => ?_, Nat.le_trans hs hU.size, hB.trans (hU.below hF hs), hL.turn hU⟩
 · rcases hU.foot b hb with h1 | h1
   · exact hF b h1
   · exact Nat.le_trans hs h1
 · rcases hU.foot b hb with h1 | h1
   · exact hd b h1 hb2
   · have := hM2.lt b hb2
     omega
theorem resV_plain {t : PT} {lo : Nat} {r : Rs} {v : Value} {er fd io : Int} {d : ByteArray} (h : ResV t lo w r v) (hr : r = ⟨er, fd, io, stat0, none, d⟩) : v = .agg #[.int .i64 er, .int .i64 fd, .int .u32 io, .int .u32 0, .int .u8 0, .int .i64 0, .int .u32 0, .slice none 0 0, .string d] := by
 obtain ⟨lv, rfl, hl⟩ := h
 subst hr
 have hl2 : lv = .slice none 0 0 := hl
 subst hl2
 rfl
end
end

section
open Go.RowKit Go.Maps
section
variable {t t3 : PT}
theorem look_ofM {d v : Int} {s : ByteArray} {x : PN} (hn : namesE [s] = 0) (hd : t.n d = some x) (hk : x.kind = 2) (hl : x.l s.data.toList = some v) (hv : v ≠ 0) : lookP t d s = (v, 0) := by
 have e2 : thereE t [d] = 0 := by unfold thereE; simp [hd]
 have e3 : dirsE t [d] = 0 := by unfold dirsE isFile; simp [hd, hk]
 unfold lookP
 rw [hn, e2, e3, if_neg (by decide), hd]
 simp [hl, hv]
structure Made (t : PT) (d : Int) (s : ByteArray) (k i : Int) (xd : PN) (t1 : PT) : Prop where
 dir : t.n d = some xd
 kind : xd.kind = 2
 free : xd.l s.data.toList = none
 new : t.n i = none
 name : namesE [s] = 0
 node : ∀ j, t1.n j = if j = i then some (inN (newN k) d) else if j = d then some { xd with l := updL xd.l s.data.toList i } else t.n j
 room : t1.room = t.room
 pos : 1 ≤ i
theorem make_made (hW : WellP t) {d k i : Int} {s : ByteArray} (hi : Least t i) (h : (makeP t d s k i).1.2 = 0) : (makeP t d s k i).1.1 = i ∧ ∃ xd, Made t d s k i xd (makeP t d s k i).2 := by
 unfold makeP at *
 by_cases c : (makeQ t d s k i).2 = 0
 · rw [if_pos c] at h ⊢
   refine ⟨rfl, ?_⟩
   show ∃ xd, Made t d s k i xd (makeAtP t d s k i).2
   have h' : (makeAtP t d s k i).1 = 0 := h
   unfold makeAtP at h' ⊢
   by_cases c2 : makeAtE t d s k i = 0
   · rw [if_pos c2]
     have hnew := makeAt_free c2
     unfold makeAtE at c2
     obtain ⟨z0, c2⟩ := firstE_cons c2
     obtain ⟨_, c2⟩ := firstE_cons c2
     obtain ⟨_, c2⟩ := firstE_cons c2
     obtain ⟨z, c2⟩ := firstE_cons c2
     obtain ⟨z2, c2⟩ := firstE_cons c2
     obtain ⟨z3, _⟩ := firstE_cons c2
     obtain ⟨xd, hd⟩ := Option.isSome_iff_exists.1 (there_one z)
     have hkd : xd.kind = 2 := by
      unfold dirsE isFile at z2
      simp [hd] at z2
      exact z2
     refine ⟨xd, hd, hkd, hW.free_of hd z3, hnew, z0, fun j => ?_, ?_, hi.1⟩
     · show (makeT t d s k i).n j = _
       unfold makeT
       rw [hd]
       simp only
       rw [enter_n]
       by_cases e1 : j = i
       · rw [if_pos e1, if_pos e1]
       · rw [if_neg e1, if_neg e1]
         by_cases e2 : j = d
         · rw [if_pos e2, if_pos e2]
         · rw [if_neg e2, if_neg e2, PT.set_n, if_neg e1]
     · show (makeT t d s k i).room = _
       unfold makeT
       rw [hd]
       rfl
   · rw [if_neg c2] at h'; exact absurd h' c2
 · rw [if_neg c] at h; exact absurd h c
theorem del_upd {l : List UInt8 → Option Int} {k : List UInt8} {i : Int} (h : l k = none) : delL (updL l k i) k = l := by
 funext z
 unfold updL delL
 by_cases c : z = k
 · simp only [if_pos c]
   rw [c, h]
 · simp only [if_neg c]
structure Stands (t : PT) (d : Int) (s : ByteArray) (i : Int) (xd y : PN) (t1 : PT) : Prop where
 dir : t.n d = some xd
 kind : xd.kind = 2
 free : xd.l s.data.toList = none
 new : t.n i = none
 name : namesE [s] = 0
 node : ∀ j, t1.n j = if j = i then some y else if j = d then some { xd with l := updL xd.l s.data.toList i } else t.n j
 room : t1.room = t.room
 pos : 1 ≤ i
section
variable {d i k : Int} {s : ByteArray} {xd y : PN} {t1 : PT}
theorem Made.stands (h : Made t d s k i xd t1) : Stands t d s i xd (inN (newN k) d) t1 := ⟨h.dir, h.kind, h.free, h.new, h.name, h.node, h.room, h.pos⟩
theorem Stands.put {y' : PN} (h : Stands t d s i xd y t1) : Stands t d s i xd y' (t1.set i y') :=
 ⟨h.dir, h.kind, h.free, h.new, h.name, fun j => by
  rw [PT.set_n, h.node]
  by_cases c : j = i
  · rw [if_pos c, if_pos c]
  · rw [if_neg c, if_neg c, if_neg c], h.room, h.pos⟩
theorem Stands.ne (h : Stands t d s i xd y t1) : i ≠ d := fun e => by
 have h1 := h.dir
 rw [← e, h.new] at h1; cases h1
theorem Stands.at_ (h : Stands t d s i xd y t1) : t1.n i = some y := by rw [h.node, if_pos rfl]
theorem Stands.at_dir (h : Stands t d s i xd y t1) : t1.n d = some { xd with l := updL xd.l s.data.toList i } := by rw [h.node, if_neg (fun e => h.ne e.symm), if_pos rfl]
theorem Stands.look (h : Stands t d s i xd y t1) : lookP t1 d s = (i, 0) :=
 look_ofM h.name h.at_dir h.kind (by show updL xd.l _ i _ = _; unfold updL; rw [if_pos rfl]) (by have := h.pos; omega)
theorem Stands.leave (h : Stands t d s i xd y t1) (j : Int) : (leaveT t1 d { xd with l := updL xd.l s.data.toList i } s i y).n j = if j = i then some (outN y) else t.n j := by
 rw [leave_n h.ne]
 by_cases c : j = d
 · rw [if_pos c, if_neg (fun e => h.ne (e.symm.trans c)), c, h.dir, del_upd h.free]
 · rw [if_neg c]
   by_cases c2 : j = i
   · rw [if_pos c2, if_pos c2]
   · rw [if_neg c2, if_neg c2, h.node, if_neg c2, if_neg c]
theorem Stands.drop_stays (h : Stands t d s i xd y t1) (q : PN → Int) (hq : q y = 0) (hg : goneB i (outN y) = false) : ∃ t2, dropP t1 d s q = ((i, 0), t2) ∧ t2.room = t.room ∧ ∀ j, t2.n j = if j = i then some (outN y) else t.n j := by
 refine ⟨leaveT t1 d { xd with l := updL xd.l s.data.toList i } s i y, ?_, h.room, h.leave⟩
 unfold dropP
 rw [h.look]
 simp only [ne_eq, not_true_eq_false, if_false]
 rw [h.at_dir, h.at_]
 simp only
 rw [if_neg (fun e => e hq)]
 unfold dropT freeP
 rw [if_neg (by rw [hg]; decide)]
end
theorem unhold_gone {t2 : PT} {i : Int} {y : PN} (hr : t2.room = t.room) (hn : ∀ j, t2.n j = if j = i then some y else t.n j) (hi : t.n i = none) (hk : y.kind = 1) (hh : y.held = 1) (hl : y.links = 0) (h1 : i ≠ 1) : unholdP t2 i = (0, t) := by
 have hi2 : t2.n i = some y := by rw [hn, if_pos rfl]
 have e : unholdE t2 i = 0 := by
  unfold unholdE
  have e1 : thereE t2 [i] = 0 := by unfold thereE; simp [hi2]
  have e2 : heldE' t2 i = 0 := by
   unfold heldE'
   rw [hi2]
   show heldE y = 0
   unfold heldE
   rw [if_neg (by omega)]
  rw [e1, e2]
  rfl
 unfold unholdP
 rw [if_pos e, hi2]
 show (0, unholdT t2 i y) = _
 unfold unholdT freeP
 have hg : goneB i { y with held := y.held - 1 } = true := by
  unfold goneB
  simp [hk, hh, hl, h1]
 rw [if_pos hg]
 have e3 : (t2.set i { y with held := y.held - 1 }).del i = t := PT.ext' hr fun j => by
  rw [PT.del_n, PT.set_n, hn]
  by_cases c : j = i
  · rw [if_pos c, c, hi]
  · rw [if_neg c, if_neg c, if_neg c]
 rw [e3]
end
abbrev ba0 : ByteArray := ByteArray.empty
def callP (act : Int) (s : ByteArray) : Cx := ⟨act, s, ba0, 0, 0, 0, ba0⟩
def writeC (fd : Int) (d : ByteArray) : Cx := ⟨4, ba0, ba0, fd, 0, 0, d⟩
def closeC (fd : Int) : Cx := ⟨13, ba0, ba0, fd, 0, 0, ba0⟩
theorem check_close {fd : Int} (h : 0 ≤ fd ∧ fd ≤ 15) : checkC (closeC fd) = 0 := by
 unfold checkC closeC pathE hasB
 simp
 omega
theorem doM_ok {m : MD} {core : Int} {x : Cx} (h1 : 0 ≤ core) (h2 : core < m.n) (h3 : checkC x = 0) : doM m core x = deedM m core.toNat x := by
 unfold doM
 rw [if_neg (by omega), if_neg (fun e => e h3)]
section
variable {m : MD}
theorem upd_back {T : Nat → Int} {p : Nat} {v : Int} (h : T p = 0) : updT (updT T p v) p 0 = T := by
 funext k
 unfold updT
 by_cases c : k = p
 · rw [if_pos c, c, h]
 · rw [if_neg c, if_neg c]
end
end

section
open Go.RowKit Go.Maps
abbrev sla : ByteArray := { data := #[47, 97] }
abbrev slb : ByteArray := { data := #[47, 98] }
abbrev shi : ByteArray := { data := #[104, 105] }
theorem least_only {t : PT} {m : Int} (h : Least t m) {k : Int} (h1 : 1 ≤ k) (hk : t.n k = none) (h2 : ∀ j, 1 ≤ j → j < k → (t.n j).isSome = true) : m = k := by
 obtain ⟨a1, _, a3, a4⟩ := h
 rcases Int.lt_trichotomy m k with c | c | c
 · have := h2 m a1 c
   rw [a3] at this; cases this
 · exact c
 · have := a4 k h1 c
   rw [hk] at this; cases this
theorem new_n (r j : Int) : (newT r).n j = if j = 1 then some (newN 2) else none := by
 unfold newT
 rw [PT.set_n]
theorem new_least {r : Int} (h1 : 2 ≤ r) (h2 : r ≤ 256) : leastI (newT r) = 2 :=
 least_only (WellP.new r h1 h2).leastI_ (by decide) (by rw [new_n]; rfl) (fun j a b => by rw [new_n, if_pos (by omega)]; rfl)
theorem split_a : splitE sla = ([sa], 0) := by decide +kernel
theorem split_b : splitE slb = ([sb], 0) := by decide +kernel
theorem names_a : namesE [sa] = 0 := by decide +kernel
theorem names_b : namesE [sb] = 0 := by decide +kernel
theorem entry_top {t : PT} {s n : ByteArray} (h : splitE s = ([n], 0)) : entryP t s = ((1, n), 0) := by
 unfold entryP parentE
 rw [h]
 rfl
theorem find_top {t : PT} {s n : ByteArray} (h : splitE s = ([n], 0)) : findP t s = if (lookP t 1 n).2 ≠ 0 then (0, (lookP t 1 n).2) else lookP t 1 n := by
 unfold findP
 rw [h]
 show walkP t [n] = _
 unfold walkP
 show (if (lookP t 1 n).2 ≠ 0 then _ else _) = _
 rfl
theorem new_make {r : Int} (h1 : 2 ≤ r) (h2 : r ≤ 256) {s : ByteArray} (hs : namesE [s] = 0) : (makeP (newT r) 1 s 1 2).1.2 = 0 := by
 have hd : (newT r).n 1 = some (newN 2) := by rw [new_n, if_pos rfl]
 have e2 : thereE (newT r) [1] = 0 := by unfold thereE; simp [hd]
 have e3 : dirsE (newT r) [1] = 0 := by unfold dirsE isFile; simp [hd, newN]
 have e4 : freshE' (newT r) 1 s = 0 := by unfold freshE'; rw [hd]; unfold freshE; simp [newN]
 have e5 : haveE (newT r) 2 = 0 := by
  unfold haveE
  rw [new_n, if_neg (by decide)]
 have e6 : roomE (newT r) 2 = 0 := by
  unfold roomE
  rw [if_neg (by show ¬ ((2 : Int) < 1 ∨ r < 2); omega)]
 have q : makeE (newT r) 1 s 1 = 0 := by
  unfold makeE
  rw [hs, e2, e3, e4]
  rfl
 have q2 : makeAtE (newT r) 1 s 1 2 = 0 := by
  unfold makeAtE
  rw [hs, e2, e3, e4, e5, e6]
  rfl
 unfold makeP makeQ
 rw [if_pos q]
 rw [if_neg (show ¬ (newT r).room < 2 by show ¬ r < 2; omega), if_pos rfl]
 unfold makeAtP
 rw [if_pos q2]
theorem new_create {r n : Int} (h1 : 2 ≤ r) (h2 : r ≤ 256) (h3 : 1 ≤ n) (h4 : n ≤ 8) {core : Int} (c1 : 0 ≤ core) (c2 : core < n) {s nm : ByteArray} (hs : splitE s = ([nm], 0)) (hn : namesE [nm] = 0) (hc : checkC (callP 2 s) = 0) :
  ∃ xd y t2, Stands (newT r) 1 nm 2 xd y t2 ∧ (y.kind = 1 ∧ y.links = 1 ∧ y.held = 1 ∧ y.size = 0 ∧ ∀ p, y.pages p = none) ∧
   doM ⟨newT r, fun _ => 0, n⟩ core (callP 2 s) = (⟨0, 0, 2, stat0, none, ba0⟩, ⟨t2, updT (fun _ => 0) (core.toNat * 16) 2, n⟩) := by
 have hk : (⟨newT r, fun _ => 0, n⟩ : MD).Ok := HoldOk.new r h1 h2 h3 h4
 have hl := new_least h1 h2
 have e1 : doM ⟨newT r, fun _ => 0, n⟩ core (callP 2 s) = createM ⟨newT r, fun _ => 0, n⟩ core.toNat (callP 2 s) := by rw [doM_ok c1 c2 hc]; rfl
 have hf : freeFd (fun _ => 0) core.toNat = some 0 := by
  unfold freeFd
  rfl
 have hmk := new_make h1 h2 hn
 obtain ⟨g1, xd, g2⟩ := make_made (WellP.new r h1 h2) (i := 2) (by rw [← hl]; exact (WellP.new r h1 h2).leastI_) hmk
 have hst := g2.stands
 have hat := hst.at_
 have hok := hold_file hat (show (inN (newN 1) 1).kind = 1 from rfl)
 have hT : (holdP (makeP (newT r) 1 nm 1 2).2 2).2 = (makeP (newT r) 1 nm 1 2).2.set 2 { inN (newN 1) 1 with held := (inN (newN 1) 1).held + 1 } := by
  unfold holdP at hok ⊢
  by_cases c4 : holdE (makeP (newT r) 1 nm 1 2).2 2 = 0
  · rw [if_pos c4, hat]
  · rw [if_neg c4] at hok; exact absurd hok c4
 refine ⟨xd, _, _, hst.put (y' := { inN (newN 1) 1 with held := (inN (newN 1) 1).held + 1 }), ⟨rfl, rfl, rfl, rfl, fun _ => rfl⟩, ?_⟩
 rw [e1]
 unfold createM makeM
 have hE : entryP (newT r) s = ((1, nm), 0) := entry_top hs
 show (if (freeFd (fun _ => 0) core.toNat).isNone = true then _ else if (entryP (newT r) s).2 ≠ 0 then _ else if (makeP (newT r) (entryP (newT r) s).1.1 (entryP (newT r) s).1.2 1 (leastI (newT r))).1.2 ≠ 0 then _ else openedM ⟨(makeP (newT r) (entryP (newT r) s).1.1 (entryP (newT r) s).1.2 1 (leastI (newT r))).2, fun _ => 0, n⟩ core.toNat (makeP (newT r) (entryP (newT r) s).1.1 (entryP (newT r) s).1.2 1 (leastI (newT r))).1.1 : Rs × MD) = _
 rw [hE, hl, hf, if_neg (by decide), if_neg (fun e => e rfl), if_neg (fun e => e hmk), g1]
 have ho := opened_ok (m := ⟨(makeP (newT r) 1 nm 1 2).2, fun _ => 0, n⟩) (c := core.toNat) (i := 2) (k := 0) hok hf
 refine ho.trans ?_
 show ((⟨0, ((0 : Nat) : Int), 2, stat0, none, ByteArray.empty⟩ : Rs), (⟨(holdP (makeP (newT r) 1 nm 1 2).2 2).2, updT (fun _ => 0) (core.toNat * 16 + 0) 2, n⟩ : MD)) = _
 rw [hT]
 rfl
def readC (fd page : Int) : Cx := ⟨3, ba0, ba0, fd, page, 0, ba0⟩
theorem check_ca : checkC (callP 2 sla) = 0 := by decide +kernel
theorem check_cb : checkC (callP 2 slb) = 0 := by decide +kernel
theorem check_ua : checkC (callP 7 sla) = 0 := by decide +kernel
theorem check_sa : checkC (callP 12 sla) = 0 := by decide +kernel
theorem check_wr : checkC (writeC 0 shi) = 0 := by decide +kernel
theorem check_rd : checkC (readC 0 0) = 0 := by decide +kernel
theorem upd_at (T : Nat → Int) (p : Nat) (v : Int) : updT T p v p = v := by unfold updT; rw [if_pos rfl]
theorem alive_plain : ∃ m1 m2 m3 : MD,
  doM ⟨newT 8, fun _ => 0, 2⟩ 1 (callP 2 sla) = (⟨0, 0, 2, stat0, none, ba0⟩, m1) ∧ doM m1 1 (writeC 0 shi) = (wrongR 0, m2) ∧ doM m2 0 (callP 7 sla) = (wrongR 0, m3) ∧
  doM m3 1 (readC 0 0) = ({ wrongR 0 with data := shi }, m3) ∧ doM m3 0 (callP 12 sla) = (wrongR 3, m3) ∧ doM m3 1 (closeC 0) = (wrongR 0, ⟨newT 8, fun _ => 0, 2⟩) := by
 obtain ⟨xd, y, t2, hst, ⟨y1, y2, y3, y4, y5⟩, e1⟩ := new_create (r := 8) (n := 2) (by decide) (by decide) (by decide) (by decide) (core := 1) (by decide) (by decide) split_a names_a check_ca
 have hW := WellP.new 8 (by decide) (by decide)
 have hpg : writeE t2 2 0 shi = 0 := by
  unfold writeE
  have w1 : thereE t2 [2] = 0 := by unfold thereE; simp [hst.at_]
  have w2 : fileE' t2 2 = 0 := by
   unfold fileE'
   rw [hst.at_]
   show fileQE y = 0
   unfold fileQE
   rw [y1]
   rfl
  rw [w1, w2]
  decide
 obtain ⟨y', hy'⟩ : ∃ y', y' = { y with pages := updP y.pages 0 (over shi.data.toList ((y.pages 0).getD z64)), size := max y.size (0 * 64 + shi.size) } := ⟨_, rfl⟩
 have hwr : writeP t2 2 0 shi = (0, t2.set 2 y') := by
  unfold writeP
  rw [if_pos hpg]
  unfold writeT
  rw [hst.at_, hy']
 have hst3 : Stands (newT 8) 1 sa 2 xd y' (t2.set 2 y') := hst.put
 have z1 : y'.kind = 1 := by rw [hy']; exact y1
 have z2 : y'.links = 1 := by rw [hy']; exact y2
 have z3 : y'.held = 1 := by rw [hy']; exact y3
 have z4 : y'.size = 2 := by rw [hy']; show max y.size (0 * 64 + (shi.size : Int)) = 2; rw [y4]; rfl
 have z5 : y'.pages 0 = some (over shi.data.toList z64) := by
  rw [hy']
  show updP y.pages 0 _ 0 = _
  unfold updP
  rw [if_pos rfl, y5]
  rfl
 obtain ⟨t4, d1, d2, d3⟩ := hst3.drop_stays unlinkE (by unfold unlinkE; rw [z1]; rfl) (by unfold goneB outN; rw [z1]; simp [z3])
 have ho1 : (outN y').kind = 1 := by unfold outN; rw [if_neg (by omega)]; exact z1
 have hun := unhold_gone d2 d3 hst3.new ho1 (by rw [held_out]; exact z3) (show (outN y').links = 0 by unfold outN; rw [if_neg (by omega)]; show y'.links - 1 = 0; omega) (by decide)
 have h42 : t4.n 2 = some (outN y') := by rw [d3, if_pos rfl]
 refine ⟨_, ⟨t2.set 2 y', updT (fun _ => 0) (1 * 16) 2, 2⟩, ⟨t4, updT (fun _ => 0) (1 * 16) 2, 2⟩, e1, ?_, ?_, ?_, ?_, ?_⟩
 · rw [doM_ok (by decide) (by show (1 : Int) < 2; decide) check_wr]
   show heldM ⟨t2, updT (fun _ => 0) (1 * 16) 2, 2⟩ 1 (writeC 0 shi) = _
   unfold heldM
   rw [show (⟨t2, updT (fun _ => 0) (1 * 16) 2, 2⟩ : MD).T (1 * 16 + (writeC 0 shi).fd.toNat) = 2 from upd_at (fun _ => 0) 16 2]
   rw [if_neg (by decide), if_neg (show ¬ (writeC 0 shi).act = 3 from (by decide : ¬ (4 : Int) = 3)), if_pos (by rfl : (writeC 0 shi).act = 4)]
   show (wrongR (writeP t2 2 0 shi).1, (⟨(writeP t2 2 0 shi).2, updT (fun _ => 0) (1 * 16) 2, 2⟩ : MD)) = _
   rw [hwr]
 · rw [doM_ok (by decide) (by show (0 : Int) < 2; decide) check_ua]
   show entryM ⟨t2.set 2 y', updT (fun _ => 0) (1 * 16) 2, 2⟩ (callP 7 sla) = _
   unfold entryM
   show (if (entryP (t2.set 2 y') sla).2 ≠ 0 then _ else if (callP 7 sla).act = 7 then (wrongR (dropP (t2.set 2 y') (entryP (t2.set 2 y') sla).1.1 (entryP (t2.set 2 y') sla).1.2 unlinkE).1.2, (⟨(dropP (t2.set 2 y') (entryP (t2.set 2 y') sla).1.1 (entryP (t2.set 2 y') sla).1.2 unlinkE).2, updT (fun _ => 0) (1 * 16) 2, 2⟩ : MD)) else _ : Rs × MD) = _
   rw [entry_top split_a, if_neg (by decide), if_pos (by rfl : (callP 7 sla).act = 7), d1]
 · rw [doM_ok (by decide) (by show (1 : Int) < 2; decide) check_rd]
   show heldM ⟨t4, updT (fun _ => 0) (1 * 16) 2, 2⟩ 1 (readC 0 0) = _
   unfold heldM
   rw [show (⟨t4, updT (fun _ => 0) (1 * 16) 2, 2⟩ : MD).T (1 * 16 + (readC 0 0).fd.toNat) = 2 from upd_at (fun _ => 0) 16 2]
   rw [if_neg (by decide), if_pos (by rfl : (readC 0 0).act = 3)]
   have hr : readR t4 2 0 = (shi, 0) := by
    unfold readR
    have w1 : thereE t4 [2] = 0 := by unfold thereE; simp [h42]
    have w2 : fileE' t4 2 = 0 := by
     unfold fileE'
     rw [h42]
     show fileQE (outN y') = 0
     unfold fileQE
     rw [ho1]
     rfl
    have w3 : firstE [thereE t4 [2], fileE' t4 2, pagedE 0] = 0 := by rw [w1, w2]; decide
    rw [if_pos w3, h42]
    have w4 : readL (outN y') 0 = [104, 105] := by
     unfold readL
     have p1 : (outN y').pages = y'.pages := by unfold outN; split <;> rfl
     have p2 : (outN y').size = y'.size := by unfold outN; split <;> rfl
     rw [p1, p2, z5, z4]
     decide
    show ((⟨(readL (outN y') 0).toArray⟩ : ByteArray), (0 : Int)) = _
    rw [w4]
   show ({ wrongR (readR t4 2 0).2 with data := (readR t4 2 0).1 }, _) = _
   rw [hr]
 · rw [doM_ok (by decide) (by show (0 : Int) < 2; decide) check_sa]
   show statM ⟨t4, updT (fun _ => 0) (1 * 16) 2, 2⟩ (callP 12 sla) = _
   unfold statM
   have hl : lookP t4 1 sa = (0, 3) := by
    have h1 : t4.n 1 = some (newN 2) := by rw [d3, if_neg (by decide), new_n, if_pos rfl]
    have e2 : thereE t4 [1] = 0 := by unfold thereE; simp [h1]
    have e3 : dirsE t4 [1] = 0 := by unfold dirsE isFile; simp [h1, newN]
    unfold lookP
    rw [names_a, e2, e3, if_neg (by decide), h1]
    simp [newN]
   show (if (findP t4 sla).2 ≠ 0 then (wrongR (findP t4 sla).2, _) else _ : Rs × MD) = _
   rw [find_top split_a, hl]
   rfl
 · rw [doM_ok (by decide) (by show (1 : Int) < 2; decide) (check_close (by decide))]
   show heldM ⟨t4, updT (fun _ => 0) (1 * 16) 2, 2⟩ 1 (closeC 0) = _
   unfold heldM
   rw [show (⟨t4, updT (fun _ => 0) (1 * 16) 2, 2⟩ : MD).T (1 * 16 + (closeC 0).fd.toNat) = 2 from upd_at (fun _ => 0) 16 2]
   rw [if_neg (by decide), if_neg (show ¬ (closeC 0).act = 3 from (by decide : ¬ (13 : Int) = 3)), if_neg (show ¬ (closeC 0).act = 4 from (by decide : ¬ (13 : Int) = 4)), if_neg (show ¬ (closeC 0).act = 5 from (by decide : ¬ (13 : Int) = 5)), if_pos (by rfl : (closeC 0).act = 13)]
   show (wrongR (unholdP t4 2).1, (⟨(unholdP t4 2).2, updT (updT (fun _ => 0) (1 * 16) 2) (1 * 16 + 0) 0, 2⟩ : MD)) = _
   rw [hun, show updT (updT (fun _ => 0) (1 * 16) 2) (1 * 16 + 0) 0 = (fun _ => 0) from upd_back (T := fun _ => 0) (p := 16) (v := 2) rfl]
end

section
open Go.RowKit Go.Maps
theorem fitsC {act fd pg sz : Int} {p p2 d : ByteArray} (a : Nat) (ha : act = a) (ha2 : a ≤ 255) (h1 : p.size ≤ maxLen) (h2 : p2.size ≤ maxLen) (h3 : d.size ≤ maxLen) (h4 : 0 ≤ sz) : (⟨act, p, p2, fd, pg, sz, d⟩ : Cx).Fits := ⟨⟨a, ha, ha2⟩, h1, h2, h3, h4⟩
theorem res_field2 (e f i : Int) (s0 s1 s2 s3 lv dv : Value) (w : World) : (Instr.field 39 (.agg #[.int .i64 e, .int .i64 f, .int .u32 i, s0, s1, s2, s3, lv, dv]) 2).run Tryz.prog w = .ok (.int .u32 i) w := by kernel_rfl
theorem all_one {l : List Int} (h1 : l.Pairwise (· < ·)) (h2 : ∀ i, i ∈ l ↔ ((newT 8).n i).isSome = true) : l.length = 1 := by
 have h3 : ∀ i, i ∈ l ↔ i = 1 := fun i => by
  rw [h2, new_n]
  by_cases c : i = 1
  · simp [c]
  · simp [c]
 match l, h1, h3 with
 | [], _, h3 => exact absurd ((h3 1).2 rfl) (by simp)
 | [a], _, _ => rfl
 | a :: b :: r, h1, h3 =>
  have ha := (h3 a).1 (by simp)
  have hb := (h3 b).1 (by simp)
  rw [List.pairwise_cons] at h1
  have := h1.1 b (by simp)
  omega
theorem own_do_is {B N : Nat} {w1 : World} {m m' : MD} {x : Cx} {core er fd io : Int} {d : ByteArray} (hx : x.Fits) (hk : KindsAt w1) (hB0 : 0 < B) (hN : N ≤ 50000) (hd : doM m core x = (⟨er, fd, io, stat0, none, d⟩, m')) {P Pt Pf : Nat} {L : List (Nat × Obj)} (w : World) (h : MOwn B w1 P Pt Pf N m L w) :
  Calls Tryz.prog 12 #[.pointer (some ⟨P, 0, none⟩), .int .i64 core, callV x] w fun e w' => e = .returned (.agg #[.int .i64 er, .int .i64 fd, .int .u32 io, .int .u32 0, .int .u8 0, .int .i64 0, .int .u32 0, .slice none 0 0, .string d]) ∧ MOwn B w1 P Pt Pf (N + 2) m' L w' :=
 (own_do x hx core h hk hB0 hN).mono fun e w' ⟨⟨v, he, hv⟩, ho⟩ => by
  rw [hd] at hv ho
  exact ⟨by rw [he, resV_plain hv rfl], ho⟩
set_option maxRecDepth 100000 in
set_option maxHeartbeats 8000000 in
theorem t_alive21 (w : World) (hk : KindsAt w) : Calls Tryz.prog 9 #[] w fun e w' => e = .returned (.bool true) ∧ Below w.heap.size w w' := by
 obtain ⟨m0, hm0⟩ : ∃ m0, m0 = (⟨newT 8, fun _ => 0, 2⟩ : MD) := ⟨_, rfl⟩
 obtain ⟨m1, m2, m3, e1, e2, e3, e4, e5, e6⟩ := alive_plain
 rw [← hm0] at e1 e6
 obtain ⟨xd, yb, t2, -, -, e7⟩ := new_create (r := 8) (n := 1) (by decide) (by decide) (by decide) (by decide) (core := 0) (by decide) (by decide) split_b names_b check_cb
 have hB0 := hk.pos
 have HN1 := zz (show Calls Tryz.prog 10 #[.int .i64 8, .int .i64 2] w fun e w' => ∃ P Pt Pf, e = .returned (.tuple #[.pointer (some ⟨P, 0, none⟩), .int .i64 0]) ∧ MOwn w.heap.size w P Pt Pf 1 m0 [] w' from (t_newM 8 2 w (by decide) (by decide) (by decide) (by decide)).mono fun e w' ⟨P, Pt, Pf, he, y, F, hM, hO, hF, hs, hB⟩ => ⟨P, Pt, Pf, he, by rw [hm0]; exact ⟨y, F, hM, hO, hF, hs, hB, KeptL.nil⟩⟩)
 have HN2 := zz (fun W => t_newMNo 8 0 W (by decide) (by decide) (by decide))
 have HD1 := zz (show ∀ (P Pt Pf : Nat) L W, MOwn w.heap.size w P Pt Pf 1 m0 L W → Calls Tryz.prog 12 #[.pointer (some ⟨P, 0, none⟩), .int .i64 1, .agg #[.int .u8 2, .string ⟨#[47, 97]⟩, .string ⟨#[]⟩, .int .i64 0, .int .i64 0, .int .u32 0, .string ⟨#[]⟩]] W fun e w' => e = .returned (.agg #[.int .i64 0, .int .i64 0, .int .u32 2, .int .u32 0, .int .u8 0, .int .i64 0, .int .u32 0, .slice none 0 0, .string ⟨#[]⟩]) ∧ MOwn w.heap.size w P Pt Pf 3 m1 L w' from fun P Pt Pf L W h => own_do_is (x := callP 2 sla) (fitsC 2 rfl (by decide) (by decide) (by decide) (by decide) (by decide)) hk hB0 (by decide) e1 W h)
 have HD2 := zz (show ∀ (P Pt Pf : Nat) L W, MOwn w.heap.size w P Pt Pf 3 m1 L W → Calls Tryz.prog 12 #[.pointer (some ⟨P, 0, none⟩), .int .i64 1, .agg #[.int .u8 4, .string ⟨#[]⟩, .string ⟨#[]⟩, .int .i64 0, .int .i64 0, .int .u32 0, .string ⟨#[104, 105]⟩]] W fun e w' => e = .returned (.agg #[.int .i64 0, .int .i64 0, .int .u32 0, .int .u32 0, .int .u8 0, .int .i64 0, .int .u32 0, .slice none 0 0, .string ⟨#[]⟩]) ∧ MOwn w.heap.size w P Pt Pf 5 m2 L w' from fun P Pt Pf L W h => own_do_is (x := writeC 0 shi) (fitsC 4 rfl (by decide) (by decide) (by decide) (by decide) (by decide)) hk hB0 (by decide) e2 W h)
 have HD3 := zz (show ∀ (P Pt Pf : Nat) L W, MOwn w.heap.size w P Pt Pf 5 m2 L W → Calls Tryz.prog 12 #[.pointer (some ⟨P, 0, none⟩), .int .i64 0, .agg #[.int .u8 7, .string ⟨#[47, 97]⟩, .string ⟨#[]⟩, .int .i64 0, .int .i64 0, .int .u32 0, .string ⟨#[]⟩]] W fun e w' => e = .returned (.agg #[.int .i64 0, .int .i64 0, .int .u32 0, .int .u32 0, .int .u8 0, .int .i64 0, .int .u32 0, .slice none 0 0, .string ⟨#[]⟩]) ∧ MOwn w.heap.size w P Pt Pf 7 m3 L w' from fun P Pt Pf L W h => own_do_is (x := callP 7 sla) (fitsC 7 rfl (by decide) (by decide) (by decide) (by decide) (by decide)) hk hB0 (by decide) e3 W h)
 have HD4 := zz (show ∀ (P Pt Pf : Nat) L W, MOwn w.heap.size w P Pt Pf 7 m3 L W → Calls Tryz.prog 12 #[.pointer (some ⟨P, 0, none⟩), .int .i64 1, .agg #[.int .u8 3, .string ⟨#[]⟩, .string ⟨#[]⟩, .int .i64 0, .int .i64 0, .int .u32 0, .string ⟨#[]⟩]] W fun e w' => e = .returned (.agg #[.int .i64 0, .int .i64 0, .int .u32 0, .int .u32 0, .int .u8 0, .int .i64 0, .int .u32 0, .slice none 0 0, .string ⟨#[104, 105]⟩]) ∧ MOwn w.heap.size w P Pt Pf 9 m3 L w' from fun P Pt Pf L W h => own_do_is (x := readC 0 0) (fitsC 3 rfl (by decide) (by decide) (by decide) (by decide) (by decide)) hk hB0 (by decide) e4 W h)
 have HD5 := zz (show ∀ (P Pt Pf : Nat) L W, MOwn w.heap.size w P Pt Pf 9 m3 L W → Calls Tryz.prog 12 #[.pointer (some ⟨P, 0, none⟩), .int .i64 0, .agg #[.int .u8 12, .string ⟨#[47, 97]⟩, .string ⟨#[]⟩, .int .i64 0, .int .i64 0, .int .u32 0, .string ⟨#[]⟩]] W fun e w' => e = .returned (.agg #[.int .i64 3, .int .i64 0, .int .u32 0, .int .u32 0, .int .u8 0, .int .i64 0, .int .u32 0, .slice none 0 0, .string ⟨#[]⟩]) ∧ MOwn w.heap.size w P Pt Pf 11 m3 L w' from fun P Pt Pf L W h => own_do_is (x := callP 12 sla) (fitsC 12 rfl (by decide) (by decide) (by decide) (by decide) (by decide)) hk hB0 (by decide) e5 W h)
 have HD6 := zz (show ∀ (P Pt Pf : Nat) L W, MOwn w.heap.size w P Pt Pf 11 m3 L W → Calls Tryz.prog 12 #[.pointer (some ⟨P, 0, none⟩), .int .i64 1, .agg #[.int .u8 13, .string ⟨#[]⟩, .string ⟨#[]⟩, .int .i64 0, .int .i64 0, .int .u32 0, .string ⟨#[]⟩]] W fun e w' => e = .returned (.agg #[.int .i64 0, .int .i64 0, .int .u32 0, .int .u32 0, .int .u8 0, .int .i64 0, .int .u32 0, .slice none 0 0, .string ⟨#[]⟩]) ∧ MOwn w.heap.size w P Pt Pf 13 m0 L w' from fun P Pt Pf L W h => own_do_is (x := closeC 0) (fitsC 13 rfl (by decide) (by decide) (by decide) (by decide) (by decide)) hk hB0 (by decide) e6 W h)
 have HTR := zz (show ∀ (P Pt Pf : Nat) L W, MOwn w.heap.size w P Pt Pf 13 m0 L W → Calls Tryz.prog 14 #[.pointer (some ⟨P, 0, none⟩)] W (CopyP 13 (newT 8) W) from fun P Pt Pf L W h => by
  obtain ⟨y, F, hM⟩ := h.mod
  rw [hm0] at hM
  exact t_treeOf W hM (by decide))
 have HON := zz (show ∀ (W : World) F P2 y, TreeM W F P2 13 y (newT 8) → Calls Tryz.prog 38 #[.pointer (some ⟨P2, 0, none⟩), .int .i64 1] W fun e w' => ∃ P Pt' Pf, e = .returned (.tuple #[.pointer (some ⟨P, 0, none⟩), .int .i64 0]) ∧ MOwn W.heap.size W P Pt' Pf 13 ⟨newT 8, fun _ => 0, 1⟩ [] w' from fun W F P2 y hT => (t_onM 1 W hT (by decide) (by decide) (by decide)).mono fun e w' ⟨P, Pt', Pf, y', F', h1, h2, h3, h4⟩ => ⟨P, Pt', Pf, h1, y', F', h2, HoldOk.new 8 (by decide) (by decide) (by decide) (by decide), h3, h4.size, h4, KeptL.nil⟩)
 have HAL := zz (show ∀ (W : World) F P2 y, TreeM W F P2 13 y (newT 8) → Calls Tryz.prog 16 #[.pointer (some ⟨P2, 0, none⟩)] W fun e w' => ∃ B c, e = .returned (.slice (some ⟨B, 0, none⟩) 1 c) ∧ Below W.heap.size W w' from fun W F P2 y hT => (t_allP W hT (by decide) ⟨1, by rw [new_n, if_pos rfl]; rfl⟩).mono fun e w' ⟨B, c, l, h1, h2, h3, h4, h5, h6⟩ => ⟨B, c, by rw [h1, all_one h2 h3], h6⟩)
 have HDN := zz (show ∀ (W0 : World) (P Pt Pf : Nat) L W, MOwn W0.heap.size W0 P Pt Pf 13 ⟨newT 8, fun _ => 0, 1⟩ L W → KindsAt W0 → 0 < W0.heap.size → Calls Tryz.prog 12 #[.pointer (some ⟨P, 0, none⟩), .int .i64 0, .agg #[.int .u8 2, .string ⟨#[47, 98]⟩, .string ⟨#[]⟩, .int .i64 0, .int .i64 0, .int .u32 0, .string ⟨#[]⟩]] W fun e w' => e = .returned (.agg #[.int .i64 0, .int .i64 0, .int .u32 2, .int .u32 0, .int .u8 0, .int .i64 0, .int .u32 0, .slice none 0 0, .string ⟨#[]⟩]) ∧ ∃ m9, MOwn W0.heap.size W0 P Pt Pf 15 m9 L w' from fun W0 P Pt Pf L W h hk0 h0 => (own_do_is (x := callP 2 slb) (fitsC 2 rfl (by decide) (by decide) (by decide) (by decide) (by decide)) hk0 h0 (by decide) e7 W h).mono fun e w' ⟨h1, h2⟩ => ⟨h1, _, h2⟩)
 have HKW := zz hk
 have hfl := res_field2
 have HE7 := zz e7
 clear hk hB0 hm0 e1 e2 e3 e4 e5 e6 e7
 go_enter Tryz.func9, Tryz.ntmps9
 go_wp2_with (first
  | (go_at_call 10; (with_reducible refine HN1.out.mono ?_); rintro e w2 ⟨P, Pt, Pf, rfl, hM⟩; have HM0 := zz hM; clear hM)
  | (go_at_call 10; (with_reducible refine (HN2.out _).mono ?_); rintro e w3 ⟨rfl, hb⟩; have HM1 := zz (HM0.out.below hb); clear hb)
  | (go_at_call 12; (with_reducible refine (HD1.out _ _ _ _ _ HM1.out).mono ?_); rintro e v1 ⟨rfl, hM⟩; have HM2 := zz (hM.alloc (.cells #[.int .i64 0, .int .i64 0, .int .u32 2, .int .u32 0, .int .u8 0, .int .i64 0, .int .u32 0, .slice none 0 0, .string ⟨#[]⟩] 39)); clear hM)
  | (go_at_call 12; (with_reducible refine (HD2.out _ _ _ _ _ HM2.out).mono ?_); rintro e v2 ⟨rfl, hM⟩; have HM3 := zz (hM.alloc (.cells #[.int .i64 0, .int .i64 0, .int .u32 0, .int .u32 0, .int .u8 0, .int .i64 0, .int .u32 0, .slice none 0 0, .string ⟨#[]⟩] 39)); clear hM)
  | (go_at_call 12; (with_reducible refine (HD3.out _ _ _ _ _ HM3.out).mono ?_); rintro e v3 ⟨rfl, hM⟩; have HM4 := zz (hM.alloc (.cells #[.int .i64 0, .int .i64 0, .int .u32 0, .int .u32 0, .int .u8 0, .int .i64 0, .int .u32 0, .slice none 0 0, .string ⟨#[]⟩] 39)); clear hM)
  | (go_at_call 12; (with_reducible refine (HD4.out _ _ _ _ _ HM4.out).mono ?_); rintro e v4 ⟨rfl, hM⟩; have HM5 := zz (hM.alloc (.cells #[.int .i64 0, .int .i64 0, .int .u32 0, .int .u32 0, .int .u8 0, .int .i64 0, .int .u32 0, .slice none 0 0, .string ⟨#[104, 105]⟩] 39)); clear hM)
  | (go_at_call 12; (with_reducible refine (HD5.out _ _ _ _ _ HM5.out).mono ?_); rintro e v5 ⟨rfl, hM⟩; have HM6 := zz (hM.alloc (.cells #[.int .i64 3, .int .i64 0, .int .u32 0, .int .u32 0, .int .u8 0, .int .i64 0, .int .u32 0, .slice none 0 0, .string ⟨#[]⟩] 39)); clear hM)
  | (go_at_call 12; (with_reducible refine (HD6.out _ _ _ _ _ HM6.out).mono ?_); rintro e v6 ⟨rfl, hM⟩; have HM7 := zz (hM.alloc (.cells #[.int .i64 0, .int .i64 0, .int .u32 0, .int .u32 0, .int .u8 0, .int .i64 0, .int .u32 0, .slice none 0 0, .string ⟨#[]⟩] 39)); clear hM)
  | (go_at_call 14; (with_reducible refine (HTR.out _ _ _ _ _ HM7.out).mono ?_); rintro e u1 ⟨P2, y2, F2, rfl, hT, hF, hb⟩
     have HM8 := zz (HM7.out.below hb)
     have HT1 := zz hT
     clear hT hF hb)
  | (go_at_call 38; (with_reducible refine (HON.out _ _ _ _ HT1.out).mono ?_); rintro e u2 ⟨P3, Pt3, Pf3, rfl, hM⟩
     have HMN := zz hM
     clear hM)
  | (go_at_call 38; (with_reducible refine (t_onNil 1 _).mono ?_); rintro e u3 ⟨rfl, rfl⟩)
  | (go_at_call 12; (with_reducible refine (HDN.out _ _ _ _ _ _ HMN.out (HKW.out.below HM8.out.mem HKW.out.pos) (Nat.lt_of_lt_of_le HKW.out.pos HM8.out.base)).mono ?_); rintro e u4 ⟨rfl, m9, hm9⟩
     have hb4 := hm9.mem
     have hB9 := HM8.out.below hb4
     have HT9 := zz (HT1.out.below hb4)
     have HM9 := zz hB9
     have k1 := hB9.at_ (b := v1.heap.size) (o := .cells #[.int .i64 0, .int .i64 0, .int .u32 2, .int .u32 0, .int .u8 0, .int .i64 0, .int .u32 0, .slice none 0 0, .string ⟨#[]⟩] 39 (0, 0)) (by simp)
     have k2 := hB9.at_ (b := v2.heap.size) (o := .cells #[.int .i64 0, .int .i64 0, .int .u32 0, .int .u32 0, .int .u8 0, .int .i64 0, .int .u32 0, .slice none 0 0, .string ⟨#[]⟩] 39 (0, 0)) (by simp)
     have k3 := hB9.at_ (b := v3.heap.size) (o := .cells #[.int .i64 0, .int .i64 0, .int .u32 0, .int .u32 0, .int .u8 0, .int .i64 0, .int .u32 0, .slice none 0 0, .string ⟨#[]⟩] 39 (0, 0)) (by simp)
     have k4 := hB9.at_ (b := v4.heap.size) (o := .cells #[.int .i64 0, .int .i64 0, .int .u32 0, .int .u32 0, .int .u8 0, .int .i64 0, .int .u32 0, .slice none 0 0, .string ⟨#[104, 105]⟩] 39 (0, 0)) (by simp)
     have k5 := hB9.at_ (b := v5.heap.size) (o := .cells #[.int .i64 3, .int .i64 0, .int .u32 0, .int .u32 0, .int .u8 0, .int .i64 0, .int .u32 0, .slice none 0 0, .string ⟨#[]⟩] 39 (0, 0)) (by simp)
     have k6 := hB9.at_ (b := v6.heap.size) (o := .cells #[.int .i64 0, .int .i64 0, .int .u32 0, .int .u32 0, .int .u8 0, .int .i64 0, .int .u32 0, .slice none 0 0, .string ⟨#[]⟩] 39 (0, 0)) (by simp)
     have q10 : u4.cell? ⟨v1.heap.size, 0, none⟩ = some (.int .i64 0) := by simp [World.cell?, k1]
     have q11 : u4.cell? ⟨v1.heap.size, 1, none⟩ = some (.int .i64 0) := by simp [World.cell?, k1]
     have q12 : u4.cell? ⟨v1.heap.size, 2, none⟩ = some (.int .u32 2) := by simp [World.cell?, k1]
     have q20 : u4.cell? ⟨v2.heap.size, 0, none⟩ = some (.int .i64 0) := by simp [World.cell?, k2]
     have q30 : u4.cell? ⟨v3.heap.size, 0, none⟩ = some (.int .i64 0) := by simp [World.cell?, k3]
     have q48 : u4.cell? ⟨v4.heap.size, 8, none⟩ = some (.string ⟨#[104, 105]⟩) := by simp [World.cell?, k4]
     have q50 : u4.cell? ⟨v5.heap.size, 0, none⟩ = some (.int .i64 3) := by simp [World.cell?, k5]
     have q60 : u4.cell? ⟨v6.heap.size, 0, none⟩ = some (.int .i64 0) := by simp [World.cell?, k6]
     clear hm9 hb4 hB9 k1 k2 k3 k4 k5 k6)
  | (go_at_call 16; refine (HAL.out _ _ _ _ HT9.out).mono ?_; rintro e u5 ⟨B9, c9, rfl, hb5⟩; have HM10 := zz (HM9.out.below hb5); clear hb5))
 go_ret
 exact ⟨rfl, HM10.out.mem⟩
end
end Go.Proofs.YtpcnolkdnmolgaaGreatDoor
