/- model.On; models of the call's own, one and two. -/
import Derived.Test.YtpcnolkdnmolgaaGreatDoorPf23
import Derived.Test.YtpcnolkdnmolgaaGreatDoorPf26
namespace Go.Proofs.YtpcnolkdnmolgaaGreatDoor
section
open Go.RowKit Go.Maps
set_option maxRecDepth 100000 in
theorem t_onNil (n : Int) (w : World) : Calls Tryz.prog 38 #[.pointer none, .int .i64 n] w fun e w' => e = .returned (.tuple #[.pointer none, .int .i64 1]) ∧ w = w' := by
 go_enter Tryz.func38, Tryz.ntmps38
 go_wp2
 go_ret2
 exact ⟨rfl, rfl⟩
section
variable {F : Nat → Prop} {P Pt Pf N : Nat} {y : Lay} {t : PT} {m : MD}
set_option maxRecDepth 100000 in
set_option maxHeartbeats 1000000 in
theorem t_onM (n : Int) (w : World) (h : TreeM w F Pt N y t) (hN : N ≤ 60000) (h3 : 1 ≤ n) (h4 : n ≤ 8) :
  Calls Tryz.prog 38 #[.pointer (some ⟨Pt, 0, none⟩), .int .i64 n] w fun e w' => ∃ P Pt' Pf y' F', e = .returned (.tuple #[.pointer (some ⟨P, 0, none⟩), .int .i64 0]) ∧ ModM w' F' P Pt' Pf N y' ⟨t, fun _ => 0, n⟩ ∧ (∀ b, Fm F' P Pf b → w.heap.size ≤ b) ∧ Below w.heap.size w w' := by
 have HF := zz (fds_new_ok n h3 h4 w)
 have HTG := zz (show ∀ W, Below w.heap.size w W → TreeM W F Pt N y t from fun W hb => h.below hb)
 have HTC := zz (show ∀ W, Below w.heap.size w W → Calls Tryz.prog 41 #[.pointer (some ⟨Pt, 0, none⟩)] W (CopyP N t W) from fun W hb => t_copyP W (h.below hb) hN)
 clear h h3 h4
 go_enter Tryz.func38, Tryz.ntmps38
 go_wp2_with (first
  | (go_at_call 40; (with_reducible refine HF.out.mono ?_); rintro e w3 ⟨rfl, rfl⟩)
  | (go_at_call 41; (with_reducible refine (HTC.out _ ((Below.refl _ _).alloc (Nat.le_refl _) _)).mono ?_); rintro e w4 ⟨P2, y2, F2, rfl, hT, hF, hb⟩
     have HT := zz hT
     have HFF := zz hF
     have HB := zz hb
     clear hT hF hb))
 go_ret2
 have hs := HB.out.size
 simp at hs
 have hb1 : Below w.heap.size w (w.alloc (.cells (zTab.setIfInBounds 128 (.int .i64 n)) 146)) := (Below.refl _ _).alloc (Nat.le_refl _) _
 have hT4 := (Tab.new w n).below HB.out (by simp)
 refine ⟨w4.heap.size, P2, w.heap.size, y2, _, rfl, mod_of (m := ⟨t, fun _ => 0, n⟩) (HT.out.below ((Below.refl _ _).alloc (Nat.le_refl _) _)) (hT4.alloc _) (heap_alloc_new _ _), ?_, (ptrans hb1 HB.out).alloc (by omega) _⟩
 rintro b (h1 | rfl | rfl)
 · have := HFF.out b (Ft.sub HT.out b h1)
   simp at this
   omega
 · omega
 · exact Nat.le_refl _
end
def KeptL (L : List (Nat × Obj)) (G : Nat → Prop) (w : World) : Prop := ∀ p ∈ L, w.heap[p.1]? = some p.2 ∧ ¬ G p.1
section
variable {L : List (Nat × Obj)} {G G' : Nat → Prop} {w w' : World}
theorem KeptL.below (h : KeptL L G w) (hb : Below w.heap.size w w') : KeptL L G w' := fun p hp => ⟨(hb.block _ (Array.getElem?_eq_some_iff.1 (h p hp).1).1).trans (h p hp).1, (h p hp).2⟩
theorem KeptL.turn (h : KeptL L G w) (hU : Turn w w' G G') : KeptL L G' w' := fun p hp => by
 obtain ⟨h1, h2⟩ := h p hp
 have hlt := (Array.getElem?_eq_some_iff.1 h1).1
 refine ⟨(hU.block _ hlt h2).trans h1, fun e => ?_⟩
 rcases hU.foot _ e with h3 | h3
 · exact h2 h3
 · omega
theorem KeptL.alloc (h : KeptL L G w) (hG : ∀ b, G b → b < w.heap.size) (o : Obj) : KeptL ((w.heap.size, o) :: L) G (w.alloc o) := fun p hp => by
 rcases List.mem_cons.1 hp with rfl | hp
 · exact ⟨heap_alloc_new w o, fun e => absurd (hG _ e) (Nat.lt_irrefl _)⟩
 · exact h.below ((Below.refl _ _).alloc (Nat.le_refl _) _) p hp
theorem KeptL.nil : KeptL [] G w := fun p hp => absurd hp (by simp)
end
def MOwn (B : Nat) (w1 : World) (P Pt Pf N : Nat) (m : MD) (L : List (Nat × Obj)) (w : World) : Prop := ∃ y F, ModM w F P Pt Pf N y m ∧ m.Ok ∧ (∀ b, Fm F P Pf b → B ≤ b) ∧ B ≤ w.heap.size ∧ Below B w1 w ∧ KeptL L (Fm F P Pf) w
section
variable {B P Pt Pf P2 Pt2 Pf2 N N' : Nat} {w1 w w' : World} {m m2 : MD} {L : List (Nat × Obj)}
theorem MOwn.below (h : MOwn B w1 P Pt Pf N m L w) (hb : Below w.heap.size w w') : MOwn B w1 P Pt Pf N m L w' := by
 obtain ⟨y, F, hM, hO, hF, hs, hB, hL⟩ := h
 exact ⟨y, F, hM.below hb, hO, hF, Nat.le_trans hs hb.size, hB.trans (hb.mono hs), hL.below hb⟩
theorem MOwn.alloc (h : MOwn B w1 P Pt Pf N m L w) (o : Obj) : MOwn B w1 P Pt Pf N m ((w.heap.size, o) :: L) (w.alloc o) := by
 obtain ⟨y, F, hM, hO, hF, hs, hB, hL⟩ := h
 have hb : Below w.heap.size w (w.alloc o) := (Below.refl _ _).alloc (Nat.le_refl _) _
 exact ⟨y, F, hM.below hb, hO, hF, Nat.le_trans hs hb.size, hB.trans (hb.mono hs), hL.alloc hM.lt o⟩
theorem MOwn.mem (h : MOwn B w1 P Pt Pf N m L w) : Below B w1 w := by
 obtain ⟨y, F, _, _, _, _, hB, _⟩ := h
 exact hB
theorem MOwn.base (h : MOwn B w1 P Pt Pf N m L w) : B ≤ w.heap.size := by
 obtain ⟨y, F, _, _, _, hs, _, _⟩ := h
 exact hs
theorem MOwn.ok (h : MOwn B w1 P Pt Pf N m L w) : m.Ok := by
 obtain ⟨y, F, _, hO, _⟩ := h
 exact hO
theorem MOwn.mod (h : MOwn B w1 P Pt Pf N m L w) : ∃ y F, ModM w F P Pt Pf N y m := by
 obtain ⟨y, F, hM, _⟩ := h
 exact ⟨y, F, hM⟩
theorem MOwn.at_ (h : MOwn B w1 P Pt Pf N m L w) {b : Nat} {o : Obj} (hb : (b, o) ∈ L) : w.heap[b]? = some o := by
 obtain ⟨y, F, _, _, _, _, _, hL⟩ := h
 exact (hL _ hb).1
structure Cx.Fits (x : Cx) : Prop where
 act : ∃ a : Nat, x.act = a ∧ a ≤ 255
 path : x.path.size ≤ maxLen
 path2 : x.path2.size ≤ maxLen
 data : x.data.size ≤ maxLen
 size : 0 ≤ x.size
theorem own_do (x : Cx) (hx : x.Fits) (core : Int) (h : MOwn B w1 P Pt Pf N m L w) (hk : KindsAt w1) (hB0 : 0 < B) (hN : N ≤ 50000) :
  Calls Tryz.prog 12 #[.pointer (some ⟨P, 0, none⟩), .int .i64 core, callV x] w fun e w' => (∃ v, e = .returned v ∧ ResV m.t w.heap.size w' (doM m core x).1 v) ∧ MOwn B w1 P Pt Pf (N + 2) (doM m core x).2 L w' := by
 obtain ⟨y, F, hM, hO, hF, hs, hB, hL⟩ := h
 obtain ⟨a, ha, ha2⟩ := hx.act
 refine (t_doM w hM hO core x a ha ha2 hx.path hx.path2 hx.data hx.size hN (hk.below hB hB0)).mono fun e w' ⟨v, he, hv, y', F', hM', hU⟩ => ⟨⟨v, he, hv⟩, y', F', hM', (deed_do hO core x hx.size).1, fun b hb => ?_, Nat.le_trans hs hU.size, hB.trans (hU.below hF hs), hL.turn hU⟩
 rcases hU.foot b hb with h1 | h1
 · exact hF b h1
 · exact Nat.le_trans hs h1
def MPair (B : Nat) (w1 : World) (P Pt Pf P2 Pt2 Pf2 N : Nat) (m m2 : MD) (L : List (Nat × Obj)) (w : World) : Prop := ∃ y F y2 F2, ModM w F P Pt Pf N y m ∧ ModM w F2 P2 Pt2 Pf2 N y2 m2 ∧ m.Ok ∧ m2.Ok ∧ (∀ b, Fm F P Pf b → B ≤ b) ∧ (∀ b, Fm F2 P2 Pf2 b → B ≤ b) ∧ (∀ b, Fm F P Pf b → ¬ Fm F2 P2 Pf2 b) ∧ B ≤ w.heap.size ∧ Below B w1 w ∧ KeptL L (Fm F P Pf) w
theorem MPair.below (h : MPair B w1 P Pt Pf P2 Pt2 Pf2 N m m2 L w) (hb : Below w.heap.size w w') : MPair B w1 P Pt Pf P2 Pt2 Pf2 N m m2 L w' := by
 obtain ⟨y, F, y2, F2, hM, hM2, hO, hO2, hF, hF2, hd, hs, hB, hL⟩ := h
 exact ⟨y, F, y2, F2, hM.below hb, hM2.below hb, hO, hO2, hF, hF2, hd, Nat.le_trans hs hb.size, hB.trans (hb.mono hs), hL.below hb⟩
theorem MPair.alloc (h : MPair B w1 P Pt Pf P2 Pt2 Pf2 N m m2 L w) (o : Obj) : MPair B w1 P Pt Pf P2 Pt2 Pf2 N m m2 ((w.heap.size, o) :: L) (w.alloc o) := by
 obtain ⟨y, F, y2, F2, hM, hM2, hO, hO2, hF, hF2, hd, hs, hB, hL⟩ := h
 have hb : Below w.heap.size w (w.alloc o) := (Below.refl _ _).alloc (Nat.le_refl _) _
 exact ⟨y, F, y2, F2, hM.below hb, hM2.below hb, hO, hO2, hF, hF2, hd, Nat.le_trans hs hb.size, hB.trans (hb.mono hs), hL.alloc hM.lt o⟩
theorem MPair.mem (h : MPair B w1 P Pt Pf P2 Pt2 Pf2 N m m2 L w) : Below B w1 w := by
 obtain ⟨y, F, y2, F2, hM, hM2, hO, hO2, hF, hF2, hd, hs, hB, _⟩ := h
 exact hB
theorem MPair.fst (h : MPair B w1 P Pt Pf P2 Pt2 Pf2 N m m2 L w) : MOwn B w1 P Pt Pf N m L w := by
 obtain ⟨y, F, y2, F2, hM, hM2, hO, hO2, hF, hF2, hd, hs, hB, hL⟩ := h
 exact ⟨y, F, hM, hO, hF, hs, hB, hL⟩
theorem MPair.snd (h : MPair B w1 P Pt Pf P2 Pt2 Pf2 N m m2 L w) : MOwn B w1 P2 Pt2 Pf2 N m2 [] w := by
 obtain ⟨y, F, y2, F2, hM, hM2, hO, hO2, hF, hF2, hd, hs, hB, hL⟩ := h
 exact ⟨y2, F2, hM2, hO2, hF2, hs, hB, KeptL.nil⟩
theorem MPair.at_ (h : MPair B w1 P Pt Pf P2 Pt2 Pf2 N m m2 L w) {b : Nat} {o : Obj} (hb : (b, o) ∈ L) : w.heap[b]? = some o := h.fst.at_ hb
theorem own_copyM (h : MOwn B w1 P Pt Pf N m L w) (hN : N ≤ 60000) :
  Calls Tryz.prog 11 #[.pointer (some ⟨P, 0, none⟩)] w fun e w' => ∃ P2 Pt2 Pf2, e = .returned (.pointer (some ⟨P2, 0, none⟩)) ∧ MPair B w1 P Pt Pf P2 Pt2 Pf2 N m m L w' := by
 obtain ⟨y, F, hM, hO, hF, hs, hB, hL⟩ := h
 refine (t_copyM w hM hN).mono fun e w' ⟨P2, Pt2, Pf2, y2, F2, he, hM2, hF2, hb⟩ => ⟨P2, Pt2, Pf2, he, y, F, y2, F2, hM.below hb, hM2, hO, hO, hF, fun b h2 => Nat.le_trans hs (hF2 b h2), fun b h1 h2 => ?_, Nat.le_trans hs hb.size, hB.trans (hb.mono hs), hL.below hb⟩
 have := hM.lt b h1
 have := hF2 b h2
 omega
theorem pair_do (x : Cx) (hx : x.Fits) (core : Int) (h : MPair B w1 P Pt Pf P2 Pt2 Pf2 N m m2 L w) (hk : KindsAt w1) (hB0 : 0 < B) (hN : N ≤ 50000) :
  Calls Tryz.prog 12 #[.pointer (some ⟨P, 0, none⟩), .int .i64 core, callV x] w fun e w' => (∃ v, e = .returned v ∧ ResV m.t w.heap.size w' (doM m core x).1 v) ∧ MPair B w1 P Pt Pf P2 Pt2 Pf2 (N + 2) (doM m core x).2 m2 L w' := by
 obtain ⟨y, F, y2, F2, hM, hM2, hO, hO2, hF, hF2, hd, hs, hB, hL⟩ := h
 obtain ⟨a, ha, ha2⟩ := hx.act
 refine (t_doM w hM hO core x a ha ha2 hx.path hx.path2 hx.data hx.size hN (hk.below hB hB0)).mono fun e w' ⟨v, he, hv, y', F', hM', hU⟩ => ⟨⟨v, he, hv⟩, y', F', y2, F2, hM', (hM2.same (fun b hb => hU.block b (hM2.lt b hb) (fun h1 => hd b h1 hb)) hU.size).mono (by omega), (deed_do hO core x hx.size).1, hO2, fun b hb => ?_, hF2, fun b hb hb2 => ?_, Nat.le_trans hs hU.size, hB.trans (hU.below hF hs), hL.turn hU⟩
 · rcases hU.foot b hb with h1 | h1
   · exact hF b h1
   · exact Nat.le_trans hs h1
 · rcases hU.foot b hb with h1 | h1
   · exact hd b h1 hb2
   · have := hM2.lt b hb2
     omega
theorem resV_plain {t : PT} {lo : Nat} {r : Rs} {v : Value} {er fd io : Int} {d : ByteArray} (h : ResV t lo w r v) (hr : r = ⟨er, fd, io, stat0, none, d⟩) : v = .agg #[.int .i64 er, .int .i64 fd, .int .u32 io, .int .u32 0, .int .u8 0, .int .i64 0, .int .u32 0, .slice none 0 0, .string d] := by
 obtain ⟨lv, rfl, hl⟩ := h
 subst hr
 have hl2 : lv = .slice none 0 0 := hl
 subst hl2
 rfl
end
end

section
open Go.RowKit Go.Maps
section
variable {t t3 : PT}
def Ext (t t3 : PT) : Prop := ∀ d s, (lookP t d s).2 = 0 → lookP t3 d s = lookP t d s
theorem walk_err (t : PT) : ∀ (l : List ByteArray) (a : Int × Int), a.2 ≠ 0 → walkGo t l a = a
 | [], _, _ => rfl
 | s :: r, a, h => by
  unfold walkGo
  rw [if_neg h]
  exact walk_err t r a h
theorem walk_ext (h : Ext t t3) : ∀ (l : List ByteArray) (a : Int × Int), (walkGo t l a).2 = 0 → walkGo t3 l a = walkGo t l a
 | [], _, _ => rfl
 | s :: r, a, h0 => by
  by_cases c : a.2 = 0
  · unfold walkGo at h0 ⊢
    rw [if_pos c] at h0 ⊢
    rw [if_pos c]
    by_cases c2 : (lookP t a.1 s).2 = 0
    · rw [h _ _ c2]
      exact walk_ext h r _ h0
    · rw [walk_err t r _ c2] at h0
      exact absurd h0 c2
  · rw [walk_err t _ _ c] at h0
    exact absurd h0 c
theorem look_names {d : Int} {s : ByteArray} (h : (lookP t d s).2 = 0) : namesE [s] = 0 := by
 unfold lookP at h
 by_cases c : firstE [namesE [s], thereE t [d], dirsE t [d]] ≠ 0
 · rw [if_pos c] at h; exact absurd h c
 · obtain ⟨z, _⟩ := firstE_cons (Decidable.not_not.1 c)
   exact z
theorem look_ofM {d v : Int} {s : ByteArray} {x : PN} (hn : namesE [s] = 0) (hd : t.n d = some x) (hk : x.kind = 2) (hl : x.l s.data.toList = some v) (hv : v ≠ 0) : lookP t d s = (v, 0) := by
 have e2 : thereE t [d] = 0 := by unfold thereE; simp [hd]
 have e3 : dirsE t [d] = 0 := by unfold dirsE isFile; simp [hd, hk]
 unfold lookP
 rw [hn, e2, e3, if_neg (by decide), hd]
 simp [hl, hv]
theorem ext_of (hg : GoodP t) (h : ∀ d x, t.n d = some x → x.kind = 2 → ∃ x3, t3.n d = some x3 ∧ x3.kind = 2 ∧ ∀ q v, x.l q = some v → x3.l q = some v) : Ext t t3 := by
 intro d s h0
 have hn := look_names h0
 obtain ⟨xd, xi, h1, h2, _, _, h5, _, hk⟩ := look_okP hg h0
 obtain ⟨x3, g1, g2, g3⟩ := h d xd h1 hk
 rw [look_ofM hn g1 g2 (g3 _ _ h2) (by omega)]
 exact Prod.ext rfl h0.symm
theorem walkP_ext (h : Ext t t3) {l : List ByteArray} (h0 : (walkP t l).2 = 0) : walkP t3 l = walkP t l := by
 unfold walkP at *
 by_cases c : (walkGo t l (1, 0)).2 ≠ 0
 · rw [if_pos c] at h0; exact absurd h0 c
 · rw [walk_ext h l _ (Decidable.not_not.1 c)]
theorem entryP_ext (h : Ext t t3) {s : ByteArray} (h0 : (entryP t s).2 = 0) : entryP t3 s = entryP t s := by
 unfold entryP at *
 by_cases c : (parentE s).2 ≠ 0
 · rw [if_pos c] at h0; exact absurd h0 c
 · rw [if_neg c] at h0 ⊢
   rw [if_neg c]
   by_cases c2 : (walkP t (parentE s).1.1).2 ≠ 0
   · rw [if_pos c2] at h0; exact absurd h0 c2
   · rw [walkP_ext h (Decidable.not_not.1 c2)]
structure Made (t : PT) (d : Int) (s : ByteArray) (k i : Int) (xd : PN) (t1 : PT) : Prop where
 dir : t.n d = some xd
 kind : xd.kind = 2
 free : xd.l s.data.toList = none
 new : t.n i = none
 name : namesE [s] = 0
 node : ∀ j, t1.n j = if j = i then some (inN (newN k) d) else if j = d then some { xd with l := updL xd.l s.data.toList i } else t.n j
 room : t1.room = t.room
 pos : 1 ≤ i
theorem make_made (hW : WellP t) {d k i : Int} {s : ByteArray} (hi : Least t i) (h : (makeP t d s k i).1.2 = 0) : (makeP t d s k i).1.1 = i ∧ ∃ xd, Made t d s k i xd (makeP t d s k i).2 := by
 unfold makeP at *
 by_cases c : (makeQ t d s k i).2 = 0
 · rw [if_pos c] at h ⊢
   refine ⟨rfl, ?_⟩
   show ∃ xd, Made t d s k i xd (makeAtP t d s k i).2
   have h' : (makeAtP t d s k i).1 = 0 := h
   unfold makeAtP at h' ⊢
   by_cases c2 : makeAtE t d s k i = 0
   · rw [if_pos c2]
     have hnew := makeAt_free c2
     unfold makeAtE at c2
     obtain ⟨z0, c2⟩ := firstE_cons c2
     obtain ⟨_, c2⟩ := firstE_cons c2
     obtain ⟨_, c2⟩ := firstE_cons c2
     obtain ⟨z, c2⟩ := firstE_cons c2
     obtain ⟨z2, c2⟩ := firstE_cons c2
     obtain ⟨z3, _⟩ := firstE_cons c2
     obtain ⟨xd, hd⟩ := Option.isSome_iff_exists.1 (there_one z)
     have hkd : xd.kind = 2 := by
      unfold dirsE isFile at z2
      simp [hd] at z2
      exact z2
     refine ⟨xd, hd, hkd, hW.free_of hd z3, hnew, z0, fun j => ?_, ?_, hi.1⟩
     · show (makeT t d s k i).n j = _
       unfold makeT
       rw [hd]
       simp only
       rw [enter_n]
       by_cases e1 : j = i
       · rw [if_pos e1, if_pos e1]
       · rw [if_neg e1, if_neg e1]
         by_cases e2 : j = d
         · rw [if_pos e2, if_pos e2]
         · rw [if_neg e2, if_neg e2, PT.set_n, if_neg e1]
     · show (makeT t d s k i).room = _
       unfold makeT
       rw [hd]
       rfl
   · rw [if_neg c2] at h'; exact absurd h' c2
 · rw [if_neg c] at h; exact absurd h c
theorem make_other {d i k k' : Int} {s : ByteArray} (hk : kindsE k' = 0) (h : (makeP t d s k i).1.2 = 0) : (makeP t d s k' i).1.2 = 0 := by
 unfold makeP at *
 by_cases c : (makeQ t d s k i).2 = 0
 · rw [if_pos c] at h
   have h' : (makeAtP t d s k i).1 = 0 := h
   have c' : (makeQ t d s k' i).2 = 0 := by
    unfold makeQ at c ⊢
    by_cases e : makeE t d s k = 0
    · rw [if_pos e] at c
      have e' : makeE t d s k' = 0 := by
       unfold makeE at e ⊢
       obtain ⟨z1, e⟩ := firstE_cons e
       obtain ⟨z2, e⟩ := firstE_cons e
       obtain ⟨z3, e⟩ := firstE_cons e
       obtain ⟨z4, e⟩ := firstE_cons e
       obtain ⟨z5, _⟩ := firstE_cons e
       rw [z1, hk, z3, z4, z5]
       rfl
      rw [if_pos e']
      exact c
    · rw [if_neg e] at c; exact absurd c e
   rw [if_pos c']
   show (makeAtP t d s k' i).1 = 0
   unfold makeAtP at h' ⊢
   by_cases c2 : makeAtE t d s k i = 0
   · have c3 : makeAtE t d s k' i = 0 := by
      unfold makeAtE at c2 ⊢
      obtain ⟨z1, c2⟩ := firstE_cons c2
      obtain ⟨_, c2⟩ := firstE_cons c2
      obtain ⟨z3, c2⟩ := firstE_cons c2
      obtain ⟨z4, c2⟩ := firstE_cons c2
      obtain ⟨z5, c2⟩ := firstE_cons c2
      obtain ⟨z6, c2⟩ := firstE_cons c2
      obtain ⟨z7, _⟩ := firstE_cons c2
      rw [z1, hk, z3, z4, z5, z6, z7]
      rfl
     rw [if_pos c3]
   · rw [if_neg c2] at h'; exact absurd h' c2
 · rw [if_neg c] at h; exact absurd h c
theorem del_upd {l : List UInt8 → Option Int} {k : List UInt8} {i : Int} (h : l k = none) : delL (updL l k i) k = l := by
 funext z
 unfold updL delL
 by_cases c : z = k
 · simp only [if_pos c]
   rw [c, h]
 · simp only [if_neg c]
structure Stands (t : PT) (d : Int) (s : ByteArray) (i : Int) (xd y : PN) (t1 : PT) : Prop where
 dir : t.n d = some xd
 kind : xd.kind = 2
 free : xd.l s.data.toList = none
 new : t.n i = none
 name : namesE [s] = 0
 node : ∀ j, t1.n j = if j = i then some y else if j = d then some { xd with l := updL xd.l s.data.toList i } else t.n j
 room : t1.room = t.room
 pos : 1 ≤ i
section
variable {d i k : Int} {s : ByteArray} {xd y : PN} {t1 : PT}
theorem Made.stands (h : Made t d s k i xd t1) : Stands t d s i xd (inN (newN k) d) t1 := ⟨h.dir, h.kind, h.free, h.new, h.name, h.node, h.room, h.pos⟩
theorem Stands.put {y' : PN} (h : Stands t d s i xd y t1) : Stands t d s i xd y' (t1.set i y') :=
 ⟨h.dir, h.kind, h.free, h.new, h.name, fun j => by
  rw [PT.set_n, h.node]
  by_cases c : j = i
  · rw [if_pos c, if_pos c]
  · rw [if_neg c, if_neg c, if_neg c], h.room, h.pos⟩
theorem Stands.ne (h : Stands t d s i xd y t1) : i ≠ d := fun e => by
 have h1 := h.dir
 rw [← e, h.new] at h1; cases h1
theorem Stands.at_ (h : Stands t d s i xd y t1) : t1.n i = some y := by rw [h.node, if_pos rfl]
theorem Stands.at_dir (h : Stands t d s i xd y t1) : t1.n d = some { xd with l := updL xd.l s.data.toList i } := by rw [h.node, if_neg (fun e => h.ne e.symm), if_pos rfl]
theorem Stands.look (h : Stands t d s i xd y t1) : lookP t1 d s = (i, 0) :=
 look_ofM h.name h.at_dir h.kind (by show updL xd.l _ i _ = _; unfold updL; rw [if_pos rfl]) (by have := h.pos; omega)
theorem Stands.ext (h : Stands t d s i xd y t1) (hg : GoodP t) : Ext t t1 := by
 refine ext_of hg fun a x ha hk => ?_
 have hai : a ≠ i := fun e => by rw [e, h.new] at ha; cases ha
 rw [h.node, if_neg hai]
 by_cases c : a = d
 · rw [if_pos c]
   rw [c, h.dir] at ha
   cases ha
   refine ⟨_, rfl, hk, fun q v hq => ?_⟩
   show updL xd.l _ i q = some v
   unfold updL
   by_cases c2 : q = s.data.toList
   · rw [c2, h.free] at hq; cases hq
   · rw [if_neg c2]; exact hq
 · rw [if_neg c]
   exact ⟨x, ha, hk, fun q v hq => hq⟩
theorem Stands.leave (h : Stands t d s i xd y t1) (j : Int) : (leaveT t1 d { xd with l := updL xd.l s.data.toList i } s i y).n j = if j = i then some (outN y) else t.n j := by
 rw [leave_n h.ne]
 by_cases c : j = d
 · rw [if_pos c, if_neg (fun e => h.ne (e.symm.trans c)), c, h.dir, del_upd h.free]
 · rw [if_neg c]
   by_cases c2 : j = i
   · rw [if_pos c2, if_pos c2]
   · rw [if_neg c2, if_neg c2, h.node, if_neg c2, if_neg c]
theorem Stands.drop_gone (h : Stands t d s i xd y t1) (q : PN → Int) (hq : q y = 0) (hg : goneB i (outN y) = true) : dropP t1 d s q = ((i, 0), t) := by
 unfold dropP
 rw [h.look]
 simp only [ne_eq, not_true_eq_false, if_false]
 rw [h.at_dir, h.at_]
 simp only
 rw [if_neg (fun e => e hq)]
 unfold dropT freeP
 rw [if_pos hg]
 have e : (leaveT t1 d { xd with l := updL xd.l s.data.toList i } s i y).del i = t := PT.ext' h.room fun j => by
  rw [PT.del_n, h.leave]
  by_cases c : j = i
  · rw [if_pos c, c, h.new]
  · rw [if_neg c, if_neg c]
 rw [e]
theorem Stands.drop_stays (h : Stands t d s i xd y t1) (q : PN → Int) (hq : q y = 0) (hg : goneB i (outN y) = false) : ∃ t2, dropP t1 d s q = ((i, 0), t2) ∧ t2.room = t.room ∧ ∀ j, t2.n j = if j = i then some (outN y) else t.n j := by
 refine ⟨leaveT t1 d { xd with l := updL xd.l s.data.toList i } s i y, ?_, h.room, h.leave⟩
 unfold dropP
 rw [h.look]
 simp only [ne_eq, not_true_eq_false, if_false]
 rw [h.at_dir, h.at_]
 simp only
 rw [if_neg (fun e => e hq)]
 unfold dropT freeP
 rw [if_neg (by rw [hg]; decide)]
end
theorem unhold_gone {t2 : PT} {i : Int} {y : PN} (hr : t2.room = t.room) (hn : ∀ j, t2.n j = if j = i then some y else t.n j) (hi : t.n i = none) (hk : y.kind = 1) (hh : y.held = 1) (hl : y.links = 0) (h1 : i ≠ 1) : unholdP t2 i = (0, t) := by
 have hi2 : t2.n i = some y := by rw [hn, if_pos rfl]
 have e : unholdE t2 i = 0 := by
  unfold unholdE
  have e1 : thereE t2 [i] = 0 := by unfold thereE; simp [hi2]
  have e2 : heldE' t2 i = 0 := by
   unfold heldE'
   rw [hi2]
   show heldE y = 0
   unfold heldE
   rw [if_neg (by omega)]
  rw [e1, e2]
  rfl
 unfold unholdP
 rw [if_pos e, hi2]
 show (0, unholdT t2 i y) = _
 unfold unholdT freeP
 have hg : goneB i { y with held := y.held - 1 } = true := by
  unfold goneB
  simp [hk, hh, hl, h1]
 rw [if_pos hg]
 have e3 : (t2.set i { y with held := y.held - 1 }).del i = t := PT.ext' hr fun j => by
  rw [PT.del_n, PT.set_n, hn]
  by_cases c : j = i
  · rw [if_pos c, c, hi]
  · rw [if_neg c, if_neg c, if_neg c]
 rw [e3]
end
abbrev ba0 : ByteArray := ByteArray.empty
def callP (act : Int) (s : ByteArray) : Cx := ⟨act, s, ba0, 0, 0, 0, ba0⟩
def writeC (fd : Int) (d : ByteArray) : Cx := ⟨4, ba0, ba0, fd, 0, 0, d⟩
def closeC (fd : Int) : Cx := ⟨13, ba0, ba0, fd, 0, 0, ba0⟩
theorem check_same {a b : Int} {s : ByteArray} (h1 : 1 ≤ a ∧ a ≤ 15) (h2 : 1 ≤ b ∧ b ≤ 15) (h : ∀ j, hasB a j = hasB b j) : checkC (callP a s) = checkC (callP b s) := by
 have ha : ¬ (a < 1 ∨ 15 < a) := by omega
 have hb : ¬ (b < 1 ∨ 15 < b) := by omega
 unfold checkC callP
 simp only [h, ha, hb, if_false]
theorem check_close {fd : Int} (h : 0 ≤ fd ∧ fd ≤ 15) : checkC (closeC fd) = 0 := by
 unfold checkC closeC pathE hasB
 simp
 omega
theorem doM_ok {m : MD} {core : Int} {x : Cx} (h1 : 0 ≤ core) (h2 : core < m.n) (h3 : checkC x = 0) : doM m core x = deedM m core.toNat x := by
 unfold doM
 rw [if_neg (by omega), if_neg (fun e => e h3)]
theorem doM_check {m : MD} {core : Int} {x : Cx} (h1 : 0 ≤ core) (h2 : core < m.n) (h3 : (doM m core x).1.err = 0) : checkC x = 0 := by
 unfold doM at h3
 rw [if_neg (by omega)] at h3
 by_cases c : checkC x = 0
 · exact c
 · rw [if_pos c] at h3
   exact absurd h3 c
section
variable {m : MD}
theorem back_dir (h : m.Ok) {core : Int} (h1 : 0 ≤ core) (h2 : core < m.n) (s : ByteArray) (hb : (doM m core (callP 9 s)).1.err = 0) :
  (doM m core (callP 9 s)).1.ino = leastI m.t ∧ (doM (doM m core (callP 9 s)).2 core (callP 10 s)).1.err = 0 ∧ (doM (doM m core (callP 9 s)).2 core (callP 10 s)).2 = m := by
 have hc := doM_check h1 h2 hb
 have hc2 : checkC (callP 10 s) = 0 := (check_same (by omega) (by omega) (fun j => by unfold hasB; split <;> rfl)).trans hc
 have e1 : doM m core (callP 9 s) = entryM m (callP 9 s) := by rw [doM_ok h1 h2 hc]; rfl
 rw [e1] at hb ⊢
 have hE : (entryP m.t s).2 = 0 := by
  by_cases c : (entryP m.t s).2 = 0
  · exact c
  · exfalso
    unfold entryM at hb
    rw [show (callP 9 s).path = s from rfl, if_pos c] at hb
    exact c hb
 have e2 : entryM m (callP 9 s) = ({ wrongR (makeM m (entryP m.t s).1.1 (entryP m.t s).1.2 2).1.2 with ino := (makeM m (entryP m.t s).1.1 (entryP m.t s).1.2 2).1.1 }, { m with t := (makeM m (entryP m.t s).1.1 (entryP m.t s).1.2 2).2 }) := by
  unfold entryM
  rw [show (callP 9 s).path = s from rfl, if_neg (fun e => e hE)]
  rw [if_neg (show ¬ (callP 9 s).act = 7 from (by decide : ¬ (9 : Int) = 7)), if_neg (show ¬ (callP 9 s).act = 10 from (by decide : ¬ (9 : Int) = 10))]
 rw [e2] at hb ⊢
 have hb' : (makeP m.t (entryP m.t s).1.1 (entryP m.t s).1.2 2 (leastI m.t)).1.2 = 0 := hb
 obtain ⟨g1, xd, g2⟩ := make_made h.well h.well.leastI_ hb'
 refine ⟨g1, ?_⟩
 have hi1 : leastI m.t ≠ 1 := fun e => by
  obtain ⟨z, hz, _⟩ := h.well.root
  have := g2.new
  rw [e, hz] at this; cases this
 have hst := g2.stands
 have hent : entryP (makeP m.t (entryP m.t s).1.1 (entryP m.t s).1.2 2 (leastI m.t)).2 s = entryP m.t s := entryP_ext (hst.ext h.well.good) hE
 have hdrop := hst.drop_gone rmdirE (by unfold rmdirE inN newN emptyB; simp) (by unfold goneB outN inN newN; simp [hi1])
 rw [doM_ok h1 (show core < ({ m with t := (makeM m (entryP m.t s).1.1 (entryP m.t s).1.2 2).2 } : MD).n from h2) hc2]
 have e3 : deedM { m with t := (makeM m (entryP m.t s).1.1 (entryP m.t s).1.2 2).2 } core.toNat (callP 10 s) = entryM { m with t := (makeM m (entryP m.t s).1.1 (entryP m.t s).1.2 2).2 } (callP 10 s) := rfl
 rw [e3]
 unfold entryM
 rw [show (callP 10 s).path = s from rfl]
 show (if (entryP (makeP m.t (entryP m.t s).1.1 (entryP m.t s).1.2 2 (leastI m.t)).2 s).2 ≠ 0 then _ else _ : Rs × MD).1.err = 0 ∧ (if (entryP (makeP m.t (entryP m.t s).1.1 (entryP m.t s).1.2 2 (leastI m.t)).2 s).2 ≠ 0 then _ else _ : Rs × MD).2 = m
 rw [hent, if_neg (fun e => e hE), if_neg (show ¬ (callP 10 s).act = 7 from (by decide : ¬ (10 : Int) = 7)), if_pos (show (callP 10 s).act = 10 from (by decide : (10 : Int) = 10))]
 show (dropP (makeP m.t (entryP m.t s).1.1 (entryP m.t s).1.2 2 (leastI m.t)).2 (entryP (makeP m.t (entryP m.t s).1.1 (entryP m.t s).1.2 2 (leastI m.t)).2 s).1.1 (entryP (makeP m.t (entryP m.t s).1.1 (entryP m.t s).1.2 2 (leastI m.t)).2 s).1.2 rmdirE).1.2 = 0 ∧ ({ m with t := (dropP (makeP m.t (entryP m.t s).1.1 (entryP m.t s).1.2 2 (leastI m.t)).2 (entryP (makeP m.t (entryP m.t s).1.1 (entryP m.t s).1.2 2 (leastI m.t)).2 s).1.1 (entryP (makeP m.t (entryP m.t s).1.1 (entryP m.t s).1.2 2 (leastI m.t)).2 s).1.2 rmdirE).2 } : MD) = m
 rw [hent, hdrop]
 exact ⟨rfl, rfl⟩
theorem create_ok (h : m.Ok) (c : Nat) (s : ByteArray) (ha : (createM m c (callP 2 s)).1.err = 0) :
  ∃ k xd y t2, freeFd m.T c = some k ∧ (entryP m.t s).2 = 0 ∧ (makeP m.t (entryP m.t s).1.1 (entryP m.t s).1.2 1 (leastI m.t)).1.2 = 0 ∧
   Stands m.t (entryP m.t s).1.1 (entryP m.t s).1.2 (leastI m.t) xd y t2 ∧ (y.kind = 1 ∧ y.links = 1 ∧ y.held = 1) ∧
   createM m c (callP 2 s) = (⟨0, k, leastI m.t, stat0, none, ba0⟩, { m with t := t2, T := updT m.T (c * 16 + k) (leastI m.t) }) := by
 by_cases c1 : (freeFd m.T c).isNone = true
 · exfalso
   unfold createM at ha
   rw [if_pos c1] at ha
   exact absurd ha (show ¬ (210 : Int) = 0 by decide)
 by_cases c2 : (entryP m.t s).2 = 0
 rotate_left
 · exfalso
   unfold createM at ha
   rw [if_neg c1, show (callP 2 s).path = s from rfl, if_pos c2] at ha
   exact c2 ha
 by_cases c3 : (makeP m.t (entryP m.t s).1.1 (entryP m.t s).1.2 1 (leastI m.t)).1.2 = 0
 rotate_left
 · exfalso
   unfold createM makeM at ha
   rw [if_neg c1, show (callP 2 s).path = s from rfl, if_neg (fun e => e c2), if_pos c3] at ha
   exact c3 ha
 obtain ⟨k, hk⟩ : ∃ k, freeFd m.T c = some k := Option.isSome_iff_exists.1 (by cases hh : freeFd m.T c with
  | none => rw [hh] at c1; simp at c1
  | some k => rfl)
 obtain ⟨g1, xd, g2⟩ := make_made h.well h.well.leastI_ c3
 have hst := g2.stands
 have hat := hst.at_
 have hok := hold_file hat (show (inN (newN 1) (entryP m.t s).1.1).kind = 1 from rfl)
 have hT : (holdP (makeP m.t (entryP m.t s).1.1 (entryP m.t s).1.2 1 (leastI m.t)).2 (leastI m.t)).2 = (makeP m.t (entryP m.t s).1.1 (entryP m.t s).1.2 1 (leastI m.t)).2.set (leastI m.t) { inN (newN 1) (entryP m.t s).1.1 with held := (inN (newN 1) (entryP m.t s).1.1).held + 1 } := by
  unfold holdP at hok ⊢
  by_cases c4 : holdE (makeP m.t (entryP m.t s).1.1 (entryP m.t s).1.2 1 (leastI m.t)).2 (leastI m.t) = 0
  · rw [if_pos c4, hat]
  · rw [if_neg c4] at hok; exact absurd hok c4
 refine ⟨k, xd, _, _, hk, c2, c3, hst.put (y' := { inN (newN 1) (entryP m.t s).1.1 with held := (inN (newN 1) (entryP m.t s).1.1).held + 1 }), ⟨rfl, rfl, rfl⟩, ?_⟩
 unfold createM makeM
 rw [if_neg c1, show (callP 2 s).path = s from rfl, if_neg (fun e => e c2), if_neg (fun e => e c3), g1]
 unfold openedM
 show (if (holdP (makeP m.t (entryP m.t s).1.1 (entryP m.t s).1.2 1 (leastI m.t)).2 (leastI m.t)).1 ≠ 0 then _ else _ : Rs × MD) = _
 rw [if_neg (fun e => e hok)]
 show (match freeFd m.T c with | some k => _ | none => _ : Rs × MD) = _
 rw [hk]
 show ((⟨0, k, leastI m.t, stat0, none, ByteArray.empty⟩ : Rs), ({ m with t := (holdP (makeP m.t (entryP m.t s).1.1 (entryP m.t s).1.2 1 (leastI m.t)).2 (leastI m.t)).2, T := updT m.T (c * 16 + k) (leastI m.t) } : MD)) = _
 rw [hT]
theorem write_stands {t t2 : PT} {d i p : Int} {s data : ByteArray} {xd y : PN} (h : Stands t d s i xd y t2) : ∃ y', y'.kind = y.kind ∧ y'.links = y.links ∧ y'.held = y.held ∧ Stands t d s i xd y' (writeP t2 i p data).2 := by
 unfold writeP
 by_cases c : writeE t2 i p data = 0
 · rw [if_pos c]
   show ∃ y', _ ∧ _ ∧ _ ∧ Stands t d s i xd y' (writeT t2 i p data)
   unfold writeT
   rw [h.at_]
   exact ⟨{ y with pages := updP y.pages p (over data.data.toList ((y.pages p).getD z64)), size := max y.size (p * 64 + data.size) }, rfl, rfl, rfl, h.put⟩
 · rw [if_neg c]
   exact ⟨y, rfl, rfl, rfl, h⟩
theorem upd_back {T : Nat → Int} {p : Nat} {v : Int} (h : T p = 0) : updT (updT T p v) p 0 = T := by
 funext k
 unfold updT
 by_cases c : k = p
 · rw [if_pos c, c, h]
 · rw [if_neg c, if_neg c]
theorem back_file (h : m.Ok) {core : Int} (h1 : 0 ≤ core) (h2 : core < m.n) (s data : ByteArray) (ha : (doM m core (callP 2 s)).1.err = 0) :
  (doM m core (callP 2 s)).1.ino = leastI m.t ∧ (makeP m.t (entryP m.t s).1.1 (entryP m.t s).1.2 1 (leastI m.t)).1.2 = 0 ∧ (entryP m.t s).2 = 0 ∧
   ∀ b, b = (doM (doM m core (callP 2 s)).2 core (writeC (doM m core (callP 2 s)).1.fd data)).2 →
    (doM b core (callP 7 s)).1.err = 0 ∧ (doM (doM b core (callP 7 s)).2 core (closeC (doM m core (callP 2 s)).1.fd)).1.err = 0 ∧ (doM (doM b core (callP 7 s)).2 core (closeC (doM m core (callP 2 s)).1.fd)).2 = m := by
 have hc := doM_check h1 h2 ha
 have hc7 : checkC (callP 7 s) = 0 := (check_same (by omega) (by omega) (fun j => by unfold hasB; split <;> rfl)).trans hc
 have e1 : doM m core (callP 2 s) = createM m core.toNat (callP 2 s) := by rw [doM_ok h1 h2 hc]; rfl
 rw [e1] at ha ⊢
 obtain ⟨k, xd, y, t2, hk, hE, hmk, hst, ⟨y1, y2, y3⟩, e2⟩ := create_ok h core.toNat s ha
 obtain ⟨k1, k2⟩ := free_some hk
 rw [e2]
 refine ⟨rfl, hmk, hE, fun b hb => ?_⟩
 show (doM b core (callP 7 s)).1.err = 0 ∧ (doM (doM b core (callP 7 s)).2 core (closeC (k : Int))).1.err = 0 ∧ (doM (doM b core (callP 7 s)).2 core (closeC (k : Int))).2 = m
 have hpos := hst.pos
 have hb2 : ∃ y' t3, y'.kind = 1 ∧ y'.links = 1 ∧ y'.held = 1 ∧ Stands m.t (entryP m.t s).1.1 (entryP m.t s).1.2 (leastI m.t) xd y' t3 ∧ b = { m with t := t3, T := updT m.T (core.toNat * 16 + k) (leastI m.t) } := by
  have hb' : b = (doM { m with t := t2, T := updT m.T (core.toNat * 16 + k) (leastI m.t) } core (writeC (k : Int) data)).2 := hb
  by_cases c : checkC (writeC (k : Int) data) = 0
  · rw [doM_ok h1 (show core < ({ m with t := t2, T := updT m.T (core.toNat * 16 + k) (leastI m.t) } : MD).n from h2) c] at hb'
    have e3 : deedM { m with t := t2, T := updT m.T (core.toNat * 16 + k) (leastI m.t) } core.toNat (writeC (k : Int) data) = heldM { m with t := t2, T := updT m.T (core.toNat * 16 + k) (leastI m.t) } core.toNat (writeC (k : Int) data) := rfl
    rw [e3] at hb'
    unfold heldM at hb'
    have e4 : updT m.T (core.toNat * 16 + k) (leastI m.t) (core.toNat * 16 + (writeC (k : Int) data).fd.toNat) = leastI m.t := by
     show updT m.T (core.toNat * 16 + k) (leastI m.t) (core.toNat * 16 + ((k : Int)).toNat) = leastI m.t
     rw [Int.toNat_natCast]
     unfold updT
     rw [if_pos rfl]
    simp only [e4] at hb'
    rw [if_neg (by omega), if_neg (show ¬ (writeC (k : Int) data).act = 3 from (by decide : ¬ (4 : Int) = 3)), if_pos (by rfl : (writeC (k : Int) data).act = 4)] at hb'
    obtain ⟨y', q1, q2, q3, q4⟩ := write_stands (p := (writeC (k : Int) data).page) (data := (writeC (k : Int) data).data) hst
    exact ⟨y', _, q1.trans y1, q2.trans y2, q3.trans y3, q4, hb'⟩
  · have e3 : doM { m with t := t2, T := updT m.T (core.toNat * 16 + k) (leastI m.t) } core (writeC (k : Int) data) = (wrongR (checkC (writeC (k : Int) data)), { m with t := t2, T := updT m.T (core.toNat * 16 + k) (leastI m.t) }) := by
     unfold doM
     rw [if_neg (by show ¬ (core < 0 ∨ m.n ≤ core); omega), if_pos c]
    rw [e3] at hb'
    exact ⟨y, t2, y1, y2, y3, hst, hb'⟩
 obtain ⟨y', t3, z1, z2, z3, hst3, rfl⟩ := hb2
 have hent : entryP t3 s = entryP m.t s := entryP_ext (hst3.ext h.well.good) hE
 obtain ⟨t4, d1, d2, d3⟩ := hst3.drop_stays unlinkE (by unfold unlinkE; rw [z1]; rfl) (by unfold goneB outN; rw [z1]; simp [z3])
 have hi1 : leastI m.t ≠ 1 := fun e => by
  obtain ⟨z, hz, _⟩ := h.well.root
  have := hst3.new
  rw [e, hz] at this; cases this
 have e7 : doM { m with t := t3, T := updT m.T (core.toNat * 16 + k) (leastI m.t) } core (callP 7 s) = (wrongR 0, { m with t := t4, T := updT m.T (core.toNat * 16 + k) (leastI m.t) }) := by
  rw [doM_ok h1 (show core < ({ m with t := t3, T := updT m.T (core.toNat * 16 + k) (leastI m.t) } : MD).n from h2) hc7]
  show entryM { m with t := t3, T := updT m.T (core.toNat * 16 + k) (leastI m.t) } (callP 7 s) = _
  unfold entryM
  show (if (entryP t3 s).2 ≠ 0 then _ else _ : Rs × MD) = _
  rw [hent, if_neg (fun e => e hE), if_pos (by rfl : (callP 7 s).act = 7)]
  show (wrongR (dropP t3 (entryP t3 s).1.1 (entryP t3 s).1.2 unlinkE).1.2, ({ m with t := (dropP t3 (entryP t3 s).1.1 (entryP t3 s).1.2 unlinkE).2, T := updT m.T (core.toNat * 16 + k) (leastI m.t) } : MD)) = _
  rw [hent, d1]
 rw [e7]
 refine ⟨rfl, ?_⟩
 have hcl : checkC (closeC (k : Int)) = 0 := check_close (by omega)
 have hun := unhold_gone d2 d3 hst3.new (show (outN y').kind = 1 by unfold outN; rw [if_neg (by omega)]; exact z1) (by rw [held_out]; exact z3) (show (outN y').links = 0 by unfold outN; rw [if_neg (by omega)]; show y'.links - 1 = 0; omega) hi1
 have e13 : doM { m with t := t4, T := updT m.T (core.toNat * 16 + k) (leastI m.t) } core (closeC (k : Int)) = (wrongR 0, m) := by
  rw [doM_ok h1 (show core < ({ m with t := t4, T := updT m.T (core.toNat * 16 + k) (leastI m.t) } : MD).n from h2) hcl]
  show heldM { m with t := t4, T := updT m.T (core.toNat * 16 + k) (leastI m.t) } core.toNat (closeC (k : Int)) = _
  unfold heldM
  have e4 : updT m.T (core.toNat * 16 + k) (leastI m.t) (core.toNat * 16 + (closeC (k : Int)).fd.toNat) = leastI m.t := by
   show updT m.T (core.toNat * 16 + k) (leastI m.t) (core.toNat * 16 + ((k : Int)).toNat) = leastI m.t
   rw [Int.toNat_natCast]
   unfold updT
   rw [if_pos rfl]
  simp only [e4]
  rw [if_neg (by omega), if_neg (show ¬ (closeC (k : Int)).act = 3 from (by decide : ¬ (13 : Int) = 3)), if_neg (show ¬ (closeC (k : Int)).act = 4 from (by decide : ¬ (13 : Int) = 4)), if_neg (show ¬ (closeC (k : Int)).act = 5 from (by decide : ¬ (13 : Int) = 5)), if_pos (by rfl : (closeC (k : Int)).act = 13)]
  rw [hun]
  have e5 : updT (updT m.T (core.toNat * 16 + k) (leastI m.t)) (core.toNat * 16 + (closeC (k : Int)).fd.toNat) 0 = m.T := by
   show updT (updT m.T (core.toNat * 16 + k) (leastI m.t)) (core.toNat * 16 + ((k : Int)).toNat) 0 = m.T
   rw [Int.toNat_natCast]
   exact upd_back k2
  rw [e5]
 rw [e13]
 exact ⟨rfl, rfl⟩
theorem dir_too (h : m.Ok) {core core2 : Int} (h1 : 0 ≤ core) (h2 : core < m.n) (h3 : 0 ≤ core2) (h4 : core2 < m.n) (s : ByteArray) (ha : (doM m core (callP 2 s)).1.err = 0) : (doM m core2 (callP 9 s)).1.err = 0 := by
 have hc := doM_check h1 h2 ha
 have hc9 : checkC (callP 9 s) = 0 := (check_same (by omega) (by omega) (fun j => by unfold hasB; split <;> rfl)).trans hc
 obtain ⟨_, g2, g3, _⟩ := back_file h h1 h2 s ba0 ha
 have e1 : doM m core2 (callP 9 s) = entryM m (callP 9 s) := by rw [doM_ok h3 h4 hc9]; rfl
 rw [e1]
 unfold entryM
 rw [show (callP 9 s).path = s from rfl, if_neg (fun e => e g3), if_neg (show ¬ (callP 9 s).act = 7 from (by decide : ¬ (9 : Int) = 7)), if_neg (show ¬ (callP 9 s).act = 10 from (by decide : ¬ (9 : Int) = 10))]
 exact make_other (by decide) g2
end
end

section
open Go.RowKit Go.Maps
abbrev sla : ByteArray := { data := #[47, 97] }
abbrev slb : ByteArray := { data := #[47, 98] }
abbrev shi : ByteArray := { data := #[104, 105] }
theorem least_only {t : PT} {m : Int} (h : Least t m) {k : Int} (h1 : 1 ≤ k) (hk : t.n k = none) (h2 : ∀ j, 1 ≤ j → j < k → (t.n j).isSome = true) : m = k := by
 obtain ⟨a1, _, a3, a4⟩ := h
 rcases Int.lt_trichotomy m k with c | c | c
 · have := h2 m a1 c
   rw [a3] at this; cases this
 · exact c
 · have := a4 k h1 c
   rw [hk] at this; cases this
theorem new_n (r j : Int) : (newT r).n j = if j = 1 then some (newN 2) else none := by
 unfold newT
 rw [PT.set_n]
theorem new_least {r : Int} (h1 : 2 ≤ r) (h2 : r ≤ 256) : leastI (newT r) = 2 :=
 least_only (WellP.new r h1 h2).leastI_ (by decide) (by rw [new_n]; rfl) (fun j a b => by rw [new_n, if_pos (by omega)]; rfl)
theorem split_a : splitE sla = ([sa], 0) := by decide +kernel
theorem split_b : splitE slb = ([sb], 0) := by decide +kernel
theorem names_a : namesE [sa] = 0 := by decide +kernel
theorem names_b : namesE [sb] = 0 := by decide +kernel
theorem entry_top {t : PT} {s n : ByteArray} (h : splitE s = ([n], 0)) : entryP t s = ((1, n), 0) := by
 unfold entryP parentE
 rw [h]
 rfl
theorem find_top {t : PT} {s n : ByteArray} (h : splitE s = ([n], 0)) : findP t s = if (lookP t 1 n).2 ≠ 0 then (0, (lookP t 1 n).2) else lookP t 1 n := by
 unfold findP
 rw [h]
 show walkP t [n] = _
 unfold walkP
 show (if (lookP t 1 n).2 ≠ 0 then _ else _) = _
 rfl
theorem new_make {r : Int} (h1 : 2 ≤ r) (h2 : r ≤ 256) {s : ByteArray} (hs : namesE [s] = 0) : (makeP (newT r) 1 s 1 2).1.2 = 0 := by
 have hd : (newT r).n 1 = some (newN 2) := by rw [new_n, if_pos rfl]
 have e2 : thereE (newT r) [1] = 0 := by unfold thereE; simp [hd]
 have e3 : dirsE (newT r) [1] = 0 := by unfold dirsE isFile; simp [hd, newN]
 have e4 : freshE' (newT r) 1 s = 0 := by unfold freshE'; rw [hd]; unfold freshE; simp [newN]
 have e5 : haveE (newT r) 2 = 0 := by
  unfold haveE
  rw [new_n, if_neg (by decide)]
 have e6 : roomE (newT r) 2 = 0 := by
  unfold roomE
  rw [if_neg (by show ¬ ((2 : Int) < 1 ∨ r < 2); omega)]
 have q : makeE (newT r) 1 s 1 = 0 := by
  unfold makeE
  rw [hs, e2, e3, e4]
  rfl
 have q2 : makeAtE (newT r) 1 s 1 2 = 0 := by
  unfold makeAtE
  rw [hs, e2, e3, e4, e5, e6]
  rfl
 unfold makeP makeQ
 rw [if_pos q]
 rw [if_neg (show ¬ (newT r).room < 2 by show ¬ r < 2; omega), if_pos rfl]
 unfold makeAtP
 rw [if_pos q2]
theorem new_create {r n : Int} (h1 : 2 ≤ r) (h2 : r ≤ 256) (h3 : 1 ≤ n) (h4 : n ≤ 8) {core : Int} (c1 : 0 ≤ core) (c2 : core < n) {s nm : ByteArray} (hs : splitE s = ([nm], 0)) (hn : namesE [nm] = 0) (hc : checkC (callP 2 s) = 0) :
  ∃ xd y t2, Stands (newT r) 1 nm 2 xd y t2 ∧ (y.kind = 1 ∧ y.links = 1 ∧ y.held = 1 ∧ y.size = 0 ∧ ∀ p, y.pages p = none) ∧
   doM ⟨newT r, fun _ => 0, n⟩ core (callP 2 s) = (⟨0, 0, 2, stat0, none, ba0⟩, ⟨t2, updT (fun _ => 0) (core.toNat * 16) 2, n⟩) := by
 have hk : (⟨newT r, fun _ => 0, n⟩ : MD).Ok := HoldOk.new r h1 h2 h3 h4
 have hl := new_least h1 h2
 have e1 : doM ⟨newT r, fun _ => 0, n⟩ core (callP 2 s) = createM ⟨newT r, fun _ => 0, n⟩ core.toNat (callP 2 s) := by rw [doM_ok c1 c2 hc]; rfl
 have hf : freeFd (fun _ => 0) core.toNat = some 0 := by
  unfold freeFd
  rfl
 have hmk := new_make h1 h2 hn
 obtain ⟨g1, xd, g2⟩ := make_made (WellP.new r h1 h2) (i := 2) (by rw [← hl]; exact (WellP.new r h1 h2).leastI_) hmk
 have hst := g2.stands
 have hat := hst.at_
 have hok := hold_file hat (show (inN (newN 1) 1).kind = 1 from rfl)
 have hT : (holdP (makeP (newT r) 1 nm 1 2).2 2).2 = (makeP (newT r) 1 nm 1 2).2.set 2 { inN (newN 1) 1 with held := (inN (newN 1) 1).held + 1 } := by
  unfold holdP at hok ⊢
  by_cases c4 : holdE (makeP (newT r) 1 nm 1 2).2 2 = 0
  · rw [if_pos c4, hat]
  · rw [if_neg c4] at hok; exact absurd hok c4
 refine ⟨xd, _, _, hst.put (y' := { inN (newN 1) 1 with held := (inN (newN 1) 1).held + 1 }), ⟨rfl, rfl, rfl, rfl, fun _ => rfl⟩, ?_⟩
 rw [e1]
 unfold createM makeM
 have hE : entryP (newT r) s = ((1, nm), 0) := entry_top hs
 show (if (freeFd (fun _ => 0) core.toNat).isNone = true then _ else if (entryP (newT r) s).2 ≠ 0 then _ else if (makeP (newT r) (entryP (newT r) s).1.1 (entryP (newT r) s).1.2 1 (leastI (newT r))).1.2 ≠ 0 then _ else openedM ⟨(makeP (newT r) (entryP (newT r) s).1.1 (entryP (newT r) s).1.2 1 (leastI (newT r))).2, fun _ => 0, n⟩ core.toNat (makeP (newT r) (entryP (newT r) s).1.1 (entryP (newT r) s).1.2 1 (leastI (newT r))).1.1 : Rs × MD) = _
 rw [hE, hl, hf, if_neg (by decide), if_neg (fun e => e rfl), if_neg (fun e => e hmk), g1]
 have ho := opened_ok (m := ⟨(makeP (newT r) 1 nm 1 2).2, fun _ => 0, n⟩) (c := core.toNat) (i := 2) (k := 0) hok hf
 refine ho.trans ?_
 show ((⟨0, ((0 : Nat) : Int), 2, stat0, none, ByteArray.empty⟩ : Rs), (⟨(holdP (makeP (newT r) 1 nm 1 2).2 2).2, updT (fun _ => 0) (core.toNat * 16 + 0) 2, n⟩ : MD)) = _
 rw [hT]
 rfl
def readC (fd page : Int) : Cx := ⟨3, ba0, ba0, fd, page, 0, ba0⟩
theorem check_ca : checkC (callP 2 sla) = 0 := by decide +kernel
theorem check_cb : checkC (callP 2 slb) = 0 := by decide +kernel
theorem check_ua : checkC (callP 7 sla) = 0 := by decide +kernel
theorem check_sa : checkC (callP 12 sla) = 0 := by decide +kernel
theorem check_wr : checkC (writeC 0 shi) = 0 := by decide +kernel
theorem check_rd : checkC (readC 0 0) = 0 := by decide +kernel
theorem upd_at (T : Nat → Int) (p : Nat) (v : Int) : updT T p v p = v := by unfold updT; rw [if_pos rfl]
theorem alive_plain : ∃ m1 m2 m3 : MD,
  doM ⟨newT 8, fun _ => 0, 2⟩ 1 (callP 2 sla) = (⟨0, 0, 2, stat0, none, ba0⟩, m1) ∧ doM m1 1 (writeC 0 shi) = (wrongR 0, m2) ∧ doM m2 0 (callP 7 sla) = (wrongR 0, m3) ∧
  doM m3 1 (readC 0 0) = ({ wrongR 0 with data := shi }, m3) ∧ doM m3 0 (callP 12 sla) = (wrongR 3, m3) ∧ doM m3 1 (closeC 0) = (wrongR 0, ⟨newT 8, fun _ => 0, 2⟩) := by
 obtain ⟨xd, y, t2, hst, ⟨y1, y2, y3, y4, y5⟩, e1⟩ := new_create (r := 8) (n := 2) (by decide) (by decide) (by decide) (by decide) (core := 1) (by decide) (by decide) split_a names_a check_ca
 have hW := WellP.new 8 (by decide) (by decide)
 have hpg : writeE t2 2 0 shi = 0 := by
  unfold writeE
  have w1 : thereE t2 [2] = 0 := by unfold thereE; simp [hst.at_]
  have w2 : fileE' t2 2 = 0 := by
   unfold fileE'
   rw [hst.at_]
   show fileQE y = 0
   unfold fileQE
   rw [y1]
   rfl
  rw [w1, w2]
  decide
 obtain ⟨y', hy'⟩ : ∃ y', y' = { y with pages := updP y.pages 0 (over shi.data.toList ((y.pages 0).getD z64)), size := max y.size (0 * 64 + shi.size) } := ⟨_, rfl⟩
 have hwr : writeP t2 2 0 shi = (0, t2.set 2 y') := by
  unfold writeP
  rw [if_pos hpg]
  unfold writeT
  rw [hst.at_, hy']
 have hst3 : Stands (newT 8) 1 sa 2 xd y' (t2.set 2 y') := hst.put
 have z1 : y'.kind = 1 := by rw [hy']; exact y1
 have z2 : y'.links = 1 := by rw [hy']; exact y2
 have z3 : y'.held = 1 := by rw [hy']; exact y3
 have z4 : y'.size = 2 := by rw [hy']; show max y.size (0 * 64 + (shi.size : Int)) = 2; rw [y4]; rfl
 have z5 : y'.pages 0 = some (over shi.data.toList z64) := by
  rw [hy']
  show updP y.pages 0 _ 0 = _
  unfold updP
  rw [if_pos rfl, y5]
  rfl
 obtain ⟨t4, d1, d2, d3⟩ := hst3.drop_stays unlinkE (by unfold unlinkE; rw [z1]; rfl) (by unfold goneB outN; rw [z1]; simp [z3])
 have ho1 : (outN y').kind = 1 := by unfold outN; rw [if_neg (by omega)]; exact z1
 have hun := unhold_gone d2 d3 hst3.new ho1 (by rw [held_out]; exact z3) (show (outN y').links = 0 by unfold outN; rw [if_neg (by omega)]; show y'.links - 1 = 0; omega) (by decide)
 have h42 : t4.n 2 = some (outN y') := by rw [d3, if_pos rfl]
 refine ⟨_, ⟨t2.set 2 y', updT (fun _ => 0) (1 * 16) 2, 2⟩, ⟨t4, updT (fun _ => 0) (1 * 16) 2, 2⟩, e1, ?_, ?_, ?_, ?_, ?_⟩
 · rw [doM_ok (by decide) (by show (1 : Int) < 2; decide) check_wr]
   show heldM ⟨t2, updT (fun _ => 0) (1 * 16) 2, 2⟩ 1 (writeC 0 shi) = _
   unfold heldM
   rw [show (⟨t2, updT (fun _ => 0) (1 * 16) 2, 2⟩ : MD).T (1 * 16 + (writeC 0 shi).fd.toNat) = 2 from upd_at (fun _ => 0) 16 2]
   rw [if_neg (by decide), if_neg (show ¬ (writeC 0 shi).act = 3 from (by decide : ¬ (4 : Int) = 3)), if_pos (by rfl : (writeC 0 shi).act = 4)]
   show (wrongR (writeP t2 2 0 shi).1, (⟨(writeP t2 2 0 shi).2, updT (fun _ => 0) (1 * 16) 2, 2⟩ : MD)) = _
   rw [hwr]
 · rw [doM_ok (by decide) (by show (0 : Int) < 2; decide) check_ua]
   show entryM ⟨t2.set 2 y', updT (fun _ => 0) (1 * 16) 2, 2⟩ (callP 7 sla) = _
   unfold entryM
   show (if (entryP (t2.set 2 y') sla).2 ≠ 0 then _ else if (callP 7 sla).act = 7 then (wrongR (dropP (t2.set 2 y') (entryP (t2.set 2 y') sla).1.1 (entryP (t2.set 2 y') sla).1.2 unlinkE).1.2, (⟨(dropP (t2.set 2 y') (entryP (t2.set 2 y') sla).1.1 (entryP (t2.set 2 y') sla).1.2 unlinkE).2, updT (fun _ => 0) (1 * 16) 2, 2⟩ : MD)) else _ : Rs × MD) = _
   rw [entry_top split_a, if_neg (by decide), if_pos (by rfl : (callP 7 sla).act = 7), d1]
 · rw [doM_ok (by decide) (by show (1 : Int) < 2; decide) check_rd]
   show heldM ⟨t4, updT (fun _ => 0) (1 * 16) 2, 2⟩ 1 (readC 0 0) = _
   unfold heldM
   rw [show (⟨t4, updT (fun _ => 0) (1 * 16) 2, 2⟩ : MD).T (1 * 16 + (readC 0 0).fd.toNat) = 2 from upd_at (fun _ => 0) 16 2]
   rw [if_neg (by decide), if_pos (by rfl : (readC 0 0).act = 3)]
   have hr : readR t4 2 0 = (shi, 0) := by
    unfold readR
    have w1 : thereE t4 [2] = 0 := by unfold thereE; simp [h42]
    have w2 : fileE' t4 2 = 0 := by
     unfold fileE'
     rw [h42]
     show fileQE (outN y') = 0
     unfold fileQE
     rw [ho1]
     rfl
    have w3 : firstE [thereE t4 [2], fileE' t4 2, pagedE 0] = 0 := by rw [w1, w2]; decide
    rw [if_pos w3, h42]
    have w4 : readL (outN y') 0 = [104, 105] := by
     unfold readL
     have p1 : (outN y').pages = y'.pages := by unfold outN; split <;> rfl
     have p2 : (outN y').size = y'.size := by unfold outN; split <;> rfl
     rw [p1, p2, z5, z4]
     decide
    show ((⟨(readL (outN y') 0).toArray⟩ : ByteArray), (0 : Int)) = _
    rw [w4]
   show ({ wrongR (readR t4 2 0).2 with data := (readR t4 2 0).1 }, _) = _
   rw [hr]
 · rw [doM_ok (by decide) (by show (0 : Int) < 2; decide) check_sa]
   show statM ⟨t4, updT (fun _ => 0) (1 * 16) 2, 2⟩ (callP 12 sla) = _
   unfold statM
   have hl : lookP t4 1 sa = (0, 3) := by
    have h1 : t4.n 1 = some (newN 2) := by rw [d3, if_neg (by decide), new_n, if_pos rfl]
    have e2 : thereE t4 [1] = 0 := by unfold thereE; simp [h1]
    have e3 : dirsE t4 [1] = 0 := by unfold dirsE isFile; simp [h1, newN]
    unfold lookP
    rw [names_a, e2, e3, if_neg (by decide), h1]
    simp [newN]
   show (if (findP t4 sla).2 ≠ 0 then (wrongR (findP t4 sla).2, _) else _ : Rs × MD) = _
   rw [find_top split_a, hl]
   rfl
 · rw [doM_ok (by decide) (by show (1 : Int) < 2; decide) (check_close (by decide))]
   show heldM ⟨t4, updT (fun _ => 0) (1 * 16) 2, 2⟩ 1 (closeC 0) = _
   unfold heldM
   rw [show (⟨t4, updT (fun _ => 0) (1 * 16) 2, 2⟩ : MD).T (1 * 16 + (closeC 0).fd.toNat) = 2 from upd_at (fun _ => 0) 16 2]
   rw [if_neg (by decide), if_neg (show ¬ (closeC 0).act = 3 from (by decide : ¬ (13 : Int) = 3)), if_neg (show ¬ (closeC 0).act = 4 from (by decide : ¬ (13 : Int) = 4)), if_neg (show ¬ (closeC 0).act = 5 from (by decide : ¬ (13 : Int) = 5)), if_pos (by rfl : (closeC 0).act = 13)]
   show (wrongR (unholdP t4 2).1, (⟨(unholdP t4 2).2, updT (updT (fun _ => 0) (1 * 16) 2) (1 * 16 + 0) 0, 2⟩ : MD)) = _
   rw [hun, show updT (updT (fun _ => 0) (1 * 16) 2) (1 * 16 + 0) 0 = (fun _ => 0) from upd_back (T := fun _ => 0) (p := 16) (v := 2) rfl]
end
end Go.Proofs.YtpcnolkdnmolgaaGreatDoor
