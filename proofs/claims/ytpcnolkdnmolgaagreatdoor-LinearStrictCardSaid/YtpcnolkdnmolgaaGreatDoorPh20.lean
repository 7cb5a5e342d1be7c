/- model.Do. -/
import Derived.Test.YtpcnolkdnmolgaaGreatDoorPh02
import Derived.Test.YtpcnolkdnmolgaaGreatDoorPh05
import Derived.Test.YtpcnolkdnmolgaaGreatDoorPh09
import Derived.Test.YtpcnolkdnmolgaaGreatDoorPh11
import Derived.Test.YtpcnolkdnmolgaaGreatDoorPh14
import Derived.Test.YtpcnolkdnmolgaaGreatDoorPh17
import Derived.Test.YtpcnolkdnmolgaaGreatDoorPh19
import Derived.Test.YtpcnolkdnmolgaaGreatDoorRows
import Derived.MakeChecks
import Derived.LaidLaws
import Derived.LaidHandle
import Derived.LaidMore
import Derived.OpenShut
import Derived.Stop.Joined
import Derived.Test.YtpcnolkdnmolgaaGreatDoorCards
import Derived.Test.YtpcnolkdnmolgaaGreatDoorTie
import Derived.SevenTiedAt
namespace Go.Proofs.YtpcnolkdnmolgaaGreatDoor
section
open Go.RowKit Go.Maps
section
variable {F : Nat → Prop} {P Pt Pf N : Nat} {y : Lay} {m : MD}
theorem statR_cells (t : PT) (i : Int) : ∃ a b c d : Int, statCells (statR t i).1 = [.int .u32 a, .int .u8 b, .int .i64 c, .int .u32 d] := by
 obtain ⟨a, b, c, d, e, h⟩ := statR_form t i
 rw [h]
 exact ⟨a, b, c, d, rfl⟩
theorem opened_stat (c : Nat) (i : Int) : (openedM m c i).1.stat = stat0 := by
 obtain ⟨a, b, d, h⟩ := opened_form (m := m) c i
 rw [h]
theorem lists_grown {t : PT} {lo lo2 : Nat} {w w' : World} {ls : Option Int} {lv : Value} {R : Nat} (h : ListV t lo w ls lv) (hg : w.grownBy w' (some R)) (hR : R < lo) (hlo : lo2 ≤ lo) : ListV t lo2 w' ls lv := by
 unfold ListV at h ⊢
 cases ls with
 | none => exact h
 | some d =>
  obtain ⟨A, c, L, h1, h2, h3, h4⟩ := h
  exact ⟨A, c, L, h1, h2, ents_grown h3 hg (fun B hB => by have := h4 B hB; omega), fun B hB => Nat.le_trans hlo (h4 B hB)⟩
theorem lists_slice {t : PT} {lo : Nat} {w : World} {ls : Option Int} {lv : Value} (h : ListV t lo w ls lv) : ∃ A n c, lv = .slice A n c := by
 unfold ListV at h
 cases ls with
 | none => exact ⟨_, _, _, h⟩
 | some d =>
  obtain ⟨A, c, L, h1, _⟩ := h
  exact ⟨_, _, _, h1⟩
def RelD (kc : Value) (W W' : World) : Prop := (∀ (b : Nat) es c, W.heap[b]? = some (Obj.map es c) → W'.heap[b]? = some (Obj.map es c)) ∧ (∀ (b : Nat) (v : Value), W.heap[b]? = some (Obj.cells #[v] 91 (0, 0)) → W'.heap[b]? = some (Obj.cells #[v] 91 (0, 0)) ∨ W'.heap[b]? = some (Obj.cells #[kc] 91 (0, 0)))
theorem RelD.of {kc : Value} {W W' : World} (h : Below W.heap.size W W') : RelD kc W W' :=
 ⟨fun b _es _c hb => (h.block b (Array.getElem?_eq_some_iff.1 hb).1).trans hb, fun b _v hb => .inl ((h.block b (Array.getElem?_eq_some_iff.1 hb).1).trans hb)⟩
theorem RelD.set {kc v : Value} {W : World} {B : Nat} (h : W.heap[B]? = some (.cells #[v] 91 (0, 0))) : RelD kc W (W.setCell ⟨B, 0, none⟩ kc) := by
 refine ⟨fun b es c hb => ?_, fun b u hb => ?_⟩
 · have hne : b ≠ B := fun e => by rw [e, h] at hb; cases hb
   exact (Below.heap_setCell _ _ _ b hne).trans hb
 · by_cases e : b = B
   · subst e
     exact .inr (oheap_set _ _ _ _ _ h)
   · exact .inl ((Below.heap_setCell _ _ _ b e).trans hb)
def isDeeds : Ph := fun v W => ∃ b, v = .map (some b) ∧ MapAt W Tryz.prog 5 b 14 deedsM
def isD (G : Nat) (kc : Value) : Ph := fun v W => ∃ B, v = .pointer (some ⟨B, 0, none⟩) ∧ G ≤ B ∧ (W.heap[B]? = some (.cells #[.nilFunc] 91 (0, 0)) ∨ W.heap[B]? = some (.cells #[kc] 91 (0, 0)))
def isDk (G : Nat) (kc : Value) : Ph := fun v W => ∃ B, v = .pointer (some ⟨B, 0, none⟩) ∧ G ≤ B ∧ W.heap[B]? = some (.cells #[kc] 91 (0, 0))
theorem isDeeds.stay {kc : Value} : ∀ v W W', isDeeds v W → RelD kc W W' → isDeeds v W' := fun _ _ _ ⟨b, h1, h2⟩ hr => by
 obtain ⟨es, c, hm⟩ := h2.isMap
 exact ⟨b, h1, h2.same ((hr.1 b es c hm).trans hm.symm)⟩
theorem isD.stay {G : Nat} {kc : Value} : ∀ v W W', isD G kc v W → RelD kc W W' → isD G kc v W' := fun _ _ _ ⟨B, h1, h2, h3⟩ hr => by
 refine ⟨B, h1, h2, ?_⟩
 rcases h3 with h | h
 · exact hr.2 B _ h
 · rcases hr.2 B _ h with h' | h'
   · exact .inr h'
   · exact .inr h'
theorem isDk.stay {G : Nat} {kc : Value} : ∀ v W W', isDk G kc v W → RelD kc W W' → isDk G kc v W' := fun _ _ _ ⟨B, h1, h2, h3⟩ hr => by
 refine ⟨B, h1, h2, ?_⟩
 rcases hr.2 B _ h3 with h' | h'
 · exact h'
 · exact h'
theorem zeroDeed (w : World) : (zeroValue 91).run Tryz.prog w = .ok (.agg #[.nilFunc]) w := by kernel_rfl
theorem deed_stat4 (c : Nat) (x : Cx) : ∃ a b d e : Int, statCells (deedM m c x).1.stat = [.int .u32 a, .int .u8 b, .int .i64 d, .int .u32 e] := by
 have h0 : ∀ r : Rs, r.stat = stat0 → ∃ a b d e : Int, statCells r.stat = [.int .u32 a, .int .u8 b, .int .i64 d, .int .u32 e] := fun r h => ⟨0, 0, 0, 0, by rw [h]; rfl⟩
 unfold deedM
 split
 · apply h0
   unfold openM
   split
   · rfl
   split
   · rfl
   exact opened_stat c _
 split
 · apply h0
   unfold createM
   split
   · rfl
   split
   · rfl
   split
   · rfl
   exact opened_stat c _
 split
 · apply h0
   unfold heldM
   split
   · rfl
   split
   · rfl
   split
   · rfl
   split
   · rfl
   split
   · rfl
   · rfl
 split
 · apply h0
   unfold linkM
   split
   · rfl
   split
   · rfl
   · rfl
 split
 · apply h0
   unfold entryM
   split
   · rfl
   split
   · rfl
   split
   · rfl
   · rfl
 split
 · apply h0
   unfold renameM
   split
   · rfl
   split
   · rfl
   · rfl
 split
 · apply h0
   unfold listM
   split
   · rfl
   · rfl
 split
 · unfold statM
   split
   · exact ⟨0, 0, 0, 0, rfl⟩
   · exact statR_cells _ _
 · apply h0; rfl
theorem ResP.four {w w' : World} {t : PT} {q : Rs × MD} {e : Ending} {a b d g : Int} (h : ResP w F P Pt Pf N t q e w') (hq : statCells q.1.stat = [.int .u32 a, .int .u8 b, .int .i64 d, .int .u32 g]) :
  ∃ A n c, e = .returned (.agg #[.int .i64 q.1.err, .int .i64 q.1.fd, .int .u32 q.1.ino, .int .u32 a, .int .u8 b, .int .i64 d, .int .u32 g, .slice A n c, .string q.1.data]) ∧ ListV t w.heap.size w' q.1.ls (.slice A n c) ∧ ModB w w' F P Pt Pf N q.2 := by
 obtain ⟨v, rfl, ⟨lv, rfl, hl⟩, hB⟩ := h
 obtain ⟨A, n, c, rfl⟩ := lists_slice hl
 refine ⟨A, n, c, ?_, hl, hB⟩
 unfold resCells
 rw [hq]
 rfl
theorem deed_call (hO : m.Ok) (c : Nat) (hc : (c : Int) < m.n) (x : Cx) (a : Nat) (hxa : x.act = a) (hx : x.path.size ≤ maxLen) (hx2 : x.path2.size ≤ maxLen) (hfd : 0 ≤ x.fd ∧ x.fd ≤ 15) (hdt : x.data.size ≤ maxLen) (hsz0 : 0 ≤ x.size) (hN : N ≤ 50000) :
  (deedO a = none ∧ deedM m c x = (wrongR 0, m)) ∨ ∃ g, deedO a = some (deedV g) ∧ (∀ args W, (callFunc g args).run Tryz.prog W = .ok (.enter g args) W) ∧ ∀ W, ModM W F P Pt Pf N y m → Calls Tryz.prog g #[.pointer (some ⟨P, 0, none⟩), .int .i64 c, callV x] W (ResP W F P Pt Pf (N + 2) m.t (deedM m c x)) := by
 unfold deedM deedO
 rw [hxa]
 by_cases h1 : (a : Int) = 1
 · right; refine ⟨71, by simp [h1], enters_of Tryz.func71 (by kernel_rfl) rfl, fun W hM => ?_⟩
   rw [if_pos h1]
   exact (t_openC W hM hO c hc x hx).mono fun e w' ⟨v, h1, h2, h3⟩ => ⟨v, h1, h2, h3.mono (by omega)⟩
 by_cases h2 : (a : Int) = 2
 · right; refine ⟨72, by simp [h2], enters_of Tryz.func72 (by kernel_rfl) rfl, fun W hM => ?_⟩
   rw [if_neg h1, if_pos h2]
   exact t_createC W hM hO c hc x hx hx2 hN
 by_cases h3 : (a : Int) = 3 ∨ (a : Int) = 4 ∨ (a : Int) = 5 ∨ (a : Int) = 13 ∨ (a : Int) = 14
 · right; refine ⟨73, by rcases h3 with h | h | h | h | h <;> simp [h], enters_of Tryz.func73 (by kernel_rfl) rfl, fun W hM => ?_⟩
   rw [if_neg h1, if_neg h2, if_pos h3]
   exact t_heldC W hM hO c hc x hx hx2 hN hfd hsz0 hdt
 by_cases h6 : (a : Int) = 6
 · right; refine ⟨74, by simp [h6], enters_of Tryz.func74 (by kernel_rfl) rfl, fun W hM => ?_⟩
   rw [if_neg h1, if_neg h2, if_neg h3, if_pos h6]
   exact t_linkC W hM hO c x hx hx2 hN
 by_cases h7 : (a : Int) = 7 ∨ (a : Int) = 9 ∨ (a : Int) = 10
 · right; refine ⟨75, by rcases h7 with h | h | h <;> simp [h], enters_of Tryz.func75 (by kernel_rfl) rfl, fun W hM => ?_⟩
   rw [if_neg h1, if_neg h2, if_neg h3, if_neg h6, if_pos h7]
   exact t_entryC W hM hO c x hx hx2 hN
 by_cases h8 : (a : Int) = 8
 · right; refine ⟨76, by simp [h8], enters_of Tryz.func76 (by kernel_rfl) rfl, fun W hM => ?_⟩
   rw [if_neg h1, if_neg h2, if_neg h3, if_neg h6, if_neg h7, if_pos h8]
   exact t_renameC W hM hO c x hx hx2 hN
 by_cases h11 : (a : Int) = 11
 · right; refine ⟨77, by simp [h11], enters_of Tryz.func77 (by kernel_rfl) rfl, fun W hM => ?_⟩
   rw [if_neg h1, if_neg h2, if_neg h3, if_neg h6, if_neg h7, if_neg h8, if_pos h11]
   exact t_listC W hM hO c x hx hx2 hN
 by_cases h12 : (a : Int) = 12
 · right; refine ⟨78, by simp [h12], enters_of Tryz.func78 (by kernel_rfl) rfl, fun W hM => ?_⟩
   rw [if_neg h1, if_neg h2, if_neg h3, if_neg h6, if_neg h7, if_neg h8, if_neg h11, if_pos h12]
   exact t_statC W hM hO c x hx hx2 hN
 · left
   have e3 : (a : Int) ≠ 3 := fun e => h3 (.inl e)
   have e4 : (a : Int) ≠ 4 := fun e => h3 (.inr (.inl e))
   have e5 : (a : Int) ≠ 5 := fun e => h3 (.inr (.inr (.inl e)))
   have e13 : (a : Int) ≠ 13 := fun e => h3 (.inr (.inr (.inr (.inl e))))
   have e14 : (a : Int) ≠ 14 := fun e => h3 (.inr (.inr (.inr (.inr e))))
   have e7 : (a : Int) ≠ 7 := fun e => h7 (.inl e)
   have e9 : (a : Int) ≠ 9 := fun e => h7 (.inr (.inl e))
   have e10 : (a : Int) ≠ 10 := fun e => h7 (.inr (.inr e))
   refine ⟨by simp [h1, h2, e3, e4, e5, h6, e7, h8, e9, e10, h11, h12, e13, e14], ?_⟩
   rw [if_neg h1, if_neg h2, if_neg h3, if_neg h6, if_neg h7, if_neg h8, if_neg h11, if_neg h12]
set_option maxRecDepth 100000 in
set_option maxHeartbeats 2000000 in
theorem t_doM (w : World) (h : ModM w F P Pt Pf N y m) (hO : m.Ok) (core : Int) (x : Cx) (a : Nat) (hxa : x.act = a) (ha : a ≤ 255) (hx : x.path.size ≤ maxLen) (hx2 : x.path2.size ≤ maxLen) (hdt : x.data.size ≤ maxLen) (hsz0 : 0 ≤ x.size) (hN : N ≤ 50000) (hK : KindsAt w) :
  Calls Tryz.prog 12 #[.pointer (some ⟨P, 0, none⟩), .int .i64 core, callV x] w (ResP w F P Pt Pf (N + 2) m.t (doM m core x)) := by
 obtain ⟨act, p1, p2, fd, pg, sz, dt⟩ := x
 have hact : act = (a : Int) := hxa
 subst hact
 have hlt := h.lt
 obtain ⟨W1, hW1, hX, hZ, hsz, hB1⟩ := two_blocks w #[.int .u8 (a : Int), .string p1, .string p2, .int .i64 fd, .int .i64 pg, .int .u32 sz, .string dt] #[.int .i64 0, .int .i64 0, .int .u32 0, .int .u32 0, .int .u8 0, .int .i64 0, .int .u32 0, .slice none 0 0, .string ⟨#[]⟩] 31 39
 have hM : ModM W1 F P Pt Pf N y m := h.below hB1
 have hp1 : p1.size ≤ maxLen := hx
 have hp2 : p2.size ≤ maxLen := hx2
 have hdt1 : dt.size ≤ maxLen := hdt
 have hsz1 : 0 ≤ sz := hsz0
 have hk1 := hK.below hB1 hK.pos
 obtain ⟨ce, hce⟩ : ∃ ce, checkC ⟨a, p1, p2, fd, pg, sz, dt⟩ = ce := ⟨_, rfl⟩
 have HCK := zz (show ∀ W, Below W1.heap.size W1 W → Calls Tryz.prog 44 #[.agg #[.int .u8 (a : Int), .string p1, .string p2, .int .i64 fd, .int .i64 pg, .int .u32 sz, .string dt]] W fun e w' => e = .returned (.int .i64 ce) ∧ Below W.heap.size W w' from fun W hb => by
  have := t_callCheck ⟨a, p1, p2, fd, pg, sz, dt⟩ a rfl ha hp1 hp2 W (hk1.below hb (by have := hk1.pos; omega))
  rw [hce] at this
  exact this)
 have HM := zz hM
 have HB1 := zz hB1
 have HZ := zz hZ
 have HX := zz hX
 have HLT := zz hlt
 have HO := zz hO
 have HMG := zz (show ∀ W, Below W1.heap.size W1 W → ModM W F P Pt Pf N y m from fun W hb => HM.out.below hb)
 have HXG := zz (show ∀ W, Below W1.heap.size W1 W → W.heap[w.heap.size]? = some (.cells #[.int .u8 (a : Int), .string p1, .string p2, .int .i64 fd, .int .i64 pg, .int .u32 sz, .string dt] 31 (0, 0)) from fun W hb => (hb.block _ (Array.getElem?_eq_some_iff.1 HX.out).1).trans HX.out)
 have HZG := zz (show ∀ W, Below W1.heap.size W1 W → W.heap[w.heap.size + 1]? = some (.cells #[.int .i64 0, .int .i64 0, .int .u32 0, .int .u32 0, .int .u8 0, .int .i64 0, .int .u32 0, .slice none 0 0, .string ⟨#[]⟩] 39 (0, 0)) from fun W hb => (hb.block _ (Array.getElem?_eq_some_iff.1 HZ.out).1).trans HZ.out)
 obtain ⟨rr, hrr⟩ : ∃ rr, doM m core ⟨a, p1, p2, fd, pg, sz, dt⟩ = rr := ⟨_, rfl⟩
 rw [hrr]
 have HRR := zz hrr
 have HCE := zz hce
 have cm2 := hM.c2
 have x0 : W1.cell? ⟨w.heap.size, 0, none⟩ = some (.int .u8 (a : Int)) := by simp [World.cell?, HX.out]
 have x1 : W1.cell? ⟨w.heap.size, 1, none⟩ = some (.string p1) := by simp [World.cell?, HX.out]
 have x2 : W1.cell? ⟨w.heap.size, 2, none⟩ = some (.string p2) := by simp [World.cell?, HX.out]
 have x3 : W1.cell? ⟨w.heap.size, 3, none⟩ = some (.int .i64 fd) := by simp [World.cell?, HX.out]
 have x4 : W1.cell? ⟨w.heap.size, 4, none⟩ = some (.int .i64 pg) := by simp [World.cell?, HX.out]
 have x5 : W1.cell? ⟨w.heap.size, 5, none⟩ = some (.int .u32 sz) := by simp [World.cell?, HX.out]
 have x6 : W1.cell? ⟨w.heap.size, 6, none⟩ = some (.string dt) := by simp [World.cell?, HX.out]
 show Calls Tryz.prog 12 #[.pointer (some ⟨P, 0, none⟩), .int .i64 core, .agg #[.int .u8 (a : Int), .string p1, .string p2, .int .i64 fd, .int .i64 pg, .int .u32 sz, .string dt]] w _
 clear hxa hx hx2 hdt hsz0 h hO hlt hM hX hZ hsz hB1 hK hk1 hrr hce
 by_cases hc1 : core < 0
 · have HE2 := zz (show rr = (wrongR 2, m) from by rw [← HRR.out]; unfold doM; rw [if_pos (.inl hc1)])
   go_enter Tryz.func12, Tryz.ntmps12
   go_wp2_with (first
    | (go_at_call 43; (with_reducible refine (t_wrongR _ _).mono ?_)
       rintro e w3 ⟨rfl, hb3⟩
       have HB3 : Hid (ModB W1 w3 F P Pt Pf (N + 2) _) := (HM.out.keepB hb3).mono (by omega)
       have hz3 := HB3.out.box HLT.out (by omega) HZ.out
       have HZ3 := zz hz3
       obtain ⟨z0, z1, z2, z3, z4, z5, z6, z7, z8, f0, f1, f2, f3, f4, f5, f6, f7, f8⟩ := resZ hz3
       clear hb3 hz3))
   rw [HE2.out]
   exact ret_res rfl rfl HB3.out HB1.out HLT.out (by omega) rfl HZ.out HZ3.out rfl rfl
 · by_cases hc2 : m.n ≤ core
   · have HE2 := zz (show rr = (wrongR 2, m) from by rw [← HRR.out]; unfold doM; rw [if_pos (.inr hc2)])
     go_enter Tryz.func12, Tryz.ntmps12
     go_wp2_with (first
      | (go_at_call 43; (with_reducible refine (t_wrongR _ _).mono ?_)
         rintro e w3 ⟨rfl, hb3⟩
         have HB3 : Hid (ModB W1 w3 F P Pt Pf (N + 2) _) := (HM.out.keepB hb3).mono (by omega)
         have hz3 := HB3.out.box HLT.out (by omega) HZ.out
         have HZ3 := zz hz3
         obtain ⟨z0, z1, z2, z3, z4, z5, z6, z7, z8, f0, f1, f2, f3, f4, f5, f6, f7, f8⟩ := resZ hz3
         clear hb3 hz3))
     rw [HE2.out]
     exact ret_res rfl rfl HB3.out HB1.out HLT.out (by omega) rfl HZ.out HZ3.out rfl rfl
   · by_cases hce : ce = 0
     · have hce2 : (ce != 0) = false := by simp [hce]
       obtain ⟨c, hcc⟩ : ∃ c : Nat, core = c := ⟨core.toNat, by omega⟩
       subst hcc
       have hc : (c : Int) < m.n := by omega
       have HE1 := zz (show rr = deedM m c ⟨a, p1, p2, fd, pg, sz, dt⟩ from by
        rw [← HRR.out]
        unfold doM
        rw [if_neg (by omega), if_neg (by rw [HCE.out]; exact fun e => e hce)]
        rfl)
       have hchk := check_fd (show checkC ⟨a, p1, p2, fd, pg, sz, dt⟩ = 0 from by rw [HCE.out]; exact hce)
       have HCHK := zz hchk
       have hdc := deed_call (F := F) (P := P) (Pt := Pt) (Pf := Pf) (y := y) HO.out c hc ⟨a, p1, p2, fd, pg, sz, dt⟩ a rfl hp1 hp2 hchk.1 hdt1 hsz1 hN
       obtain ⟨s0, s1, s2, s3, hst⟩ := deed_stat4 (m := m) c ⟨a, p1, p2, fd, pg, sz, dt⟩
       obtain ⟨kc, ib, hki⟩ : ∃ kc ib, ((deedsM (.int .u8 (a : Int))).getD (.agg #[.nilFunc]) = .agg #[kc]) ∧ (deedsM (.int .u8 (a : Int))).isSome = ib ∧ kc.oneCell' = true ∧ (ib = false → rr = (wrongR 0, m)) ∧ (ib = true → ∃ g, kc = .func (.func g) #[] #[] ∧ (∀ args W, (callFunc g args).run Tryz.prog W = .ok (.enter g args) W) ∧ ∀ W, ModM W F P Pt Pf N y m → Calls Tryz.prog g #[.pointer (some ⟨P, 0, none⟩), .int .i64 c, .agg #[.int .u8 (a : Int), .string p1, .string p2, .int .i64 fd, .int .i64 pg, .int .u32 sz, .string dt]] W fun e w' => ∃ A n cc, e = .returned (.agg #[.int .i64 rr.1.err, .int .i64 rr.1.fd, .int .u32 rr.1.ino, .int .u32 s0, .int .u8 s1, .int .i64 s2, .int .u32 s3, .slice A n cc, .string rr.1.data]) ∧ ListV m.t W.heap.size w' rr.1.ls (.slice A n cc) ∧ ModB W w' F P Pt Pf (N + 2) rr.2) := by
        rcases hdc with ⟨h1, h2⟩ | ⟨g, h1, h2, h3⟩
        · refine ⟨.nilFunc, false, by show (deedO a).getD _ = _; rw [h1]; rfl, by show (deedO a).isSome = _; rw [h1]; rfl, rfl, fun _ => (by rw [HE1.out, h2]), fun e => (by cases e)⟩
        · refine ⟨.func (.func g) #[] #[], true, by show (deedO a).getD _ = _; rw [h1]; rfl, by show (deedO a).isSome = _; rw [h1]; rfl, rfl, fun e => (by cases e), fun _ => ⟨g, rfl, h2, fun W hM => (h3 W hM).mono fun e w' hp => ?_⟩⟩
          rw [HE1.out]
          exact hp.four hst
       obtain ⟨hk1, hk2, hk5, hk3, hk4⟩ := hki
       have HK5 := zz hk5
       have HST := zz (show statCells rr.1.stat = [.int .u32 s0, .int .u8 s1, .int .i64 s2, .int .u32 s3] from by rw [HE1.out]; exact hst)
       have HLK := zz (show ∀ (b : Nat) (W : World), MapAt W Tryz.prog 5 b 14 deedsM → (Instr.lookup 93 (.map (some b)) (.int .u8 (a : Int)) true).run Tryz.prog W = .ok (.tuple #[.agg #[kc], .bool ib]) W from fun b W hm => by
        have := hm.look_ok dlaw8 Tryz.underlying93 (zeroDeed W) (dkey8 (i := (a : Int)) (by omega))
        rw [hk1, hk2] at this
        exact this)
       have HK3 := zz hk3
       have HK4 := zz hk4
       clear hchk hce hdc hk1 hk2 hk3 hk4 hk5 hst
       go_enter Tryz.func12, Tryz.ntmps12
       go_wp2_with (first
        | (go_at_call 44; (with_reducible refine (HCK.out _ (Below.refl _ _)).mono ?_); rintro e w2 ⟨rfl, hb2⟩; have HB2 := zz hb2; clear hb2))
       refine wp_region_st (fun n W => Below w2.heap.size w2 W) (fun W W2 => Below W.heap.size W W2) (RelD kc) [8] (phi [isDeeds, isV (.pointer (some ⟨w.heap.size, 0, none⟩)), isV (.int .u8 (a : Int)), isV (.tuple #[.agg #[kc], .bool ib]), isV (.tuple #[.agg #[kc], .bool ib]), isV (.agg #[kc]), isV (.bool ib), isD w2.heap.size kc, isDk w2.heap.size kc, isV (.bool ib)]) (by kernel_rfl) (by kernel_rfl) (by kernel_rfl) (by kernel_rfl) (by kernel_rfl) (below_drew _) (fun _ _ _ h hb => ptrans h hb) (fun _ _ h => RelD.of h) ?_ ?_ ?_
       · refine stays_phiR ?_
         simp only [List.forall_mem_cons]
         exact ⟨isDeeds.stay, kv, kv, kv, kv, kv, kv, isD.stay, isDk.stay, kv, fun _ h => absurd h (by simp)⟩
       · refine ⟨?_, ?_, ?_, ?_, ?_, ?_, ?_, ?_, ?_, ?_, trivial⟩
         · refine opS_mk rfl rfl fun aa W2 nJ hJ hp hq K hK => ?_
           clear hp hq
           go_simp
           refine (t_deeds W2).mono ?_
           rintro e w9 ⟨b, rfl, hm, hb, _⟩
           exact hK _ _ hb ⟨b, rfl, hm⟩
         · refine opS_mk rfl rfl fun aa W2 nJ hJ hp hq K hK => ?_
           have e5 : aa.tmps[5]?.getD undef = .pointer (some ⟨w.heap.size, 0, none⟩) := hp 5 (by kernel_rfl)
           clear hp hq
           go_simp
           exact hK _ _ (RelB.refl _) rfl
         · refine opS_mk rfl rfl fun aa W2 nJ hJ hp hq K hK => ?_
           have e34 : aa.tmps[34]?.getD undef = .pointer (some ⟨w.heap.size, 0, none⟩) := hq 1 _ (by kernel_rfl) rfl
           have hB : Below w2.heap.size w2 W2 := hJ
           have hx2 := HXG.out _ (ptrans HB2.out hB)
           have c0 : W2.cell? ⟨w.heap.size, 0, none⟩ = some (.int .u8 (a : Int)) := by simp [World.cell?, hx2]
           clear hp hq
           go_simp
           exact hK _ _ (RelB.refl _) rfl
         · refine opS_mk rfl rfl fun aa W2 nJ hJ hp hq K hK => ?_
           have e35 : aa.tmps[35]?.getD undef = .int .u8 (a : Int) := hq 2 _ (by kernel_rfl) rfl
           obtain ⟨bq, e33, hm⟩ : isDeeds (aa.tmps[33]?.getD undef) W2 := hq 0 _ (by kernel_rfl) rfl
           have hlk := HLK.out bq W2 hm
           clear hp hq
           go_simp
           exact hK _ _ (Below.refl _ _) rfl
         · refine opS_mk rfl rfl fun aa W2 nJ hJ hp hq K hK => ?_
           have e36 : aa.tmps[36]?.getD undef = .tuple #[.agg #[kc], .bool ib] := hq 3 _ (by kernel_rfl) rfl
           clear hp hq
           go_simp
           exact hK _ _ (RelB.refl _) rfl
         · refine opS_mk rfl rfl fun aa W2 nJ hJ hp hq K hK => ?_
           have e32 : aa.tmps[32]?.getD undef = .tuple #[.agg #[kc], .bool ib] := hq 4 _ (by kernel_rfl) rfl
           clear hp hq
           go_simp
           exact hK _ _ (RelB.refl _) rfl
         · refine opS_mk rfl rfl fun aa W2 nJ hJ hp hq K hK => ?_
           have e32 : aa.tmps[32]?.getD undef = .tuple #[.agg #[kc], .bool ib] := hq 4 _ (by kernel_rfl) rfl
           clear hp hq
           go_simp
           exact hK _ _ (RelB.refl _) rfl
         · refine opS_mk rfl rfl fun aa W2 nJ hJ hp hq K hK => ?_
           have hsJ := (show Below w2.heap.size w2 W2 from hJ).size
           have hz := zeroDeed
           clear hp hq
           go_simp
           exact hK _ _ ((Below.refl _ _).alloc (Nat.le_refl _) _) ⟨_, rfl, hsJ, .inl (heap_alloc_new _ _)⟩
         · refine opS_at (m := 0) rfl rfl fun aa W2 hJ hp hq K hK => ?_
           have e37 : aa.tmps[37]?.getD undef = .agg #[kc] := hq 5 _ (by kernel_rfl) rfl
           have hj : Below w2.heap.size w2 W2 := hJ
           obtain ⟨B, e8, hG, hBc⟩ : isD w2.heap.size kc (aa.tmps[8]?.getD undef) W2 := hq 7 _ (by kernel_rfl) rfl
           obtain ⟨v0, hv0⟩ : ∃ v0, W2.heap[B]? = some (.cells #[v0] 91 (0, 0)) := by rcases hBc with h | h; exact ⟨_, h⟩; exact ⟨_, h⟩
           have cc : W2.cell? ⟨B, 0, none⟩ = some v0 := by simp [World.cell?, hv0]
           have ff : W2.frozen? ⟨B, 0, none⟩ = false := by simp [World.frozen?, hv0]
           have hK3 := hK undef _ (RelD.set (kc := kc) hv0) (hj.setCell (p := ⟨B, 0, none⟩) hG kc) (by show isDk _ _ (aa.tmps[8]?.getD undef) _; rw [e8]; exact ⟨B, rfl, hG, oheap_set _ _ _ _ _ hv0⟩)
           clear hp hq
           have hth : W2.there B 0 1 := fun j hj => by
            have : j = 0 := by omega
            subst this
            exact ⟨by rw [Nat.zero_add, cc]; rfl, by rw [Nat.zero_add]; exact ff⟩
           exact wp_store_mid 91 (.tmp 8) (.tmp 37) rfl B 0 #[kc] ((eval_slot aa 8).trans e8) ((eval_slot aa 37).trans e37) hth (by kernel_rfl) (by simp [HK5.out]) hK3
         · refine opS_mk rfl rfl fun aa W2 nJ hJ hp hq K hK => ?_
           have e38 : aa.tmps[38]?.getD undef = .bool ib := hq 6 _ (by kernel_rfl) rfl
           clear hp hq
           go_simp
           exact hK _ _ (RelB.refl _) rfl
       · intro vs W9 hJ9 hv9 hst9
         have v9 : vs 9 = .bool ib := hv9 9 _ rfl rfl
         obtain ⟨B, v7, hG, hB3⟩ : isDk w2.heap.size kc (vs 7) W9 := hst9 8 _ 8 7 _ rfl rfl rfl rfl rfl
         have HB9 := zz (ptrans HB2.out hJ9)
         have kB : W9.cell? ⟨B, 0, none⟩ = some kc := by simp [World.cell?, hB3]
         have HM9 := zz (HMG.out _ HB9.out)
         have hx9 := HXG.out _ HB9.out
         have y0 : W9.cell? ⟨w.heap.size, 0, none⟩ = some (.int .u8 (a : Int)) := by simp [World.cell?, hx9]
         have y1 : W9.cell? ⟨w.heap.size, 1, none⟩ = some (.string p1) := by simp [World.cell?, hx9]
         have y2 : W9.cell? ⟨w.heap.size, 2, none⟩ = some (.string p2) := by simp [World.cell?, hx9]
         have y3 : W9.cell? ⟨w.heap.size, 3, none⟩ = some (.int .i64 fd) := by simp [World.cell?, hx9]
         have y4 : W9.cell? ⟨w.heap.size, 4, none⟩ = some (.int .i64 pg) := by simp [World.cell?, hx9]
         have y5 : W9.cell? ⟨w.heap.size, 5, none⟩ = some (.int .u32 sz) := by simp [World.cell?, hx9]
         have y6 : W9.cell? ⟨w.heap.size, 6, none⟩ = some (.string dt) := by simp [World.cell?, hx9]
         have HZ9 := zz (HZG.out _ HB9.out)
         clear hJ9 hv9 hst9 hx9 hB3
         simp only [putAll, Act.put, List.setIfInBounds_toArray, List.set_cons_succ, List.set_cons_zero, Nat.zero_add, Nat.reduceAdd, v7, v9]
         cases ib with
         | false =>
          have HE2 := zz (HK3.out rfl)
          have HB3 : Hid (ModB W1 W9 F P Pt Pf (N + 2) m) := (HM.out.keepB HB9.out).mono (by omega)
          obtain ⟨z0, z1, z2, z3, z4, z5, z6, z7, z8, f0, f1, f2, f3, f4, f5, f6, f7, f8⟩ := resZ HZ9.out
          go_wp2
          rw [HE2.out]
          exact ret_res rfl rfl HB3.out HB1.out HLT.out (by omega) rfl HZ.out HZ9.out rfl rfl
         | true =>
          obtain ⟨g, rfl, eg, hg⟩ := HK4.out rfl
          have HG := zz hg
          clear hg
          go_wp2_with (first
           | (go_at_fn g; refine (HG.out _ HM9.out).mono ?_; rintro e w5 ⟨A, n, cc, rfl, hl, hB5⟩
              have HL := zz hl
              have HB3 := zz (hB5.later HB9.out)
              have hz3 := HB3.out.box HLT.out (by omega) HZ.out
              have HZ3 := zz hz3
              obtain ⟨z0, z1, z2, z3, z4, z5, z6, z7, z8, f0, f1, f2, f3, f4, f5, f6, f7, f8⟩ := resZ hz3
              have HS9 := zz (show w.heap.size + 1 < W9.heap.size from (Array.getElem?_eq_some_iff.1 HZ9.out).1)
              clear hl hB5 hz3))
          exact ret_res3 (r := rr.1) (m := rr.2) (lv := .slice A n cc) rfl rfl HB3.out HB1.out HLT.out (by omega) rfl HZ.out (grown_refl _ _) HZ3.out (fun W8 hg8 => lists_grown HL.out hg8 HS9.out (Nat.le_trans HB1.out.size HB9.out.size)) (by unfold resCells; rw [HST.out]; rfl)
     · have hce2 : (ce != 0) = true := by simpa using hce
       have HE2 := zz (show rr = (wrongR ce, m) from by rw [← HRR.out]; unfold doM; rw [if_neg (by omega), if_pos (by rw [HCE.out]; exact hce), HCE.out])
       clear hce
       go_enter Tryz.func12, Tryz.ntmps12
       go_wp2_with (first
        | (go_at_call 44; (with_reducible refine (HCK.out _ (Below.refl _ _)).mono ?_); rintro e w2 ⟨rfl, hb2⟩; have HB2 := zz hb2; clear hb2)
        | (go_at_call 43; (with_reducible refine (t_wrongR _ _).mono ?_)
           rintro e w3 ⟨rfl, hb3⟩
           have HB3 : Hid (ModB W1 w3 F P Pt Pf (N + 2) _) := (HM.out.keepB (ptrans HB2.out hb3)).mono (by omega)
           have hz3 := HB3.out.box HLT.out (by omega) HZ.out
           have HZ3 := zz hz3
           obtain ⟨z0, z1, z2, z3, z4, z5, z6, z7, z8, f0, f1, f2, f3, f4, f5, f6, f7, f8⟩ := resZ hz3
           clear hb3 hz3))
       rw [HE2.out]
       exact ret_res rfl rfl HB3.out HB1.out HLT.out (by omega) rfl HZ.out HZ3.out rfl rfl
end
end

section
open Go.RowKit Go.Maps
def Ft (P : Nat) (y : Lay) (t : PT) (b : Nat) : Prop := b = P ∨ b = y.M ∨ ∃ i x, t.n i = some x ∧ (b = y.f i ∨ b = y.L i ∨ b = y.G i)
theorem Ft.sub {w : World} {F : Nat → Prop} {P N : Nat} {y : Lay} {t : PT} (h : TreeM w F P N y t) : ∀ b, Ft P y t b → F b := by
 rintro b (rfl | rfl | ⟨i, x, hx, h1⟩)
 · exact h.fP
 · exact h.fM
 · obtain ⟨f1, f2, f3⟩ := h.foot i x hx
   rcases h1 with rfl | rfl | rfl
   · exact f1
   · exact f2
   · exact f3
theorem TreeM.tight {w : World} {F : Nat → Prop} {P N : Nat} {y : Lay} {t : PT} (h : TreeM w F P N y t) : TreeM w (Ft P y t) P N y t :=
 { h with
  fP := .inl rfl
  fM := .inr (.inl rfl)
  foot := fun i x hx => ⟨.inr (.inr ⟨i, x, hx, .inl rfl⟩), .inr (.inr ⟨i, x, hx, .inr (.inl rfl)⟩), .inr (.inr ⟨i, x, hx, .inr (.inr rfl)⟩)⟩
  lt := fun b hb => h.lt b (Ft.sub h b hb) }
theorem Ft.not {w : World} {F : Nat → Prop} {P N : Nat} {y : Lay} {t : PT} (h : TreeM w F P N y t) {b : Nat} {cs : Array Value} {T : TypeId} {fr : Nat × Nat} (hb : w.heap[b]? = some (.cells cs T fr)) (h1 : T ≠ 109) (h2 : T ≠ 115) : ¬ Ft P y t b := by
 rintro (rfl | rfl | ⟨i, x, hx, h3⟩)
 · rw [h.head] at hb; cases hb; exact h1 rfl
 · obtain ⟨es, c, hm⟩ := h.nodes.isMap
   rw [hm] at hb; cases hb
 · have hn := h.node i x hx
   rcases h3 with rfl | rfl | rfl
   · rw [hn.cells] at hb; cases hb; exact h2 rfl
   · obtain ⟨es, c, hm⟩ := hn.ents.isMap
     rw [hm] at hb; cases hb
   · obtain ⟨es, c, hm⟩ := hn.pages.isMap
     rw [hm] at hb; cases hb
section
variable {F : Nat → Prop} {P Pt Pf N : Nat} {y : Lay} {m : MD}
theorem mod_of {w : World} {F : Nat → Prop} (hT : TreeM w F Pt N y m.t) (hf : Tab w Pf m.T m.n) (hP : w.heap[P]? = some (.cells #[.pointer (some ⟨Pt, 0, none⟩), .pointer (some ⟨Pf, 0, none⟩), .int .i64 m.n] 85 (0, 0))) : ModM w (Ft Pt y m.t) P Pt Pf N y m := by
 obtain ⟨cs, h1, _⟩ := hf.ex
 refine ⟨hP, hT.tight, hf, Ft.not hT hP (by decide) (by decide), Ft.not hT h1 (by decide) (by decide), fun e => ?_⟩
 rw [e, h1] at hP
 cases hP
set_option maxRecDepth 100000 in
set_option maxHeartbeats 1000000 in
theorem t_newM (r n : Int) (w : World) (h1 : 2 ≤ r) (h2 : r ≤ 256) (h3 : 1 ≤ n) (h4 : n ≤ 8) :
  Calls Tryz.prog 10 #[.int .i64 r, .int .i64 n] w fun e w' => ∃ P Pt Pf, e = .returned (.tuple #[.pointer (some ⟨P, 0, none⟩), .int .i64 0]) ∧ ∃ y F, ModM w' F P Pt Pf 1 y ⟨newT r, fun _ => 0, n⟩ ∧ (⟨newT r, fun _ => 0, n⟩ : MD).Ok ∧ (∀ b, Fm F P Pf b → w.heap.size ≤ b) ∧ w.heap.size ≤ w'.heap.size ∧ Below w.heap.size w w' := by
 have HN := zz (fun W => t_new r W h1 h2)
 have HF := zz (fun W => fds_new_ok n h3 h4 W)
 have HO : Hid ((⟨newT r, fun _ => 0, n⟩ : MD).Ok) := HoldOk.new r h1 h2 h3 h4
 clear h1 h2 h3 h4
 go_enter Tryz.func10, Tryz.ntmps10
 go_wp2_with (first
  | (go_at_call 39; refine (HN.out _).mono ?_; rintro e w2 ⟨Pt, y, F, rfl, hT, hb, hF⟩
     have HT := zz hT
     have HB := zz hb
     have HFF := zz hF
     clear hT hb hF)
  | (go_at_call 40; refine (HF.out _).mono ?_; rintro e w3 ⟨rfl, rfl⟩))
 go_ret2
 refine ⟨_, Pt, w2.heap.size, rfl, y, _, mod_of (m := ⟨newT r, fun _ => 0, n⟩) ((HT.out.below ((Below.refl _ _).alloc (Nat.le_refl _) _)).below ((Below.refl _ _).alloc (Nat.le_refl _) _)) ((Tab.new w2 n).alloc _) (by rw [show w2.heap.size + 1 = (w2.alloc (.cells (zTab.setIfInBounds 128 (.int .i64 n)) 146)).heap.size by simp]; exact heap_alloc_new _ _), HO.out, ?_, by simp; have := HB.out.size; omega, ((HB.out.alloc HB.out.size _).alloc (by have := HB.out.size; simp; omega) _)⟩
 have hs := HB.out.size
 rintro b (h1 | rfl | rfl)
 · exact HFF.out b (Ft.sub HT.out b h1)
 · omega
 · exact hs
end
end

section
open Go.RowKit Go.Maps
def KeptL (L : List (Nat × Obj)) (G : Nat → Prop) (w : World) : Prop := ∀ p ∈ L, w.heap[p.1]? = some p.2 ∧ ¬ G p.1
section
variable {L : List (Nat × Obj)} {G G' : Nat → Prop} {w w' : World}
theorem KeptL.below (h : KeptL L G w) (hb : Below w.heap.size w w') : KeptL L G w' := fun p hp => ⟨(hb.block _ (Array.getElem?_eq_some_iff.1 (h p hp).1).1).trans (h p hp).1, (h p hp).2⟩
theorem KeptL.nil : KeptL [] G w := fun p hp => absurd hp (by simp)
end
def MOwn (B : Nat) (w1 : World) (P Pt Pf N : Nat) (m : MD) (L : List (Nat × Obj)) (w : World) : Prop := ∃ y F, ModM w F P Pt Pf N y m ∧ m.Ok ∧ (∀ b, Fm F P Pf b → B ≤ b) ∧ B ≤ w.heap.size ∧ Below B w1 w ∧ KeptL L (Fm F P Pf) w
section
variable {B P Pt Pf P2 Pt2 Pf2 N N' : Nat} {w1 w w' : World} {m m2 : MD} {L : List (Nat × Obj)}
theorem MOwn.below (h : MOwn B w1 P Pt Pf N m L w) (hb : Below w.heap.size w w') : MOwn B w1 P Pt Pf N m L w' := by
 obtain ⟨y, F, hM, hO, hF, hs, hB, hL⟩ := h
 exact ⟨y, F, hM.below hb, hO, hF, Nat.le_trans hs hb.size, hB.trans (hb.mono hs), hL.below hb⟩
theorem MOwn.mono (h : MOwn B w1 P Pt Pf N m L w) (hN : N ≤ N') : MOwn B w1 P Pt Pf N' m L w := by
 obtain ⟨y, F, hM, h2⟩ := h
 exact ⟨y, F, hM.mono hN, h2⟩
theorem MOwn.mem (h : MOwn B w1 P Pt Pf N m L w) : Below B w1 w := by
 obtain ⟨y, F, _, _, _, _, hB, _⟩ := h
 exact hB
theorem MOwn.base (h : MOwn B w1 P Pt Pf N m L w) : B ≤ w.heap.size := by
 obtain ⟨y, F, _, _, _, hs, _, _⟩ := h
 exact hs
structure Cx.Fits (x : Cx) : Prop where
 act : ∃ a : Nat, x.act = a ∧ a ≤ 255
 path : x.path.size ≤ maxLen
 path2 : x.path2.size ≤ maxLen
 data : x.data.size ≤ maxLen
 size : 0 ≤ x.size
end
end

section
open Go.RowKit Go.Maps
section
variable {t t3 : PT}
structure Made (t : PT) (d : Int) (s : ByteArray) (k i : Int) (xd : PN) (t1 : PT) : Prop where
 dir : t.n d = some xd
 kind : xd.kind = 2
 free : xd.l s.data.toList = none
 new : t.n i = none
 name : namesE [s] = 0
 node : ∀ j, t1.n j = if j = i then some (inN (newN k) d) else if j = d then some { xd with l := updL xd.l s.data.toList i } else t.n j
 room : t1.room = t.room
 pos : 1 ≤ i
theorem make_made (hW : WellP t) {d k i : Int} {s : ByteArray} (hi : Least t i) (h : (makeP t d s k i).1.2 = 0) : (makeP t d s k i).1.1 = i ∧ ∃ xd, Made t d s k i xd (makeP t d s k i).2 := by
 unfold makeP at *
 by_cases c : (makeQ t d s k i).2 = 0
 · rw [if_pos c] at h ⊢
   refine ⟨rfl, ?_⟩
   show ∃ xd, Made t d s k i xd (makeAtP t d s k i).2
   have h' : (makeAtP t d s k i).1 = 0 := h
   unfold makeAtP at h' ⊢
   by_cases c2 : makeAtE t d s k i = 0
   · rw [if_pos c2]
     have hnew := makeAt_free c2
     unfold makeAtE at c2
     obtain ⟨z0, c2⟩ := firstE_cons c2
     obtain ⟨_, c2⟩ := firstE_cons c2
     obtain ⟨_, c2⟩ := firstE_cons c2
     obtain ⟨z, c2⟩ := firstE_cons c2
     obtain ⟨z2, c2⟩ := firstE_cons c2
     obtain ⟨z3, _⟩ := firstE_cons c2
     obtain ⟨xd, hd⟩ := Option.isSome_iff_exists.1 (there_one z)
     have hkd : xd.kind = 2 := by
      unfold dirsE isFile at z2
      simp [hd] at z2
      exact z2
     refine ⟨xd, hd, hkd, hW.free_of hd z3, hnew, z0, fun j => ?_, ?_, hi.1⟩
     · show (makeT t d s k i).n j = _
       unfold makeT
       rw [hd]
       simp only
       rw [enter_n]
       by_cases e1 : j = i
       · rw [if_pos e1, if_pos e1]
       · rw [if_neg e1, if_neg e1]
         by_cases e2 : j = d
         · rw [if_pos e2, if_pos e2]
         · rw [if_neg e2, if_neg e2, PT.set_n, if_neg e1]
     · show (makeT t d s k i).room = _
       unfold makeT
       rw [hd]
       rfl
   · rw [if_neg c2] at h'; exact absurd h' c2
 · rw [if_neg c] at h; exact absurd h c
structure Stands (t : PT) (d : Int) (s : ByteArray) (i : Int) (xd y : PN) (t1 : PT) : Prop where
 dir : t.n d = some xd
 kind : xd.kind = 2
 free : xd.l s.data.toList = none
 new : t.n i = none
 name : namesE [s] = 0
 node : ∀ j, t1.n j = if j = i then some y else if j = d then some { xd with l := updL xd.l s.data.toList i } else t.n j
 room : t1.room = t.room
 pos : 1 ≤ i
section
variable {d i k : Int} {s : ByteArray} {xd y : PN} {t1 : PT}
theorem Made.stands (h : Made t d s k i xd t1) : Stands t d s i xd (inN (newN k) d) t1 := ⟨h.dir, h.kind, h.free, h.new, h.name, h.node, h.room, h.pos⟩
theorem Stands.put {y' : PN} (h : Stands t d s i xd y t1) : Stands t d s i xd y' (t1.set i y') :=
 ⟨h.dir, h.kind, h.free, h.new, h.name, fun j => by
  rw [PT.set_n, h.node]
  by_cases c : j = i
  · rw [if_pos c, if_pos c]
  · rw [if_neg c, if_neg c, if_neg c], h.room, h.pos⟩
theorem Stands.at_ (h : Stands t d s i xd y t1) : t1.n i = some y := by rw [h.node, if_pos rfl]
end
end
abbrev ba0 : ByteArray := ByteArray.empty
def callP (act : Int) (s : ByteArray) : Cx := ⟨act, s, ba0, 0, 0, 0, ba0⟩
theorem doM_ok {m : MD} {core : Int} {x : Cx} (h1 : 0 ≤ core) (h2 : core < m.n) (h3 : checkC x = 0) : doM m core x = deedM m core.toNat x := by
 unfold doM
 rw [if_neg (by omega), if_neg (fun e => e h3)]
end

section
open Go.RowKit Go.Maps
abbrev sla : ByteArray := { data := #[47, 97] }
theorem least_only {t : PT} {m : Int} (h : Least t m) {k : Int} (h1 : 1 ≤ k) (hk : t.n k = none) (h2 : ∀ j, 1 ≤ j → j < k → (t.n j).isSome = true) : m = k := by
 obtain ⟨a1, _, a3, a4⟩ := h
 rcases Int.lt_trichotomy m k with c | c | c
 · have := h2 m a1 c
   rw [a3] at this; cases this
 · exact c
 · have := a4 k h1 c
   rw [hk] at this; cases this
theorem new_n (r j : Int) : (newT r).n j = if j = 1 then some (newN 2) else none := by
 unfold newT
 rw [PT.set_n]
theorem new_least {r : Int} (h1 : 2 ≤ r) (h2 : r ≤ 256) : leastI (newT r) = 2 :=
 least_only (WellP.new r h1 h2).leastI_ (by decide) (by rw [new_n]; rfl) (fun j a b => by rw [new_n, if_pos (by omega)]; rfl)
theorem split_a : splitE sla = ([sa], 0) := by decide +kernel
theorem names_a : namesE [sa] = 0 := by decide +kernel
theorem entry_top {t : PT} {s n : ByteArray} (h : splitE s = ([n], 0)) : entryP t s = ((1, n), 0) := by
 unfold entryP parentE
 rw [h]
 rfl
theorem new_make {r : Int} (h1 : 2 ≤ r) (h2 : r ≤ 256) {s : ByteArray} (hs : namesE [s] = 0) : (makeP (newT r) 1 s 1 2).1.2 = 0 := by
 have hd : (newT r).n 1 = some (newN 2) := by rw [new_n, if_pos rfl]
 have e2 : thereE (newT r) [1] = 0 := by unfold thereE; simp [hd]
 have e3 : dirsE (newT r) [1] = 0 := by unfold dirsE isFile; simp [hd, newN]
 have e4 : freshE' (newT r) 1 s = 0 := by unfold freshE'; rw [hd]; unfold freshE; simp [newN]
 have e5 : haveE (newT r) 2 = 0 := by
  unfold haveE
  rw [new_n, if_neg (by decide)]
 have e6 : roomE (newT r) 2 = 0 := by
  unfold roomE
  rw [if_neg (by show ¬ ((2 : Int) < 1 ∨ r < 2); omega)]
 have q : makeE (newT r) 1 s 1 = 0 := by
  unfold makeE
  rw [hs, e2, e3, e4]
  rfl
 have q2 : makeAtE (newT r) 1 s 1 2 = 0 := by
  unfold makeAtE
  rw [hs, e2, e3, e4, e5, e6]
  rfl
 unfold makeP makeQ
 rw [if_pos q]
 rw [if_neg (show ¬ (newT r).room < 2 by show ¬ r < 2; omega), if_pos rfl]
 unfold makeAtP
 rw [if_pos q2]
theorem new_create {r n : Int} (h1 : 2 ≤ r) (h2 : r ≤ 256) (h3 : 1 ≤ n) (h4 : n ≤ 8) {core : Int} (c1 : 0 ≤ core) (c2 : core < n) {s nm : ByteArray} (hs : splitE s = ([nm], 0)) (hn : namesE [nm] = 0) (hc : checkC (callP 2 s) = 0) :
  ∃ xd y t2, Stands (newT r) 1 nm 2 xd y t2 ∧ (y.kind = 1 ∧ y.links = 1 ∧ y.held = 1 ∧ y.size = 0 ∧ ∀ p, y.pages p = none) ∧
   doM ⟨newT r, fun _ => 0, n⟩ core (callP 2 s) = (⟨0, 0, 2, stat0, none, ba0⟩, ⟨t2, updT (fun _ => 0) (core.toNat * 16) 2, n⟩) := by
 have hk : (⟨newT r, fun _ => 0, n⟩ : MD).Ok := HoldOk.new r h1 h2 h3 h4
 have hl := new_least h1 h2
 have e1 : doM ⟨newT r, fun _ => 0, n⟩ core (callP 2 s) = createM ⟨newT r, fun _ => 0, n⟩ core.toNat (callP 2 s) := by rw [doM_ok c1 c2 hc]; rfl
 have hf : freeFd (fun _ => 0) core.toNat = some 0 := by
  unfold freeFd
  rfl
 have hmk := new_make h1 h2 hn
 obtain ⟨g1, xd, g2⟩ := make_made (WellP.new r h1 h2) (i := 2) (by rw [← hl]; exact (WellP.new r h1 h2).leastI_) hmk
 have hst := g2.stands
 have hat := hst.at_
 have hok := hold_file hat (show (inN (newN 1) 1).kind = 1 from rfl)
 have hT : (holdP (makeP (newT r) 1 nm 1 2).2 2).2 = (makeP (newT r) 1 nm 1 2).2.set 2 { inN (newN 1) 1 with held := (inN (newN 1) 1).held + 1 } := by
  unfold holdP at hok ⊢
  by_cases c4 : holdE (makeP (newT r) 1 nm 1 2).2 2 = 0
  · rw [if_pos c4, hat]
  · rw [if_neg c4] at hok; exact absurd hok c4
 refine ⟨xd, _, _, hst.put (y' := { inN (newN 1) 1 with held := (inN (newN 1) 1).held + 1 }), ⟨rfl, rfl, rfl, rfl, fun _ => rfl⟩, ?_⟩
 rw [e1]
 unfold createM makeM
 have hE : entryP (newT r) s = ((1, nm), 0) := entry_top hs
 show (if (freeFd (fun _ => 0) core.toNat).isNone = true then _ else if (entryP (newT r) s).2 ≠ 0 then _ else if (makeP (newT r) (entryP (newT r) s).1.1 (entryP (newT r) s).1.2 1 (leastI (newT r))).1.2 ≠ 0 then _ else openedM ⟨(makeP (newT r) (entryP (newT r) s).1.1 (entryP (newT r) s).1.2 1 (leastI (newT r))).2, fun _ => 0, n⟩ core.toNat (makeP (newT r) (entryP (newT r) s).1.1 (entryP (newT r) s).1.2 1 (leastI (newT r))).1.1 : Rs × MD) = _
 rw [hE, hl, hf, if_neg (by decide), if_neg (fun e => e rfl), if_neg (fun e => e hmk), g1]
 have ho := opened_ok (m := ⟨(makeP (newT r) 1 nm 1 2).2, fun _ => 0, n⟩) (c := core.toNat) (i := 2) (k := 0) hok hf
 refine ho.trans ?_
 show ((⟨0, ((0 : Nat) : Int), 2, stat0, none, ByteArray.empty⟩ : Rs), (⟨(holdP (makeP (newT r) 1 nm 1 2).2 2).2, updT (fun _ => 0) (core.toNat * 16 + 0) 2, n⟩ : MD)) = _
 rw [hT]
 rfl
theorem check_ca : checkC (callP 2 sla) = 0 := by decide +kernel
end

section
open Go.RowKit Go.Maps
set_option maxRecDepth 100000 in
theorem t_long20 (x : Cx) (w : World) : Calls Tryz.prog 37 #[callV x] w fun e w' => (∃ b : Bool, e = .returned (.bool b)) ∧ Below w.heap.size w w' := by
 obtain ⟨act, p1, p2, fd, pg, sz, dt⟩ := x
 show Calls Tryz.prog 37 #[.agg #[.int .u8 act, .string p1, .string p2, .int .i64 fd, .int .i64 pg, .int .u32 sz, .string dt]] w _
 go_enter Tryz.func37, Tryz.ntmps37
 go_wp2
 go_ret
 exact ⟨⟨_, rfl⟩, (Below.refl _ _).alloc (Nat.le_refl _) _⟩
def isI : Ph := fun v _ => ∃ x : Int, v = .int .i64 x
end

section
open Go.ChangeShapes Go.WideShapes Go.ChangeAt Go.RowKit
abbrev laidK : List (String × DataW Unit) := [("lunette/call.kinds", Rows.laid_lunette_call_kinds)]
theorem cells_kind : Tryz.prog.cellsOf 190 = 2 := by kernel_rfl
theorem cells7_u8 : Tryz.prog.cellsOf 5 = 1 := by kernel_rfl
theorem cells7_u32 : Tryz.prog.cellsOf 29 = 1 := by kernel_rfl
theorem cells7_int : Tryz.prog.cellsOf 3 = 1 := by kernel_rfl
theorem cells7_s : Tryz.prog.cellsOf 9 = 1 := by kernel_rfl
theorem cells_call : Tryz.prog.cellsOf 31 = 7 := by kernel_rfl
theorem at_cell7 {H : Type} {enc : TypeId × Value → H} {w : World} {base n q : Nat} {spare : Nat → Bool} {held : Bool} {T : TypeId} {xs : List (DataW H × List MemPlace)} {cs : List Value} (hc : Tryz.prog.cellsOf T = 1)
  (h : DataW.trod enc Tryz.prog w base spare held n T ((cs.drop q).take (Tryz.prog.cellsOf T)) = xs[q]?) (c : Value) (hq : cs[q]? = some c) (hx : q < xs.length) : ∃ y, DataW.trod enc Tryz.prog w base spare held n T [c] = some y := by
 obtain ⟨h1, rfl⟩ := List.getElem?_eq_some_iff.1 hq
 rw [hc, List.drop_eq_getElem_cons h1, List.take_succ_cons, List.take_zero, List.getElem?_eq_getElem hx] at h
 exact ⟨_, h⟩
theorem at_cell_in {H : Type} {enc : TypeId × Value → H} {w : World} {base n q p : Nat} {spare : Nat → Bool} {held : Bool} {T : TypeId} {xs : List (DataW H × List MemPlace)} {cs : List Value} (hc : Tryz.prog.cellsOf T = 1)
  (h : DataW.trod enc Tryz.prog w base spare held n T ((cs.drop p).take (Tryz.prog.cellsOf T)) = xs[q]?) (c : Value) (hq : cs[p]? = some c) (hx : q < xs.length) : DataW.trod enc Tryz.prog w base spare held n T [c] = some xs[q] := by
 obtain ⟨h1, rfl⟩ := List.getElem?_eq_some_iff.1 hq
 rw [hc, List.drop_eq_getElem_cons h1, List.take_succ_cons, List.take_zero, List.getElem?_eq_getElem hx] at h
 exact h
def kindData : List (DataW Unit) := match (Rows.laid_lunette_call_kinds : DataW Unit) with | .agg l => l | _ => []
theorem kind_at (k : Nat) (hk : k < 16) : ∃ s, kindData[k]? = some (.agg [s, .lit (.int .i64 (hasN k))]) := by
 match k, hk with
 | 0, _ => exact ⟨_, rfl⟩
 | 1, _ => exact ⟨_, rfl⟩
 | 2, _ => exact ⟨_, rfl⟩
 | 3, _ => exact ⟨_, rfl⟩
 | 4, _ => exact ⟨_, rfl⟩
 | 5, _ => exact ⟨_, rfl⟩
 | 6, _ => exact ⟨_, rfl⟩
 | 7, _ => exact ⟨_, rfl⟩
 | 8, _ => exact ⟨_, rfl⟩
 | 9, _ => exact ⟨_, rfl⟩
 | 10, _ => exact ⟨_, rfl⟩
 | 11, _ => exact ⟨_, rfl⟩
 | 12, _ => exact ⟨_, rfl⟩
 | 13, _ => exact ⟨_, rfl⟩
 | 14, _ => exact ⟨_, rfl⟩
 | 15, _ => exact ⟨_, rfl⟩
 | k + 16, h => omega
theorem kind_data : (Rows.laid_lunette_call_kinds : DataW Unit) = .agg kindData := rfl
set_option maxRecDepth 100000 in
theorem kinds_of_laid {W : World} (h : laidMetH Tryz.prog laidK W) : KindsAt W := by
 rw [Go.MakeChecks.laidMetH_plain _ _ _ (by kernel_rfl)] at h
 obtain ⟨ps, ⟨g, t, cs, fuel, p, q, hg, ht, hvar, hd, _, _⟩, _⟩ := h
 obtain rfl : g = 0 := (Option.some.inj ((show Tryz.prog.globalNamed "lunette/call.kinds" = some 0 by kernel_rfl).symm.trans hg)).symm
 obtain rfl : t = 191 := (Option.some.inj ((show (Tryz.prog.globals[0]?).map (·.type) = some 191 by kernel_rfl).symm.trans ht)).symm
 obtain ⟨xs, m, _, hx, hl, hlen, hk⟩ := DataW.trod_array Tryz.underlying191 hd
 rw [cells_kind] at hk
 have hx1 : kindData = xs.map (·.1) := by
  have := congrArg Prod.fst hx
  rw [kind_data] at this
  injection this
 have hcell : ∀ off, W.cell? ⟨0, off, none⟩ = cs[off]? := fun off => by
  unfold World.var? at hvar
  rw [show Tryz.prog.globalNamed "lunette/call.kinds" = some 0 by kernel_rfl] at hvar
  simp only [Option.bind_some] at hvar
  split at hvar
  · rename_i cs' t' fr' hh
    simp only [Option.some.injEq] at hvar
    subst hvar
    simp [World.cell?, hh]
  · cases hvar
 intro k hk16
 obtain ⟨s, hs⟩ := kind_at k hk16
 rw [hx1, List.getElem?_map] at hs
 have hkl : k < xs.length := by rw [hlen]; exact hk16
 rw [List.getElem?_eq_getElem hkl] at hs
 simp only [Option.map_some, Option.some.injEq] at hs
 have hi := hk k hk16
 rw [List.getElem?_eq_getElem hkl] at hi
 obtain ⟨ys, m2, _, hy, hl2, hlen2, hk2⟩ := DataW.trod_struct Tryz.underlying190 hi
 rw [cells_kind] at hl2
 have hy1 : [s, .lit (.int .i64 (hasN k))] = ys.map (·.1) := by
  have := congrArg Prod.fst hy
  rw [hs] at this
  injection this
 have hl3 : ((cs.toList.drop (k * 2)).take 2)[1]? = cs[k * 2 + 1]? := by
  rw [List.getElem?_take_of_lt (by omega), List.getElem?_drop, Array.getElem?_toList]
 have h1 : 1 < ((cs.toList.drop (k * 2)).take 2).length := by rw [hl2]; omega
 rw [List.getElem?_eq_getElem h1] at hl3
 have hf := hk2 1 _ rfl
 have ht := at_cell_in cells7_int hf _ (List.getElem?_eq_getElem h1) (by rw [hlen2]; decide)
 obtain ⟨n, e1, e2, _⟩ := DataW.trod_int Tryz.underlying3 ht
 have e3 : (ys.map (·.1))[1]? = some (.lit (.int .i64 (hasN k))) := by rw [← hy1]; rfl
 rw [List.getElem?_map, List.getElem?_eq_getElem (by rw [hlen2]; decide), e2] at e3
 simp only [Option.map_some, Option.some.injEq, DataW.lit.injEq, Lit.int.injEq, true_and] at e3
 simp only [List.cons.injEq, and_true] at e1
 rw [hcell, ← hl3, e1, e3]
set_option maxRecDepth 100000 in
theorem call_trod {H : Type} {enc : TypeId × Value → H} {w : World} {base n : Nat} {spare : Nat → Bool} {held : Bool} {cs : List Value} {x : DataW H × List MemPlace} (hf : DataW.trod enc Tryz.prog w base spare held n 31 cs = some x) :
  ∃ r : Cx, cs = callCells r ∧ r.Fits := by
 obtain ⟨xs, m, _, _, hl, hlen, hk⟩ := DataW.trod_struct Tryz.underlying31 hf
 rw [cells_call] at hl
 match cs, hl with
 | [c0, c1, c2, c3, c4, c5, c6], _ =>
  obtain ⟨y0, t0⟩ := at_cell7 (cs := [c0, c1, c2, c3, c4, c5, c6]) cells7_u8 (hk 0 _ rfl) c0 rfl (by rw [hlen]; decide)
  obtain ⟨y1, t1⟩ := at_cell7 (cs := [c0, c1, c2, c3, c4, c5, c6]) cells7_s (hk 1 _ rfl) c1 rfl (by rw [hlen]; decide)
  obtain ⟨y2, t2⟩ := at_cell7 (cs := [c0, c1, c2, c3, c4, c5, c6]) cells7_s (hk 2 _ rfl) c2 rfl (by rw [hlen]; decide)
  obtain ⟨y3, t3⟩ := at_cell7 (cs := [c0, c1, c2, c3, c4, c5, c6]) cells7_int (hk 3 _ rfl) c3 rfl (by rw [hlen]; decide)
  obtain ⟨y4, t4⟩ := at_cell7 (cs := [c0, c1, c2, c3, c4, c5, c6]) cells7_int (hk 4 _ rfl) c4 rfl (by rw [hlen]; decide)
  obtain ⟨y5, t5⟩ := at_cell7 (cs := [c0, c1, c2, c3, c4, c5, c6]) cells7_u32 (hk 5 _ rfl) c5 rfl (by rw [hlen]; decide)
  obtain ⟨y6, t6⟩ := at_cell7 (cs := [c0, c1, c2, c3, c4, c5, c6]) cells7_s (hk 6 _ rfl) c6 rfl (by rw [hlen]; decide)
  obtain ⟨x0, e0, _, w0⟩ := DataW.trod_int Tryz.underlying5 t0
  obtain ⟨x1, e1, _, w1⟩ := DataW.trod_string Tryz.underlying9 t1
  obtain ⟨x2, e2, _, w2⟩ := DataW.trod_string Tryz.underlying9 t2
  obtain ⟨x3, e3, _, w3⟩ := DataW.trod_int Tryz.underlying3 t3
  obtain ⟨x4, e4, _, w4⟩ := DataW.trod_int Tryz.underlying3 t4
  obtain ⟨x5, e5, _, w5⟩ := DataW.trod_int Tryz.underlying29 t5
  obtain ⟨x6, e6, _, w6⟩ := DataW.trod_string Tryz.underlying9 t6
  simp only [List.cons.injEq, and_true] at e0 e1 e2 e3 e4 e5 e6
  subst e0; subst e1; subst e2; subst e3; subst e4; subst e5; subst e6
  have r0 : 0 ≤ x0 ∧ x0 ≤ 255 := by simpa [Lit.wf, IntKind.min, IntKind.max, IntKind.signed, IntKind.bits] using w0
  have r5 : 0 ≤ x5 ∧ x5 ≤ 4294967295 := by simpa [Lit.wf, IntKind.min, IntKind.max, IntKind.signed, IntKind.bits] using w5
  exact ⟨⟨x0, x1, x2, x3, x4, x5, x6⟩, rfl, ⟨⟨x0.toNat, by show x0 = _; omega, by omega⟩, w1, w2, w6, r5.1⟩⟩
end

section
open Go Go.ChangeShapes Go.WideShapes Go.ChangeAt Go.RowKit
theorem door_met (os : Os) (args : Array Value) : laidMetH Tryz.prog laidK ((World.doorLaid Tryz.prog 400 os).forCall (fun _ _ => 0) ⟨#[], args, []⟩).memory :=
 laidMetH_of_parts3 (fuel := 8) (laidMet_of_run' 8 (by kernel_rfl) (by kernel_rfl)) (by kernel_rfl) (by kernel_rfl)
end
end Go.Proofs.YtpcnolkdnmolgaaGreatDoor
