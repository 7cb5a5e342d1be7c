/- linear: a call ends. -/
import Derived.Test.YtpcnolkdnmolgaaGreatDoorPh25
namespace Go.Proofs.YtpcnolkdnmolgaaGreatDoor
section
open Go.RowKit Go.Maps
def GoAll (s : R31) (core : Int) (w : World) : Option Nat → Prop
 | none => s.c core = none
 | some G => ∃ g, s.c core = some g ∧ ∀ W, Below w.heap.size w W → GoAt W G g
theorem Rep.at2 {B Q P Pt Pf C N q n c : Nat} {w1 w : World} {A : Option Addr} {s : R31} (h : Rep B w1 Q P Pt Pf C N q A n c s w) {k : Nat} (hk : k < q) : ∃ o : Option Nat, (∀ W, Below w.heap.size w W → W.cell? ⟨C, k, none⟩ = some (ptrV o)) ∧ GoAll s k w o := by
 obtain ⟨o, h1, _, _, h4⟩ := h.at_ hk
 refine ⟨o, h1, ?_⟩
 cases o with
 | none => exact h4
 | some G =>
  obtain ⟨_, g, g1, g2⟩ := h4
  exact ⟨g, g1, fun W hb => g2.below hb⟩
theorem ev_res {w : World} {B : Nat} {y : Ev} (h : w.heap[B]? = some (.cells y.cells.toArray 120 (0, 0))) : w.cell? ⟨B, 9, none⟩ = some (.int .i64 y.err) ∧ w.cell? ⟨B, 10, none⟩ = some (.int .i64 y.fd) ∧ w.cell? ⟨B, 11, none⟩ = some (.int .u32 y.ino) ∧ w.cell? ⟨B, 12, none⟩ = some (.int .u32 y.s0) ∧ w.cell? ⟨B, 13, none⟩ = some (.int .u8 y.s1) ∧ w.cell? ⟨B, 14, none⟩ = some (.int .i64 y.s2) ∧ w.cell? ⟨B, 15, none⟩ = some (.int .u32 y.s3) ∧ w.cell? ⟨B, 16, none⟩ = some (.slice y.la y.ln y.lc) ∧ w.cell? ⟨B, 17, none⟩ = some (.string y.dt) := by
 simp [World.cell?, h, Ev.cells]
theorem resC9 {W : World} {R : Nat} {c0 c1 c2 c3 c4 c5 c6 c7 c8 : Value} (h : W.heap[R]? = some (.cells #[c0, c1, c2, c3, c4, c5, c6, c7, c8] 39 (0, 0))) : W.cell? ⟨R, 0, none⟩ = some c0 ∧ W.cell? ⟨R, 1, none⟩ = some c1 ∧ W.cell? ⟨R, 2, none⟩ = some c2 ∧ W.cell? ⟨R, 3, none⟩ = some c3 ∧ W.cell? ⟨R, 4, none⟩ = some c4 ∧ W.cell? ⟨R, 5, none⟩ = some c5 ∧ W.cell? ⟨R, 6, none⟩ = some c6 ∧ W.cell? ⟨R, 7, none⟩ = some c7 ∧ W.cell? ⟨R, 8, none⟩ = some c8 ∧ W.frozen? ⟨R, 0, none⟩ = false := by
 simp [World.cell?, World.frozen?, h]
theorem GoAt.cells {w : World} {G : Nat} {g : Go31} (h : GoAt w G g) : ∃ A c, EntsAt w A g.r.lst ∧ w.heap[G]? = some (.cells #[.int .u8 g.x.act, .string g.x.path, .string g.x.path2, .int .i64 g.x.fd, .int .i64 g.x.page, .int .u32 g.x.size, .string g.x.data, .bool g.com, .int .i64 g.r.err, .int .i64 g.r.fd, .int .u32 g.r.ino, .int .u32 g.r.s0, .int .u8 g.r.s1, .int .i64 g.r.s2, .int .u32 g.r.s3, .slice A g.r.lst.length c, .string g.r.dt] 276 (0, 0)) := by
 obtain ⟨vr, h1, A, c, h2, h3⟩ := h
 refine ⟨A, c, h3, ?_⟩
 unfold Rp.val at h2
 injection h2 with h2
 rw [h1]
 have e : vr = [.int .i64 g.r.err, .int .i64 g.r.fd, .int .u32 g.r.ino, .int .u32 g.r.s0, .int .u8 g.r.s1, .int .i64 g.r.s2, .int .u32 g.r.s3, .slice A g.r.lst.length c, .string g.r.dt] := by
  have := congrArg Array.toList h2
  simpa using this
 rw [e]
 rfl
theorem go_ck {w : World} {G : Nat} {v0 v1 v2 v3 v4 v5 v6 v7 v8 v9 v10 v11 v12 v13 v14 v15 v16 : Value} (h : w.heap[G]? = some (.cells #[v0, v1, v2, v3, v4, v5, v6, v7, v8, v9, v10, v11, v12, v13, v14, v15, v16] 276 (0, 0))) : w.cell? ⟨G, 0, none⟩ = some v0 ∧ w.cell? ⟨G, 7, none⟩ = some v7 ∧ w.cell? ⟨G, 8, none⟩ = some v8 ∧ w.cell? ⟨G, 9, none⟩ = some v9 ∧ w.cell? ⟨G, 10, none⟩ = some v10 ∧ w.cell? ⟨G, 11, none⟩ = some v11 ∧ w.cell? ⟨G, 12, none⟩ = some v12 ∧ w.cell? ⟨G, 13, none⟩ = some v13 ∧ w.cell? ⟨G, 14, none⟩ = some v14 ∧ w.cell? ⟨G, 15, none⟩ = some v15 ∧ w.cell? ⟨G, 16, none⟩ = some v16 := by
 simp [World.cell?, h]
theorem Rep.froz {B Q P Pt Pf C N q n c k : Nat} {w1 W : World} {A : Option Addr} {s : R31} (h : Rep B w1 Q P Pt Pf C N q A n c s W) : W.frozen? ⟨C, k, none⟩ = false := by
 obtain ⟨ps, _, a2, _⟩ := h.tab
 simp [World.frozen?, a2]
theorem Rep.ended {B Q P Pt Pf C N q n c core : Nat} {w1 W : World} {A : Option Addr} {s : R31} (h : Rep B w1 Q P Pt Pf C N q A n c s W) (hk : core < q) : Rep B w1 Q P Pt Pf C N q A n c (s.put core none) (W.setCell ⟨C, core, none⟩ (.pointer none)) := by
 obtain ⟨ps, a1, a2, a3, a4, a5⟩ := h.tab
 have e2 : ∀ j, j ≠ C → (W.setCell ⟨C, core, none⟩ (.pointer none)).heap[j]? = W.heap[j]? := fun j hj => Below.heap_setCell _ _ _ j hj
 have hQC : Q ≠ C := fun e => by
  have h1 := h.head
  unfold HeadR at h1
  rw [e, a2] at h1
  injection h1 with h1
  injection h1 with _ h1
  exact absurd h1 (by decide)
 have old : ∀ k G', ps[k]? = some (some G') → G' ≠ C := fun k G' hk => by
  obtain ⟨_, g, _, vr, b3, _⟩ := a3 k G' hk
  refine fun e => ?_
  rw [e, a2] at b3
  injection b3 with b3
  injection b3 with _ b3
  exact absurd b3 (by decide)
 have hstr : ∀ b, (∃ s, W.cell? ⟨b, 0, none⟩ = some (.string s)) → b ≠ C := fun b ⟨s, hs⟩ e => by
  rw [e] at hs
  simp only [World.cell?, a2] at hs
  cases hps : ps[0]? with
  | none => simp [hps] at hs
  | some o => simp [hps, ptrV] at hs
 refine ⟨h.own.setCell (h.isFarC) h.geC _ _, ?_, ⟨ps.set core none, by simpa using a1, ?_, fun k G' hk2 => ?_, fun k hk2 => ?_, fun k k' G' h1 h2 => ?_⟩, h.geQ, h.geC⟩
 · exact (e2 Q hQC).trans h.head
 · rw [pheap_set W C core _ _ _ a2]
   congr 2
   simp [List.map_set, ptrV]
 · rw [List.getElem?_set] at hk2
   by_cases c : core = k
   · rw [if_pos c, if_pos (by omega)] at hk2
     cases hk2
   · rw [if_neg c] at hk2
     obtain ⟨b1, g, b2, b3⟩ := a3 k G' hk2
     refine ⟨b1, g, ?_, b3.far (e2 G' (old k G' hk2)) (fun b hb2 => e2 b (hstr b hb2)) (by simp [World.setCell])⟩
     show (if (k : Int) = (core : Int) then _ else s.c k) = _
     rw [if_neg (by omega)]
     exact b2
 · show (if (k : Int) = (core : Int) then _ else s.c k) = _
   rw [List.getElem?_set] at hk2
   by_cases c : core = k
   · rw [if_pos (by omega)]
   · rw [if_neg c] at hk2
     rw [if_neg (by omega)]
     exact a4 k hk2
 · rw [List.getElem?_set] at h1 h2
   by_cases c : core = k
   · rw [if_pos c, if_pos (by omega)] at h1
     cases h1
   · by_cases c' : core = k'
     · rw [if_pos c', if_pos (by omega)] at h2
       cases h2
     · rw [if_neg c] at h1
       rw [if_neg c'] at h2
       exact a5 k k' G' h1 h2
set_option maxRecDepth 100000 in
set_option maxHeartbeats 4000000 in
theorem t_end31 {w1 : World} {Q P Pt Pf C N q n c i core : Nat} {A : Option Addr} {l : List Ev} {e : Ev} {s : R31} (w : World) (hE : EvAt w1 A n c q l i e core) (hR : Rep w1.heap.size w1 Q P Pt Pf C N q A n c s w) :
  Calls Tryz.prog 135 #[.pointer (some ⟨Q, 0, none⟩), .int .i64 (i : Int)] w fun e' w' => e' = .returned (.int .i64 (end31 s e).1) ∧ Rep w1.heap.size w1 Q P Pt Pf C N q A n c (end31 s e).2 w' := by
 have hi := hE.lti
 have hcq := hE.lt
 have hn2 := hE.small
 obtain ⟨b, off, rfl, hb, hc⟩ := hE.evs.get hE.at_
 have HRA := zz (hc w hR.mem)
 obtain ⟨_, h1, h2⟩ := hR.head.cells
 obtain ⟨w3, hst, hw3, hb3⟩ := ev_store w e
 have HST := zz hst
 have hh3 := hR.head.below hb3
 have HQ2 := zz (show ∀ W, Below w3.heap.size w3 W → W.cell? ⟨Q, 2, none⟩ = some (.slice (some ⟨C, 0, none⟩) q q) from fun W hb => (hh3.below hb).cells.2.2)
 obtain ⟨o, ho, hgo⟩ := (hR.below hb3).at2 hcq
 have HGO := zz hgo
 have HCK := zz ho
 have hX := (Array.getElem?_eq_some_iff.1 hw3).1
 have HX0 := zz (show ∀ W, Below w3.heap.size w3 W → W.cell? ⟨w.heap.size, 0, none⟩ = some (.int .i64 (core : Int)) from fun W hb => by rw [(ev_ck ((hb.block _ hX).trans hw3)).1, hE.cor])
 have HXR := zz (fun (W : World) (hb : Below w3.heap.size w3 W) => ev_res ((hb.block _ hX).trans hw3))
 have HRV := zz (show ∀ W, Below w3.heap.size w3 W → Rep w1.heap.size w1 Q P Pt Pf C N q (some ⟨b, off, none⟩) n c s W from fun W hb => hR.below (ptrans hb3 hb))
 have HCO := zz hE.cor
 obtain ⟨hll, hlr⟩ := hE.lists e (List.mem_of_getElem? hE.at_)
 have HLL := zz hll
 have HLR := zz (show ∀ W, Below w3.heap.size w3 W → ERd W e.la e.lst from fun W hb => hlr.below (hR.mem.trans ((ptrans hb3 hb).mono hR.own.base)))
 have HLN := zz (show e.lst.length ≤ maxLen from by rw [hll]; exact (hE.fits e (List.mem_of_getElem? hE.at_)).ln)
 obtain ⟨ev, hev⟩ : ∃ ev, e.cells = ev := ⟨_, rfl⟩
 rw [hev] at HRA HST
 have HINF := zz (show (Tryz.prog.info? 120).map (·.size) = some ev.length from by rw [← hev, ev_len]; exact infoEv)
 have cC0 := HCK.out w3 (Below.refl _ _)
 have q20 := HQ2.out w3 (Below.refl _ _)
 have x00 := HX0.out w3 (Below.refl _ _)
 clear hb hc hst hw3 hb3 hE hR ho hgo hev hX hh3 hll hlr
 obtain ⟨r, hr⟩ : ∃ r, end31 s e = r := ⟨_, rfl⟩
 rw [hr]
 have hr2 := hr
 unfold end31 at hr2
 rw [HCO.out] at hr2
 cases o with
 | none =>
  have hg : s.c core = none := HGO.out
  rw [hg] at hr2
  have HF := zz (show r = (310, s) from hr2.symm)
  clear hr hr2 hg
  have cC : w3.cell? ⟨C, core, none⟩ = some (.pointer none) := cC0
  clear cC0
  go_enter Tryz.func135, Tryz.ntmps135
  go_wp2_with (first
   | (refine wpList_load_mid rfl 120 _ rfl b _ rfl ev _ HRA.out Tryz.underlying120 rfl HINF.out ?_)
   | ((with_reducible refine wpList_alloc_z 120 zEv.cells.toArray zeroEv ?_); intro w5 hw5; rw [hw5])
   | (refine wpList_store_run 120 5 14 w3 _ _ rfl rfl HST.out ?_))
  go_quiet (fail)
  generalize hw4 : w3.drewN nq = w4
  have HB4 := zz (show Below w3.heap.size w3 w4 from by rw [← hw4]; exact pbelow_drewN (Below.refl _ _) nq)
  clear hw4
  go_wp2
  go_ret
  exact ⟨by rw [HF.out]; rfl, by rw [HF.out]; exact HRV.out _ HB4.out⟩
 | some G =>
  obtain ⟨g, hg, hGA⟩ := HGO.out
  rw [hg] at hr2
  dsimp only at hr2
  have HGA := zz hGA
  have cC : w3.cell? ⟨C, core, none⟩ = some (.pointer (some ⟨G, 0, none⟩)) := cC0
  obtain ⟨gA, gc, hgE, hgb⟩ := (hGA w3 (Below.refl _ _)).cells
  have hGl := (Array.getElem?_eq_some_iff.1 hgb).1
  have HGB := zz (fun (W : World) (hb : Below w3.heap.size w3 W) => go_ck ((hb.block _ hGl).trans hgb))
  have HGE := zz (show ∀ W, Below w3.heap.size w3 W → EntsAt W gA g.r.lst from fun W hb => hgE.below hb)
  obtain ⟨k0, k7, k8, _⟩ := go_ck hgb
  clear hGl hgE
  clear hr hg hGA cC0
  cases hcom : g.com with
  | false =>
   have HF := zz (show r = (310, s) from by rw [← hr2, if_pos hcom])
   rw [hcom] at k7
   have HCOM := zz hcom
   clear hr2 hcom hgb
   go_enter Tryz.func135, Tryz.ntmps135
   go_wp2_with (first
    | (refine wpList_load_mid rfl 120 _ rfl b _ rfl ev _ HRA.out Tryz.underlying120 rfl HINF.out ?_)
    | ((with_reducible refine wpList_alloc_z 120 zEv.cells.toArray zeroEv ?_); intro w5 hw5; rw [hw5])
    | (refine wpList_store_run 120 5 14 w3 _ _ rfl rfl HST.out ?_))
   go_quiet (fail)
   generalize hw4 : w3.drewN nq = w4
   have HB4 := zz (show Below w3.heap.size w3 w4 from by rw [← hw4]; exact pbelow_drewN (Below.refl _ _) nq)
   clear hw4
   obtain ⟨m0, m7, m8, _⟩ := HGB.out w4 HB4.out
   rw [HCOM.out] at m7
   clear k0 k7 k8
   go_wp2
   go_ret
   exact ⟨by rw [HF.out]; rfl, by rw [HF.out]; exact HRV.out _ HB4.out⟩
  | true =>
   rw [hcom] at k7
   rw [if_neg (by rw [hcom]; decide)] at hr2
   have HR2 := zz hr2
   have HCOM := zz hcom
   clear hr2 hcom hgb
   go_enter Tryz.func135, Tryz.ntmps135
   go_wp2_with (first
    | (refine wpList_load_mid rfl 120 _ rfl b _ rfl ev _ HRA.out Tryz.underlying120 rfl HINF.out ?_)
    | ((with_reducible refine wpList_alloc_z 120 zEv.cells.toArray zeroEv ?_); intro w5 hw5; rw [hw5])
    | (refine wpList_store_run 120 5 14 w3 _ _ rfl rfl HST.out ?_))
   go_quiet (fail)
   generalize hw4 : w3.drewN nq = w4
   have HB4 := zz (show Below w3.heap.size w3 w4 from by rw [← hw4]; exact pbelow_drewN (Below.refl _ _) nq)
   clear hw4
   obtain ⟨m0, m7, m8, _⟩ := HGB.out w4 HB4.out
   rw [HCOM.out] at m7
   clear k0 k7 k8
   obtain ⟨y0, y1, y2, y3, y4, y5, y6, y7, y8⟩ := HXR.out w4 HB4.out
   obtain ⟨w5, hw5⟩ : ∃ w5, w4.alloc (.cells #[.int .i64 e.err, .int .i64 e.fd, .int .u32 e.ino, .int .u32 e.s0, .int .u8 e.s1, .int .i64 e.s2, .int .u32 e.s3, .slice e.la e.ln e.lc, .string e.dt] 39) = w5 := ⟨_, rfl⟩
   have HB5 := zz (show Below w3.heap.size w3 w5 from by rw [← hw5]; exact HB4.out.alloc HB4.out.size _)
   have hr5 : w5.heap[w4.heap.size]? = some (.cells #[.int .i64 e.err, .int .i64 e.fd, .int .u32 e.ino, .int .u32 e.s0, .int .u8 e.s1, .int .i64 e.s2, .int .u32 e.s3, .slice e.la e.ln e.lc, .string e.dt] 39 (0, 0)) := by rw [← hw5]; exact heap_alloc_new w4 _
   have HR5 := zz hr5
   obtain ⟨r0, r1, r2, r3, r4, r5, r6, r7, r8, f0⟩ := resC9 hr5
   obtain ⟨n0, n7, n8, _⟩ := HGB.out w5 HB5.out
   rw [HCOM.out] at n7
   obtain ⟨ga, hga⟩ : ∃ x, g.x.act = x := ⟨_, rfl⟩
   obtain ⟨ge, hge⟩ : ∃ x, g.r.err = x := ⟨_, rfl⟩
   rw [hga] at m0 n0
   rw [hge] at m8 n8
   have HGA2 := zz hga
   have HGE2 := zz hge
   clear hga hge hr5
   by_cases h14 : ga = 14
   · subst h14
     by_cases he0 : ge = 0
     · subst he0
       have HAS := zz (show askedR g e = { e.rp with err := 0 } from by
        unfold askedR
        rw [if_pos ⟨.inl HGA2.out, HGE2.out⟩])
       have HAK := zz (show ∀ W', Below w3.heap.size w3 W' → Calls Tryz.prog 219 #[.agg #[.int .i64 0, .int .i64 g.r.fd, .int .u32 g.r.ino, .int .u32 g.r.s0, .int .u8 g.r.s1, .int .i64 g.r.s2, .int .u32 g.r.s3, .slice gA g.r.lst.length gc, .string g.r.dt], .agg #[.int .i64 0, .int .i64 e.fd, .int .u32 e.ino, .int .u32 e.s0, .int .u8 e.s1, .int .i64 e.s2, .int .u32 e.s3, .slice e.la e.ln e.lc, .string e.dt]] W' fun e' w' => e' = .returned (.bool (decide (g.r = { e.rp with err := 0 }))) ∧ Below W'.heap.size W' w' from fun W' hb => by
        refine t_alike31 g.r { e.rp with err := 0 } _ _ W' ⟨gA, gc, ?_, ERd.of (HGE.out W' hb)⟩ ⟨e.la, e.lc, ?_, HLR.out W' hb⟩ HLN.out
        · unfold Rp.val
          rw [HGE2.out]
        · show _ = Rp.val ⟨0, e.fd, e.ino, e.s0, e.s1, e.s2, e.s3, e.lst, e.dt⟩ e.la e.lc
          unfold Rp.val
          rw [HLL.out])
       obtain ⟨al, hal⟩ : ∃ al, decide (g.r = { e.rp with err := 0 }) = al := ⟨_, rfl⟩
       rw [hal] at HAK
       have hr3 := HR2.out
       rw [HAS.out] at hr3
       obtain ⟨w6, hw6⟩ : ∃ w6, w5.setCell ⟨w4.heap.size, 0, none⟩ (.int .i64 0) = w6 := ⟨_, rfl⟩
       have HB6 := zz (show Below w3.heap.size w3 w6 from by rw [← hw6]; exact HB5.out.setCell (p := ⟨w4.heap.size, 0, none⟩) HB4.out.size _)
       have hr6 : w6.heap[w4.heap.size]? = some (.cells #[.int .i64 0, .int .i64 e.fd, .int .u32 e.ino, .int .u32 e.s0, .int .u8 e.s1, .int .i64 e.s2, .int .u32 e.s3, .slice e.la e.ln e.lc, .string e.dt] 39 (0, 0)) := by
        rw [← hw6, pheap_set w5 w4.heap.size 0 _ _ _ HR5.out]
        rfl
       have hrl := (Array.getElem?_eq_some_iff.1 hr6).1
       have HRC := zz (fun (W : World) (hb : Below w6.heap.size w6 W) => resC9 ((hb.block _ hrl).trans hr6))
       clear hr6 hrl
       cases al with
       | false =>
        have HF := zz (show r = (311, s) from by rw [← hr3, if_neg (by simpa using hal)])
        clear hr3 hal
        go_wp2
        refine wp_region_rel RelB (phi [isV (.pointer (some ⟨G, 0, none⟩)), isV (.pointer (some ⟨G, 0, none⟩)), isV (.pointer (some ⟨G, 8, none⟩)), isV (.agg #[.int .i64 0, .int .i64 g.r.fd, .int .u32 g.r.ino, .int .u32 g.r.s0, .int .u8 g.r.s1, .int .i64 g.r.s2, .int .u32 g.r.s3, .slice gA g.r.lst.length gc, .string g.r.dt]), isV (.agg #[.int .i64 0, .int .i64 e.fd, .int .u32 e.ino, .int .u32 e.s0, .int .u8 e.s1, .int .i64 e.s2, .int .u32 e.s3, .slice e.la e.ln e.lc, .string e.dt]), isV (.bool false), isV (.bool true)]) (by kernel_rfl) (by kernel_rfl) (by kernel_rfl) (RelB.of (below_drew _)) (fun _ _ _ a b => a.trans b) ?_ ?_ ?_
        · refine stays_phiR ?_
          simp only [List.forall_mem_cons]
          exact ⟨kv, kv, kv, kv, kv, kv, kv, fun _ h => absurd h (by simp)⟩
        · refine ⟨?_, ?_, ?_, ?_, ?_, ?_, ?_, trivial⟩
          · refine opR_mk rfl fun aa W2 hB hp hq K hK => ?_
            have e6 : aa.tmps[6]?.getD undef = .pointer (some ⟨G, 0, none⟩) := hp 6 (by kernel_rfl)
            clear hp hq
            go_simp
            exact hK _ _ (RelB.refl _) rfl
          · refine opR_mk rfl fun aa W2 hB hp hq K hK => ?_
            have e57 : aa.tmps[57]?.getD undef = .pointer (some ⟨G, 0, none⟩) := hq 0 _ (by kernel_rfl) rfl
            clear hp hq
            go_simp
            exact hK _ _ (RelB.refl _) rfl
          · refine opR_mk rfl fun aa W2 hB hp hq K hK => ?_
            have e58 : aa.tmps[58]?.getD undef = .pointer (some ⟨G, 0, none⟩) := hq 1 _ (by kernel_rfl) rfl
            clear hp hq
            go_simp
            exact hK _ _ (RelB.refl _) rfl
          · refine opR_mk rfl fun aa W2 hB hp hq K hK => ?_
            have e59 : aa.tmps[59]?.getD undef = .pointer (some ⟨G, 8, none⟩) := hq 2 _ (by kernel_rfl) rfl
            obtain ⟨_, _, t8, t9, t10, t11, t12, t13, t14, t15, t16⟩ := HGB.out W2 (ptrans HB6.out (relB_get hB))
            rw [HGE2.out] at t8
            clear hp hq
            go_simp
            exact hK _ _ (RelB.refl _) rfl
          · refine opR_mk rfl fun aa W2 hB hp hq K hK => ?_
            have e7 : aa.tmps[7]?.getD undef = .pointer (some ⟨w4.heap.size, 0, none⟩) := hp 7 (by kernel_rfl)
            obtain ⟨s0, s1, s2, s3, s4, s5, s6, s7, s8, _⟩ := HRC.out W2 (relB_get hB)
            clear hp hq
            go_simp
            exact hK _ _ (RelB.refl _) rfl
          · refine opR_mk rfl fun aa W2 hB hp hq K hK => ?_
            have e60 : aa.tmps[60]?.getD undef = .agg #[.int .i64 0, .int .i64 g.r.fd, .int .u32 g.r.ino, .int .u32 g.r.s0, .int .u8 g.r.s1, .int .i64 g.r.s2, .int .u32 g.r.s3, .slice gA g.r.lst.length gc, .string g.r.dt] := hq 3 _ (by kernel_rfl) rfl
            have e61 : aa.tmps[61]?.getD undef = .agg #[.int .i64 0, .int .i64 e.fd, .int .u32 e.ino, .int .u32 e.s0, .int .u8 e.s1, .int .i64 e.s2, .int .u32 e.s3, .slice e.la e.ln e.lc, .string e.dt] := hq 4 _ (by kernel_rfl) rfl
            clear hp hq
            go_simp
            go_at_call 219
            (with_reducible refine (HAK.out W2 (ptrans HB6.out (relB_get hB))).mono ?_)
            rintro e5 w7 ⟨rfl, hb5⟩
            exact hK _ _ (RelB.of hb5) rfl
          · refine opR_mk rfl fun aa W2 hB hp hq K hK => ?_
            have e62 : aa.tmps[62]?.getD undef = .bool false := hq 5 _ (by kernel_rfl) rfl
            clear hp hq
            go_simp
            exact hK _ _ (RelB.refl _) rfl
        · intro vs W3 hB3 hv3 _
          have v6 : vs 6 = .bool true := hv3 6 _ rfl rfl
          have HB7 := zz (ptrans HB6.out (relB_get hB3))
          simp only [putAll, Act.put, List.setIfInBounds_toArray, List.set_cons_succ, List.set_cons_zero, Nat.zero_add, Nat.reduceAdd]
          rw [v6]
          clear hB3 hv3 v6
          go_wp2
          go_ret
          exact ⟨by rw [HF.out]; rfl, by rw [HF.out]; exact HRV.out _ HB7.out⟩
       | true =>
        have HF := zz (show r = (0, s.put core none) from by rw [← hr3, if_pos (by simpa using hal)])
        clear hr3 hal
        go_wp2
        refine wp_region_rel RelB (phi [isV (.pointer (some ⟨G, 0, none⟩)), isV (.pointer (some ⟨G, 0, none⟩)), isV (.pointer (some ⟨G, 8, none⟩)), isV (.agg #[.int .i64 0, .int .i64 g.r.fd, .int .u32 g.r.ino, .int .u32 g.r.s0, .int .u8 g.r.s1, .int .i64 g.r.s2, .int .u32 g.r.s3, .slice gA g.r.lst.length gc, .string g.r.dt]), isV (.agg #[.int .i64 0, .int .i64 e.fd, .int .u32 e.ino, .int .u32 e.s0, .int .u8 e.s1, .int .i64 e.s2, .int .u32 e.s3, .slice e.la e.ln e.lc, .string e.dt]), isV (.bool true), isV (.bool false)]) (by kernel_rfl) (by kernel_rfl) (by kernel_rfl) (RelB.of (below_drew _)) (fun _ _ _ a b => a.trans b) ?_ ?_ ?_
        · refine stays_phiR ?_
          simp only [List.forall_mem_cons]
          exact ⟨kv, kv, kv, kv, kv, kv, kv, fun _ h => absurd h (by simp)⟩
        · refine ⟨?_, ?_, ?_, ?_, ?_, ?_, ?_, trivial⟩
          · refine opR_mk rfl fun aa W2 hB hp hq K hK => ?_
            have e6 : aa.tmps[6]?.getD undef = .pointer (some ⟨G, 0, none⟩) := hp 6 (by kernel_rfl)
            clear hp hq
            go_simp
            exact hK _ _ (RelB.refl _) rfl
          · refine opR_mk rfl fun aa W2 hB hp hq K hK => ?_
            have e57 : aa.tmps[57]?.getD undef = .pointer (some ⟨G, 0, none⟩) := hq 0 _ (by kernel_rfl) rfl
            clear hp hq
            go_simp
            exact hK _ _ (RelB.refl _) rfl
          · refine opR_mk rfl fun aa W2 hB hp hq K hK => ?_
            have e58 : aa.tmps[58]?.getD undef = .pointer (some ⟨G, 0, none⟩) := hq 1 _ (by kernel_rfl) rfl
            clear hp hq
            go_simp
            exact hK _ _ (RelB.refl _) rfl
          · refine opR_mk rfl fun aa W2 hB hp hq K hK => ?_
            have e59 : aa.tmps[59]?.getD undef = .pointer (some ⟨G, 8, none⟩) := hq 2 _ (by kernel_rfl) rfl
            obtain ⟨_, _, t8, t9, t10, t11, t12, t13, t14, t15, t16⟩ := HGB.out W2 (ptrans HB6.out (relB_get hB))
            rw [HGE2.out] at t8
            clear hp hq
            go_simp
            exact hK _ _ (RelB.refl _) rfl
          · refine opR_mk rfl fun aa W2 hB hp hq K hK => ?_
            have e7 : aa.tmps[7]?.getD undef = .pointer (some ⟨w4.heap.size, 0, none⟩) := hp 7 (by kernel_rfl)
            obtain ⟨s0, s1, s2, s3, s4, s5, s6, s7, s8, _⟩ := HRC.out W2 (relB_get hB)
            clear hp hq
            go_simp
            exact hK _ _ (RelB.refl _) rfl
          · refine opR_mk rfl fun aa W2 hB hp hq K hK => ?_
            have e60 : aa.tmps[60]?.getD undef = .agg #[.int .i64 0, .int .i64 g.r.fd, .int .u32 g.r.ino, .int .u32 g.r.s0, .int .u8 g.r.s1, .int .i64 g.r.s2, .int .u32 g.r.s3, .slice gA g.r.lst.length gc, .string g.r.dt] := hq 3 _ (by kernel_rfl) rfl
            have e61 : aa.tmps[61]?.getD undef = .agg #[.int .i64 0, .int .i64 e.fd, .int .u32 e.ino, .int .u32 e.s0, .int .u8 e.s1, .int .i64 e.s2, .int .u32 e.s3, .slice e.la e.ln e.lc, .string e.dt] := hq 4 _ (by kernel_rfl) rfl
            clear hp hq
            go_simp
            go_at_call 219
            (with_reducible refine (HAK.out W2 (ptrans HB6.out (relB_get hB))).mono ?_)
            rintro e5 w7 ⟨rfl, hb5⟩
            exact hK _ _ (RelB.of hb5) rfl
          · refine opR_mk rfl fun aa W2 hB hp hq K hK => ?_
            have e62 : aa.tmps[62]?.getD undef = .bool true := hq 5 _ (by kernel_rfl) rfl
            clear hp hq
            go_simp
            exact hK _ _ (RelB.refl _) rfl
        · intro vs W3 hB3 hv3 _
          have v6 : vs 6 = .bool false := hv3 6 _ rfl rfl
          have HB7 := zz (ptrans HB6.out (relB_get hB3))
          simp only [putAll, Act.put, List.setIfInBounds_toArray, List.set_cons_succ, List.set_cons_zero, Nat.zero_add, Nat.reduceAdd]
          rw [v6]
          clear hB3 hv3 v6
          have q27 := HQ2.out W3 HB7.out
          have x07 := HX0.out W3 HB7.out
          have cC7 : W3.cell? ⟨C, core, none⟩ = some (.pointer (some ⟨G, 0, none⟩)) := HCK.out W3 HB7.out
          have fC7 : W3.frozen? ⟨C, core, none⟩ = false := Rep.froz (HRV.out W3 HB7.out)
          go_wp2
          have HCQ := zz hcq
          refine wp_region_st (fun j W => if j = 0 then Below W3.heap.size W3 W else Rep w1.heap.size w1 Q P Pt Pf C N q (some ⟨b, off, none⟩) n c (s.put core none) W) RelB (RelC C) [7] (phi [isV (.pointer (some ⟨Q, 0, none⟩)), isV (.pointer (some ⟨Q, 0, none⟩)), isV (.pointer (some ⟨Q, 2, none⟩)), isV (.slice (some ⟨C, 0, none⟩) q q), isV (.pointer (some ⟨w.heap.size, 0, none⟩)), isV (.int .i64 (core : Int)), isV (.pointer (some ⟨C, core, none⟩)), (fun _ _ => True)]) (by kernel_rfl) (by kernel_rfl) (by kernel_rfl) (by kernel_rfl) (by kernel_rfl) (below_drew _) (fun j _ _ h hb => by by_cases hj : j = 0; (rw [if_pos hj] at h ⊢; exact ptrans h (relB_get hb)); (rw [if_neg hj] at h ⊢; exact h.below (relB_get hb))) (fun _ _ h => RelC.of h) ?_ ?_ ?_
          · refine stays_phiR ?_
            simp only [List.forall_mem_cons]
            exact ⟨kv, kv, kv, kv, kv, kv, kv, fun _ _ _ _ _ => trivial, fun _ h => absurd h (by simp)⟩
          · refine ⟨?_, ?_, ?_, ?_, ?_, ?_, ?_, ?_, trivial⟩
            · refine opS_mk rfl rfl fun aa W2 nJ hJ hp hq K hK => ?_
              have e0 : aa.tmps[0]?.getD undef = .pointer (some ⟨Q, 0, none⟩) := hp 0 (by kernel_rfl)
              clear hp hq
              go_simp
              exact hK _ _ (RelB.refl _) rfl
            · refine opS_mk rfl rfl fun aa W2 nJ hJ hp hq K hK => ?_
              have e64 : aa.tmps[64]?.getD undef = .pointer (some ⟨Q, 0, none⟩) := hq 0 _ (by kernel_rfl) rfl
              clear hp hq
              go_simp
              exact hK _ _ (RelB.refl _) rfl
            · refine opS_mk rfl rfl fun aa W2 nJ hJ hp hq K hK => ?_
              have e65 : aa.tmps[65]?.getD undef = .pointer (some ⟨Q, 0, none⟩) := hq 1 _ (by kernel_rfl) rfl
              clear hp hq
              go_simp
              exact hK _ _ (RelB.refl _) rfl
            · refine opS_ahead (m := 0) (k := 7) rfl rfl rfl rfl (by kernel_rfl) fun aa W2 nJ hnJ hJ hp hq K hK => ?_
              have e66 : aa.tmps[66]?.getD undef = .pointer (some ⟨Q, 2, none⟩) := hq 2 _ (by kernel_rfl) rfl
              obtain rfl : nJ = 0 := by omega
              have hJB : Below W3.heap.size W3 W2 := hJ
              have d1 := HQ2.out W2 (ptrans HB7.out hJB)
              clear hp hq
              go_simp
              exact hK _ _ (RelB.refl _) rfl
            · refine opS_mk rfl rfl fun aa W2 nJ hJ hp hq K hK => ?_
              have e5 : aa.tmps[5]?.getD undef = .pointer (some ⟨w.heap.size, 0, none⟩) := hp 5 (by kernel_rfl)
              clear hp hq
              go_simp
              exact hK _ _ (RelB.refl _) rfl
            · refine opS_ahead (m := 0) (k := 7) rfl rfl rfl rfl (by kernel_rfl) fun aa W2 nJ hnJ hJ hp hq K hK => ?_
              have e68 : aa.tmps[68]?.getD undef = .pointer (some ⟨w.heap.size, 0, none⟩) := hq 4 _ (by kernel_rfl) rfl
              obtain rfl : nJ = 0 := by omega
              have hJB : Below W3.heap.size W3 W2 := hJ
              have d2 := HX0.out W2 (ptrans HB7.out hJB)
              clear hp hq
              go_simp
              exact hK _ _ (RelB.refl _) rfl
            · refine opS_mk rfl rfl fun aa W2 nJ hJ hp hq K hK => ?_
              have e67 : aa.tmps[67]?.getD undef = .slice (some ⟨C, 0, none⟩) q q := hq 3 _ (by kernel_rfl) rfl
              have e69 : aa.tmps[69]?.getD undef = .int .i64 (core : Int) := hq 5 _ (by kernel_rfl) rfl
              clear hp hq
              go_simp
              exact hK _ _ (RelB.refl _) rfl
            · refine opS_at (m := 0) rfl rfl fun aa W2 hJ hp hq K hK => ?_
              have e70 : aa.tmps[70]?.getD undef = .pointer (some ⟨C, core, none⟩) := hq 6 _ (by kernel_rfl) rfl
              have hJB : Below W3.heap.size W3 W2 := hJ
              have d3 : W2.cell? ⟨C, core, none⟩ = some (.pointer (some ⟨G, 0, none⟩)) := HCK.out W2 (ptrans HB7.out hJB)
              have d4 : W2.frozen? ⟨C, core, none⟩ = false := Rep.froz (HRV.out W2 (ptrans HB7.out hJB))
              have HNW := zz (Rep.ended (HRV.out W2 (ptrans HB7.out hJB)) HCQ.out)
              clear hJ hJB
              clear hp hq
              go_simp
              exact hK undef _ (fun b o hb ho => (Below.heap_setCell _ _ _ b hb).trans ho) HNW.out trivial
          · intro vs W9 hJ9 hv9 _
            have HN9 : Hid (Rep w1.heap.size w1 Q P Pt Pf C N q (some ⟨b, off, none⟩) n c (s.put core none) W9) := hJ9
            simp only [putAll, Act.put, List.setIfInBounds_toArray, List.set_cons_succ, List.set_cons_zero, Nat.zero_add, Nat.reduceAdd]
            clear hJ9 hv9
            go_wp2
            go_ret
            exact ⟨by rw [HF.out]; rfl, by rw [HF.out]; exact HN9.out⟩
     · have heb : (ge == 0) = false := by simpa using he0
       have HAS := zz (show askedR g e = e.rp from by
        unfold askedR
        rw [if_neg (fun h => he0 (by rw [← HGE2.out]; exact h.2))])
       have HAK := zz (show ∀ W', Below w3.heap.size w3 W' → Calls Tryz.prog 219 #[.agg #[.int .i64 ge, .int .i64 g.r.fd, .int .u32 g.r.ino, .int .u32 g.r.s0, .int .u8 g.r.s1, .int .i64 g.r.s2, .int .u32 g.r.s3, .slice gA g.r.lst.length gc, .string g.r.dt], .agg #[.int .i64 e.err, .int .i64 e.fd, .int .u32 e.ino, .int .u32 e.s0, .int .u8 e.s1, .int .i64 e.s2, .int .u32 e.s3, .slice e.la e.ln e.lc, .string e.dt]] W' fun e' w' => e' = .returned (.bool (decide (g.r = e.rp))) ∧ Below W'.heap.size W' w' from fun W' hb => by
        refine t_alike31 g.r e.rp _ _ W' ⟨gA, gc, ?_, ERd.of (HGE.out W' hb)⟩ ⟨e.la, e.lc, ?_, HLR.out W' hb⟩ HLN.out
        · unfold Rp.val
          rw [HGE2.out]
        · show _ = Rp.val ⟨e.err, e.fd, e.ino, e.s0, e.s1, e.s2, e.s3, e.lst, e.dt⟩ e.la e.lc
          unfold Rp.val
          rw [HLL.out])
       obtain ⟨al, hal⟩ : ∃ al, decide (g.r = e.rp) = al := ⟨_, rfl⟩
       rw [hal] at HAK
       have hr3 := HR2.out
       rw [HAS.out] at hr3
       have HB6 := HB5
       have hrl := (Array.getElem?_eq_some_iff.1 HR5.out).1
       have HRC := zz (fun (W : World) (hb : Below w5.heap.size w5 W) => resC9 ((hb.block _ hrl).trans HR5.out))
       clear hrl
       cases al with
       | false =>
        have HF := zz (show r = (311, s) from by rw [← hr3, if_neg (by simpa using hal)])
        clear hr3 hal
        go_wp2
        refine wp_region_rel RelB (phi [isV (.pointer (some ⟨G, 0, none⟩)), isV (.pointer (some ⟨G, 0, none⟩)), isV (.pointer (some ⟨G, 8, none⟩)), isV (.agg #[.int .i64 ge, .int .i64 g.r.fd, .int .u32 g.r.ino, .int .u32 g.r.s0, .int .u8 g.r.s1, .int .i64 g.r.s2, .int .u32 g.r.s3, .slice gA g.r.lst.length gc, .string g.r.dt]), isV (.agg #[.int .i64 e.err, .int .i64 e.fd, .int .u32 e.ino, .int .u32 e.s0, .int .u8 e.s1, .int .i64 e.s2, .int .u32 e.s3, .slice e.la e.ln e.lc, .string e.dt]), isV (.bool false), isV (.bool true)]) (by kernel_rfl) (by kernel_rfl) (by kernel_rfl) (RelB.of (below_drew _)) (fun _ _ _ a b => a.trans b) ?_ ?_ ?_
        · refine stays_phiR ?_
          simp only [List.forall_mem_cons]
          exact ⟨kv, kv, kv, kv, kv, kv, kv, fun _ h => absurd h (by simp)⟩
        · refine ⟨?_, ?_, ?_, ?_, ?_, ?_, ?_, trivial⟩
          · refine opR_mk rfl fun aa W2 hB hp hq K hK => ?_
            have e6 : aa.tmps[6]?.getD undef = .pointer (some ⟨G, 0, none⟩) := hp 6 (by kernel_rfl)
            clear hp hq
            go_simp
            exact hK _ _ (RelB.refl _) rfl
          · refine opR_mk rfl fun aa W2 hB hp hq K hK => ?_
            have e57 : aa.tmps[57]?.getD undef = .pointer (some ⟨G, 0, none⟩) := hq 0 _ (by kernel_rfl) rfl
            clear hp hq
            go_simp
            exact hK _ _ (RelB.refl _) rfl
          · refine opR_mk rfl fun aa W2 hB hp hq K hK => ?_
            have e58 : aa.tmps[58]?.getD undef = .pointer (some ⟨G, 0, none⟩) := hq 1 _ (by kernel_rfl) rfl
            clear hp hq
            go_simp
            exact hK _ _ (RelB.refl _) rfl
          · refine opR_mk rfl fun aa W2 hB hp hq K hK => ?_
            have e59 : aa.tmps[59]?.getD undef = .pointer (some ⟨G, 8, none⟩) := hq 2 _ (by kernel_rfl) rfl
            obtain ⟨_, _, t8, t9, t10, t11, t12, t13, t14, t15, t16⟩ := HGB.out W2 (ptrans HB6.out (relB_get hB))
            rw [HGE2.out] at t8
            clear hp hq
            go_simp
            exact hK _ _ (RelB.refl _) rfl
          · refine opR_mk rfl fun aa W2 hB hp hq K hK => ?_
            have e7 : aa.tmps[7]?.getD undef = .pointer (some ⟨w4.heap.size, 0, none⟩) := hp 7 (by kernel_rfl)
            obtain ⟨s0, s1, s2, s3, s4, s5, s6, s7, s8, _⟩ := HRC.out W2 (relB_get hB)
            clear hp hq
            go_simp
            exact hK _ _ (RelB.refl _) rfl
          · refine opR_mk rfl fun aa W2 hB hp hq K hK => ?_
            have e60 : aa.tmps[60]?.getD undef = .agg #[.int .i64 ge, .int .i64 g.r.fd, .int .u32 g.r.ino, .int .u32 g.r.s0, .int .u8 g.r.s1, .int .i64 g.r.s2, .int .u32 g.r.s3, .slice gA g.r.lst.length gc, .string g.r.dt] := hq 3 _ (by kernel_rfl) rfl
            have e61 : aa.tmps[61]?.getD undef = .agg #[.int .i64 e.err, .int .i64 e.fd, .int .u32 e.ino, .int .u32 e.s0, .int .u8 e.s1, .int .i64 e.s2, .int .u32 e.s3, .slice e.la e.ln e.lc, .string e.dt] := hq 4 _ (by kernel_rfl) rfl
            clear hp hq
            go_simp
            go_at_call 219
            (with_reducible refine (HAK.out W2 (ptrans HB6.out (relB_get hB))).mono ?_)
            rintro e5 w7 ⟨rfl, hb5⟩
            exact hK _ _ (RelB.of hb5) rfl
          · refine opR_mk rfl fun aa W2 hB hp hq K hK => ?_
            have e62 : aa.tmps[62]?.getD undef = .bool false := hq 5 _ (by kernel_rfl) rfl
            clear hp hq
            go_simp
            exact hK _ _ (RelB.refl _) rfl
        · intro vs W3 hB3 hv3 _
          have v6 : vs 6 = .bool true := hv3 6 _ rfl rfl
          have HB7 := zz (ptrans HB6.out (relB_get hB3))
          simp only [putAll, Act.put, List.setIfInBounds_toArray, List.set_cons_succ, List.set_cons_zero, Nat.zero_add, Nat.reduceAdd]
          rw [v6]
          clear hB3 hv3 v6
          go_wp2
          go_ret
          exact ⟨by rw [HF.out]; rfl, by rw [HF.out]; exact HRV.out _ HB7.out⟩
       | true =>
        have HF := zz (show r = (0, s.put core none) from by rw [← hr3, if_pos (by simpa using hal)])
        clear hr3 hal
        go_wp2
        refine wp_region_rel RelB (phi [isV (.pointer (some ⟨G, 0, none⟩)), isV (.pointer (some ⟨G, 0, none⟩)), isV (.pointer (some ⟨G, 8, none⟩)), isV (.agg #[.int .i64 ge, .int .i64 g.r.fd, .int .u32 g.r.ino, .int .u32 g.r.s0, .int .u8 g.r.s1, .int .i64 g.r.s2, .int .u32 g.r.s3, .slice gA g.r.lst.length gc, .string g.r.dt]), isV (.agg #[.int .i64 e.err, .int .i64 e.fd, .int .u32 e.ino, .int .u32 e.s0, .int .u8 e.s1, .int .i64 e.s2, .int .u32 e.s3, .slice e.la e.ln e.lc, .string e.dt]), isV (.bool true), isV (.bool false)]) (by kernel_rfl) (by kernel_rfl) (by kernel_rfl) (RelB.of (below_drew _)) (fun _ _ _ a b => a.trans b) ?_ ?_ ?_
        · refine stays_phiR ?_
          simp only [List.forall_mem_cons]
          exact ⟨kv, kv, kv, kv, kv, kv, kv, fun _ h => absurd h (by simp)⟩
        · refine ⟨?_, ?_, ?_, ?_, ?_, ?_, ?_, trivial⟩
          · refine opR_mk rfl fun aa W2 hB hp hq K hK => ?_
            have e6 : aa.tmps[6]?.getD undef = .pointer (some ⟨G, 0, none⟩) := hp 6 (by kernel_rfl)
            clear hp hq
            go_simp
            exact hK _ _ (RelB.refl _) rfl
          · refine opR_mk rfl fun aa W2 hB hp hq K hK => ?_
            have e57 : aa.tmps[57]?.getD undef = .pointer (some ⟨G, 0, none⟩) := hq 0 _ (by kernel_rfl) rfl
            clear hp hq
            go_simp
            exact hK _ _ (RelB.refl _) rfl
          · refine opR_mk rfl fun aa W2 hB hp hq K hK => ?_
            have e58 : aa.tmps[58]?.getD undef = .pointer (some ⟨G, 0, none⟩) := hq 1 _ (by kernel_rfl) rfl
            clear hp hq
            go_simp
            exact hK _ _ (RelB.refl _) rfl
          · refine opR_mk rfl fun aa W2 hB hp hq K hK => ?_
            have e59 : aa.tmps[59]?.getD undef = .pointer (some ⟨G, 8, none⟩) := hq 2 _ (by kernel_rfl) rfl
            obtain ⟨_, _, t8, t9, t10, t11, t12, t13, t14, t15, t16⟩ := HGB.out W2 (ptrans HB6.out (relB_get hB))
            rw [HGE2.out] at t8
            clear hp hq
            go_simp
            exact hK _ _ (RelB.refl _) rfl
          · refine opR_mk rfl fun aa W2 hB hp hq K hK => ?_
            have e7 : aa.tmps[7]?.getD undef = .pointer (some ⟨w4.heap.size, 0, none⟩) := hp 7 (by kernel_rfl)
            obtain ⟨s0, s1, s2, s3, s4, s5, s6, s7, s8, _⟩ := HRC.out W2 (relB_get hB)
            clear hp hq
            go_simp
            exact hK _ _ (RelB.refl _) rfl
          · refine opR_mk rfl fun aa W2 hB hp hq K hK => ?_
            have e60 : aa.tmps[60]?.getD undef = .agg #[.int .i64 ge, .int .i64 g.r.fd, .int .u32 g.r.ino, .int .u32 g.r.s0, .int .u8 g.r.s1, .int .i64 g.r.s2, .int .u32 g.r.s3, .slice gA g.r.lst.length gc, .string g.r.dt] := hq 3 _ (by kernel_rfl) rfl
            have e61 : aa.tmps[61]?.getD undef = .agg #[.int .i64 e.err, .int .i64 e.fd, .int .u32 e.ino, .int .u32 e.s0, .int .u8 e.s1, .int .i64 e.s2, .int .u32 e.s3, .slice e.la e.ln e.lc, .string e.dt] := hq 4 _ (by kernel_rfl) rfl
            clear hp hq
            go_simp
            go_at_call 219
            (with_reducible refine (HAK.out W2 (ptrans HB6.out (relB_get hB))).mono ?_)
            rintro e5 w7 ⟨rfl, hb5⟩
            exact hK _ _ (RelB.of hb5) rfl
          · refine opR_mk rfl fun aa W2 hB hp hq K hK => ?_
            have e62 : aa.tmps[62]?.getD undef = .bool true := hq 5 _ (by kernel_rfl) rfl
            clear hp hq
            go_simp
            exact hK _ _ (RelB.refl _) rfl
        · intro vs W3 hB3 hv3 _
          have v6 : vs 6 = .bool false := hv3 6 _ rfl rfl
          have HB7 := zz (ptrans HB6.out (relB_get hB3))
          simp only [putAll, Act.put, List.setIfInBounds_toArray, List.set_cons_succ, List.set_cons_zero, Nat.zero_add, Nat.reduceAdd]
          rw [v6]
          clear hB3 hv3 v6
          have q27 := HQ2.out W3 HB7.out
          have x07 := HX0.out W3 HB7.out
          have cC7 : W3.cell? ⟨C, core, none⟩ = some (.pointer (some ⟨G, 0, none⟩)) := HCK.out W3 HB7.out
          have fC7 : W3.frozen? ⟨C, core, none⟩ = false := Rep.froz (HRV.out W3 HB7.out)
          go_wp2
          have HCQ := zz hcq
          refine wp_region_st (fun j W => if j = 0 then Below W3.heap.size W3 W else Rep w1.heap.size w1 Q P Pt Pf C N q (some ⟨b, off, none⟩) n c (s.put core none) W) RelB (RelC C) [7] (phi [isV (.pointer (some ⟨Q, 0, none⟩)), isV (.pointer (some ⟨Q, 0, none⟩)), isV (.pointer (some ⟨Q, 2, none⟩)), isV (.slice (some ⟨C, 0, none⟩) q q), isV (.pointer (some ⟨w.heap.size, 0, none⟩)), isV (.int .i64 (core : Int)), isV (.pointer (some ⟨C, core, none⟩)), (fun _ _ => True)]) (by kernel_rfl) (by kernel_rfl) (by kernel_rfl) (by kernel_rfl) (by kernel_rfl) (below_drew _) (fun j _ _ h hb => by by_cases hj : j = 0; (rw [if_pos hj] at h ⊢; exact ptrans h (relB_get hb)); (rw [if_neg hj] at h ⊢; exact h.below (relB_get hb))) (fun _ _ h => RelC.of h) ?_ ?_ ?_
          · refine stays_phiR ?_
            simp only [List.forall_mem_cons]
            exact ⟨kv, kv, kv, kv, kv, kv, kv, fun _ _ _ _ _ => trivial, fun _ h => absurd h (by simp)⟩
          · refine ⟨?_, ?_, ?_, ?_, ?_, ?_, ?_, ?_, trivial⟩
            · refine opS_mk rfl rfl fun aa W2 nJ hJ hp hq K hK => ?_
              have e0 : aa.tmps[0]?.getD undef = .pointer (some ⟨Q, 0, none⟩) := hp 0 (by kernel_rfl)
              clear hp hq
              go_simp
              exact hK _ _ (RelB.refl _) rfl
            · refine opS_mk rfl rfl fun aa W2 nJ hJ hp hq K hK => ?_
              have e64 : aa.tmps[64]?.getD undef = .pointer (some ⟨Q, 0, none⟩) := hq 0 _ (by kernel_rfl) rfl
              clear hp hq
              go_simp
              exact hK _ _ (RelB.refl _) rfl
            · refine opS_mk rfl rfl fun aa W2 nJ hJ hp hq K hK => ?_
              have e65 : aa.tmps[65]?.getD undef = .pointer (some ⟨Q, 0, none⟩) := hq 1 _ (by kernel_rfl) rfl
              clear hp hq
              go_simp
              exact hK _ _ (RelB.refl _) rfl
            · refine opS_ahead (m := 0) (k := 7) rfl rfl rfl rfl (by kernel_rfl) fun aa W2 nJ hnJ hJ hp hq K hK => ?_
              have e66 : aa.tmps[66]?.getD undef = .pointer (some ⟨Q, 2, none⟩) := hq 2 _ (by kernel_rfl) rfl
              obtain rfl : nJ = 0 := by omega
              have hJB : Below W3.heap.size W3 W2 := hJ
              have d1 := HQ2.out W2 (ptrans HB7.out hJB)
              clear hp hq
              go_simp
              exact hK _ _ (RelB.refl _) rfl
            · refine opS_mk rfl rfl fun aa W2 nJ hJ hp hq K hK => ?_
              have e5 : aa.tmps[5]?.getD undef = .pointer (some ⟨w.heap.size, 0, none⟩) := hp 5 (by kernel_rfl)
              clear hp hq
              go_simp
              exact hK _ _ (RelB.refl _) rfl
            · refine opS_ahead (m := 0) (k := 7) rfl rfl rfl rfl (by kernel_rfl) fun aa W2 nJ hnJ hJ hp hq K hK => ?_
              have e68 : aa.tmps[68]?.getD undef = .pointer (some ⟨w.heap.size, 0, none⟩) := hq 4 _ (by kernel_rfl) rfl
              obtain rfl : nJ = 0 := by omega
              have hJB : Below W3.heap.size W3 W2 := hJ
              have d2 := HX0.out W2 (ptrans HB7.out hJB)
              clear hp hq
              go_simp
              exact hK _ _ (RelB.refl _) rfl
            · refine opS_mk rfl rfl fun aa W2 nJ hJ hp hq K hK => ?_
              have e67 : aa.tmps[67]?.getD undef = .slice (some ⟨C, 0, none⟩) q q := hq 3 _ (by kernel_rfl) rfl
              have e69 : aa.tmps[69]?.getD undef = .int .i64 (core : Int) := hq 5 _ (by kernel_rfl) rfl
              clear hp hq
              go_simp
              exact hK _ _ (RelB.refl _) rfl
            · refine opS_at (m := 0) rfl rfl fun aa W2 hJ hp hq K hK => ?_
              have e70 : aa.tmps[70]?.getD undef = .pointer (some ⟨C, core, none⟩) := hq 6 _ (by kernel_rfl) rfl
              have hJB : Below W3.heap.size W3 W2 := hJ
              have d3 : W2.cell? ⟨C, core, none⟩ = some (.pointer (some ⟨G, 0, none⟩)) := HCK.out W2 (ptrans HB7.out hJB)
              have d4 : W2.frozen? ⟨C, core, none⟩ = false := Rep.froz (HRV.out W2 (ptrans HB7.out hJB))
              have HNW := zz (Rep.ended (HRV.out W2 (ptrans HB7.out hJB)) HCQ.out)
              clear hJ hJB
              clear hp hq
              go_simp
              exact hK undef _ (fun b o hb ho => (Below.heap_setCell _ _ _ b hb).trans ho) HNW.out trivial
          · intro vs W9 hJ9 hv9 _
            have HN9 : Hid (Rep w1.heap.size w1 Q P Pt Pf C N q (some ⟨b, off, none⟩) n c (s.put core none) W9) := hJ9
            simp only [putAll, Act.put, List.setIfInBounds_toArray, List.set_cons_succ, List.set_cons_zero, Nat.zero_add, Nat.reduceAdd]
            clear hJ9 hv9
            go_wp2
            go_ret
            exact ⟨by rw [HF.out]; rfl, by rw [HF.out]; exact HN9.out⟩
   · have h14b : (ga == 14) = false := by simpa using h14
     by_cases h15 : ga = 15
     · subst h15
       by_cases he0 : ge = 0
       · subst he0
         have HAS := zz (show askedR g e = { e.rp with err := 0 } from by
          unfold askedR
          rw [if_pos ⟨.inr HGA2.out, HGE2.out⟩])
         have HAK := zz (show ∀ W', Below w3.heap.size w3 W' → Calls Tryz.prog 219 #[.agg #[.int .i64 0, .int .i64 g.r.fd, .int .u32 g.r.ino, .int .u32 g.r.s0, .int .u8 g.r.s1, .int .i64 g.r.s2, .int .u32 g.r.s3, .slice gA g.r.lst.length gc, .string g.r.dt], .agg #[.int .i64 0, .int .i64 e.fd, .int .u32 e.ino, .int .u32 e.s0, .int .u8 e.s1, .int .i64 e.s2, .int .u32 e.s3, .slice e.la e.ln e.lc, .string e.dt]] W' fun e' w' => e' = .returned (.bool (decide (g.r = { e.rp with err := 0 }))) ∧ Below W'.heap.size W' w' from fun W' hb => by
          refine t_alike31 g.r { e.rp with err := 0 } _ _ W' ⟨gA, gc, ?_, ERd.of (HGE.out W' hb)⟩ ⟨e.la, e.lc, ?_, HLR.out W' hb⟩ HLN.out
          · unfold Rp.val
            rw [HGE2.out]
          · show _ = Rp.val ⟨0, e.fd, e.ino, e.s0, e.s1, e.s2, e.s3, e.lst, e.dt⟩ e.la e.lc
            unfold Rp.val
            rw [HLL.out])
         obtain ⟨al, hal⟩ : ∃ al, decide (g.r = { e.rp with err := 0 }) = al := ⟨_, rfl⟩
         rw [hal] at HAK
         have hr3 := HR2.out
         rw [HAS.out] at hr3
         obtain ⟨w6, hw6⟩ : ∃ w6, w5.setCell ⟨w4.heap.size, 0, none⟩ (.int .i64 0) = w6 := ⟨_, rfl⟩
         have HB6 := zz (show Below w3.heap.size w3 w6 from by rw [← hw6]; exact HB5.out.setCell (p := ⟨w4.heap.size, 0, none⟩) HB4.out.size _)
         have hr6 : w6.heap[w4.heap.size]? = some (.cells #[.int .i64 0, .int .i64 e.fd, .int .u32 e.ino, .int .u32 e.s0, .int .u8 e.s1, .int .i64 e.s2, .int .u32 e.s3, .slice e.la e.ln e.lc, .string e.dt] 39 (0, 0)) := by
          rw [← hw6, pheap_set w5 w4.heap.size 0 _ _ _ HR5.out]
          rfl
         have hrl := (Array.getElem?_eq_some_iff.1 hr6).1
         have HRC := zz (fun (W : World) (hb : Below w6.heap.size w6 W) => resC9 ((hb.block _ hrl).trans hr6))
         clear hr6 hrl
         cases al with
         | false =>
          have HF := zz (show r = (311, s) from by rw [← hr3, if_neg (by simpa using hal)])
          clear hr3 hal
          go_wp2
          refine wp_region_rel RelB (phi [isV (.pointer (some ⟨G, 0, none⟩)), isV (.pointer (some ⟨G, 0, none⟩)), isV (.pointer (some ⟨G, 8, none⟩)), isV (.agg #[.int .i64 0, .int .i64 g.r.fd, .int .u32 g.r.ino, .int .u32 g.r.s0, .int .u8 g.r.s1, .int .i64 g.r.s2, .int .u32 g.r.s3, .slice gA g.r.lst.length gc, .string g.r.dt]), isV (.agg #[.int .i64 0, .int .i64 e.fd, .int .u32 e.ino, .int .u32 e.s0, .int .u8 e.s1, .int .i64 e.s2, .int .u32 e.s3, .slice e.la e.ln e.lc, .string e.dt]), isV (.bool false), isV (.bool true)]) (by kernel_rfl) (by kernel_rfl) (by kernel_rfl) (RelB.of (below_drew _)) (fun _ _ _ a b => a.trans b) ?_ ?_ ?_
          · refine stays_phiR ?_
            simp only [List.forall_mem_cons]
            exact ⟨kv, kv, kv, kv, kv, kv, kv, fun _ h => absurd h (by simp)⟩
          · refine ⟨?_, ?_, ?_, ?_, ?_, ?_, ?_, trivial⟩
            · refine opR_mk rfl fun aa W2 hB hp hq K hK => ?_
              have e6 : aa.tmps[6]?.getD undef = .pointer (some ⟨G, 0, none⟩) := hp 6 (by kernel_rfl)
              clear hp hq
              go_simp
              exact hK _ _ (RelB.refl _) rfl
            · refine opR_mk rfl fun aa W2 hB hp hq K hK => ?_
              have e57 : aa.tmps[57]?.getD undef = .pointer (some ⟨G, 0, none⟩) := hq 0 _ (by kernel_rfl) rfl
              clear hp hq
              go_simp
              exact hK _ _ (RelB.refl _) rfl
            · refine opR_mk rfl fun aa W2 hB hp hq K hK => ?_
              have e58 : aa.tmps[58]?.getD undef = .pointer (some ⟨G, 0, none⟩) := hq 1 _ (by kernel_rfl) rfl
              clear hp hq
              go_simp
              exact hK _ _ (RelB.refl _) rfl
            · refine opR_mk rfl fun aa W2 hB hp hq K hK => ?_
              have e59 : aa.tmps[59]?.getD undef = .pointer (some ⟨G, 8, none⟩) := hq 2 _ (by kernel_rfl) rfl
              obtain ⟨_, _, t8, t9, t10, t11, t12, t13, t14, t15, t16⟩ := HGB.out W2 (ptrans HB6.out (relB_get hB))
              rw [HGE2.out] at t8
              clear hp hq
              go_simp
              exact hK _ _ (RelB.refl _) rfl
            · refine opR_mk rfl fun aa W2 hB hp hq K hK => ?_
              have e7 : aa.tmps[7]?.getD undef = .pointer (some ⟨w4.heap.size, 0, none⟩) := hp 7 (by kernel_rfl)
              obtain ⟨s0, s1, s2, s3, s4, s5, s6, s7, s8, _⟩ := HRC.out W2 (relB_get hB)
              clear hp hq
              go_simp
              exact hK _ _ (RelB.refl _) rfl
            · refine opR_mk rfl fun aa W2 hB hp hq K hK => ?_
              have e60 : aa.tmps[60]?.getD undef = .agg #[.int .i64 0, .int .i64 g.r.fd, .int .u32 g.r.ino, .int .u32 g.r.s0, .int .u8 g.r.s1, .int .i64 g.r.s2, .int .u32 g.r.s3, .slice gA g.r.lst.length gc, .string g.r.dt] := hq 3 _ (by kernel_rfl) rfl
              have e61 : aa.tmps[61]?.getD undef = .agg #[.int .i64 0, .int .i64 e.fd, .int .u32 e.ino, .int .u32 e.s0, .int .u8 e.s1, .int .i64 e.s2, .int .u32 e.s3, .slice e.la e.ln e.lc, .string e.dt] := hq 4 _ (by kernel_rfl) rfl
              clear hp hq
              go_simp
              go_at_call 219
              (with_reducible refine (HAK.out W2 (ptrans HB6.out (relB_get hB))).mono ?_)
              rintro e5 w7 ⟨rfl, hb5⟩
              exact hK _ _ (RelB.of hb5) rfl
            · refine opR_mk rfl fun aa W2 hB hp hq K hK => ?_
              have e62 : aa.tmps[62]?.getD undef = .bool false := hq 5 _ (by kernel_rfl) rfl
              clear hp hq
              go_simp
              exact hK _ _ (RelB.refl _) rfl
          · intro vs W3 hB3 hv3 _
            have v6 : vs 6 = .bool true := hv3 6 _ rfl rfl
            have HB7 := zz (ptrans HB6.out (relB_get hB3))
            simp only [putAll, Act.put, List.setIfInBounds_toArray, List.set_cons_succ, List.set_cons_zero, Nat.zero_add, Nat.reduceAdd]
            rw [v6]
            clear hB3 hv3 v6
            go_wp2
            go_ret
            exact ⟨by rw [HF.out]; rfl, by rw [HF.out]; exact HRV.out _ HB7.out⟩
         | true =>
          have HF := zz (show r = (0, s.put core none) from by rw [← hr3, if_pos (by simpa using hal)])
          clear hr3 hal
          go_wp2
          refine wp_region_rel RelB (phi [isV (.pointer (some ⟨G, 0, none⟩)), isV (.pointer (some ⟨G, 0, none⟩)), isV (.pointer (some ⟨G, 8, none⟩)), isV (.agg #[.int .i64 0, .int .i64 g.r.fd, .int .u32 g.r.ino, .int .u32 g.r.s0, .int .u8 g.r.s1, .int .i64 g.r.s2, .int .u32 g.r.s3, .slice gA g.r.lst.length gc, .string g.r.dt]), isV (.agg #[.int .i64 0, .int .i64 e.fd, .int .u32 e.ino, .int .u32 e.s0, .int .u8 e.s1, .int .i64 e.s2, .int .u32 e.s3, .slice e.la e.ln e.lc, .string e.dt]), isV (.bool true), isV (.bool false)]) (by kernel_rfl) (by kernel_rfl) (by kernel_rfl) (RelB.of (below_drew _)) (fun _ _ _ a b => a.trans b) ?_ ?_ ?_
          · refine stays_phiR ?_
            simp only [List.forall_mem_cons]
            exact ⟨kv, kv, kv, kv, kv, kv, kv, fun _ h => absurd h (by simp)⟩
          · refine ⟨?_, ?_, ?_, ?_, ?_, ?_, ?_, trivial⟩
            · refine opR_mk rfl fun aa W2 hB hp hq K hK => ?_
              have e6 : aa.tmps[6]?.getD undef = .pointer (some ⟨G, 0, none⟩) := hp 6 (by kernel_rfl)
              clear hp hq
              go_simp
              exact hK _ _ (RelB.refl _) rfl
            · refine opR_mk rfl fun aa W2 hB hp hq K hK => ?_
              have e57 : aa.tmps[57]?.getD undef = .pointer (some ⟨G, 0, none⟩) := hq 0 _ (by kernel_rfl) rfl
              clear hp hq
              go_simp
              exact hK _ _ (RelB.refl _) rfl
            · refine opR_mk rfl fun aa W2 hB hp hq K hK => ?_
              have e58 : aa.tmps[58]?.getD undef = .pointer (some ⟨G, 0, none⟩) := hq 1 _ (by kernel_rfl) rfl
              clear hp hq
              go_simp
              exact hK _ _ (RelB.refl _) rfl
            · refine opR_mk rfl fun aa W2 hB hp hq K hK => ?_
              have e59 : aa.tmps[59]?.getD undef = .pointer (some ⟨G, 8, none⟩) := hq 2 _ (by kernel_rfl) rfl
              obtain ⟨_, _, t8, t9, t10, t11, t12, t13, t14, t15, t16⟩ := HGB.out W2 (ptrans HB6.out (relB_get hB))
              rw [HGE2.out] at t8
              clear hp hq
              go_simp
              exact hK _ _ (RelB.refl _) rfl
            · refine opR_mk rfl fun aa W2 hB hp hq K hK => ?_
              have e7 : aa.tmps[7]?.getD undef = .pointer (some ⟨w4.heap.size, 0, none⟩) := hp 7 (by kernel_rfl)
              obtain ⟨s0, s1, s2, s3, s4, s5, s6, s7, s8, _⟩ := HRC.out W2 (relB_get hB)
              clear hp hq
              go_simp
              exact hK _ _ (RelB.refl _) rfl
            · refine opR_mk rfl fun aa W2 hB hp hq K hK => ?_
              have e60 : aa.tmps[60]?.getD undef = .agg #[.int .i64 0, .int .i64 g.r.fd, .int .u32 g.r.ino, .int .u32 g.r.s0, .int .u8 g.r.s1, .int .i64 g.r.s2, .int .u32 g.r.s3, .slice gA g.r.lst.length gc, .string g.r.dt] := hq 3 _ (by kernel_rfl) rfl
              have e61 : aa.tmps[61]?.getD undef = .agg #[.int .i64 0, .int .i64 e.fd, .int .u32 e.ino, .int .u32 e.s0, .int .u8 e.s1, .int .i64 e.s2, .int .u32 e.s3, .slice e.la e.ln e.lc, .string e.dt] := hq 4 _ (by kernel_rfl) rfl
              clear hp hq
              go_simp
              go_at_call 219
              (with_reducible refine (HAK.out W2 (ptrans HB6.out (relB_get hB))).mono ?_)
              rintro e5 w7 ⟨rfl, hb5⟩
              exact hK _ _ (RelB.of hb5) rfl
            · refine opR_mk rfl fun aa W2 hB hp hq K hK => ?_
              have e62 : aa.tmps[62]?.getD undef = .bool true := hq 5 _ (by kernel_rfl) rfl
              clear hp hq
              go_simp
              exact hK _ _ (RelB.refl _) rfl
          · intro vs W3 hB3 hv3 _
            have v6 : vs 6 = .bool false := hv3 6 _ rfl rfl
            have HB7 := zz (ptrans HB6.out (relB_get hB3))
            simp only [putAll, Act.put, List.setIfInBounds_toArray, List.set_cons_succ, List.set_cons_zero, Nat.zero_add, Nat.reduceAdd]
            rw [v6]
            clear hB3 hv3 v6
            have q27 := HQ2.out W3 HB7.out
            have x07 := HX0.out W3 HB7.out
            have cC7 : W3.cell? ⟨C, core, none⟩ = some (.pointer (some ⟨G, 0, none⟩)) := HCK.out W3 HB7.out
            have fC7 : W3.frozen? ⟨C, core, none⟩ = false := Rep.froz (HRV.out W3 HB7.out)
            go_wp2
            have HCQ := zz hcq
            refine wp_region_st (fun j W => if j = 0 then Below W3.heap.size W3 W else Rep w1.heap.size w1 Q P Pt Pf C N q (some ⟨b, off, none⟩) n c (s.put core none) W) RelB (RelC C) [7] (phi [isV (.pointer (some ⟨Q, 0, none⟩)), isV (.pointer (some ⟨Q, 0, none⟩)), isV (.pointer (some ⟨Q, 2, none⟩)), isV (.slice (some ⟨C, 0, none⟩) q q), isV (.pointer (some ⟨w.heap.size, 0, none⟩)), isV (.int .i64 (core : Int)), isV (.pointer (some ⟨C, core, none⟩)), (fun _ _ => True)]) (by kernel_rfl) (by kernel_rfl) (by kernel_rfl) (by kernel_rfl) (by kernel_rfl) (below_drew _) (fun j _ _ h hb => by by_cases hj : j = 0; (rw [if_pos hj] at h ⊢; exact ptrans h (relB_get hb)); (rw [if_neg hj] at h ⊢; exact h.below (relB_get hb))) (fun _ _ h => RelC.of h) ?_ ?_ ?_
            · refine stays_phiR ?_
              simp only [List.forall_mem_cons]
              exact ⟨kv, kv, kv, kv, kv, kv, kv, fun _ _ _ _ _ => trivial, fun _ h => absurd h (by simp)⟩
            · refine ⟨?_, ?_, ?_, ?_, ?_, ?_, ?_, ?_, trivial⟩
              · refine opS_mk rfl rfl fun aa W2 nJ hJ hp hq K hK => ?_
                have e0 : aa.tmps[0]?.getD undef = .pointer (some ⟨Q, 0, none⟩) := hp 0 (by kernel_rfl)
                clear hp hq
                go_simp
                exact hK _ _ (RelB.refl _) rfl
              · refine opS_mk rfl rfl fun aa W2 nJ hJ hp hq K hK => ?_
                have e64 : aa.tmps[64]?.getD undef = .pointer (some ⟨Q, 0, none⟩) := hq 0 _ (by kernel_rfl) rfl
                clear hp hq
                go_simp
                exact hK _ _ (RelB.refl _) rfl
              · refine opS_mk rfl rfl fun aa W2 nJ hJ hp hq K hK => ?_
                have e65 : aa.tmps[65]?.getD undef = .pointer (some ⟨Q, 0, none⟩) := hq 1 _ (by kernel_rfl) rfl
                clear hp hq
                go_simp
                exact hK _ _ (RelB.refl _) rfl
              · refine opS_ahead (m := 0) (k := 7) rfl rfl rfl rfl (by kernel_rfl) fun aa W2 nJ hnJ hJ hp hq K hK => ?_
                have e66 : aa.tmps[66]?.getD undef = .pointer (some ⟨Q, 2, none⟩) := hq 2 _ (by kernel_rfl) rfl
                obtain rfl : nJ = 0 := by omega
                have hJB : Below W3.heap.size W3 W2 := hJ
                have d1 := HQ2.out W2 (ptrans HB7.out hJB)
                clear hp hq
                go_simp
                exact hK _ _ (RelB.refl _) rfl
              · refine opS_mk rfl rfl fun aa W2 nJ hJ hp hq K hK => ?_
                have e5 : aa.tmps[5]?.getD undef = .pointer (some ⟨w.heap.size, 0, none⟩) := hp 5 (by kernel_rfl)
                clear hp hq
                go_simp
                exact hK _ _ (RelB.refl _) rfl
              · refine opS_ahead (m := 0) (k := 7) rfl rfl rfl rfl (by kernel_rfl) fun aa W2 nJ hnJ hJ hp hq K hK => ?_
                have e68 : aa.tmps[68]?.getD undef = .pointer (some ⟨w.heap.size, 0, none⟩) := hq 4 _ (by kernel_rfl) rfl
                obtain rfl : nJ = 0 := by omega
                have hJB : Below W3.heap.size W3 W2 := hJ
                have d2 := HX0.out W2 (ptrans HB7.out hJB)
                clear hp hq
                go_simp
                exact hK _ _ (RelB.refl _) rfl
              · refine opS_mk rfl rfl fun aa W2 nJ hJ hp hq K hK => ?_
                have e67 : aa.tmps[67]?.getD undef = .slice (some ⟨C, 0, none⟩) q q := hq 3 _ (by kernel_rfl) rfl
                have e69 : aa.tmps[69]?.getD undef = .int .i64 (core : Int) := hq 5 _ (by kernel_rfl) rfl
                clear hp hq
                go_simp
                exact hK _ _ (RelB.refl _) rfl
              · refine opS_at (m := 0) rfl rfl fun aa W2 hJ hp hq K hK => ?_
                have e70 : aa.tmps[70]?.getD undef = .pointer (some ⟨C, core, none⟩) := hq 6 _ (by kernel_rfl) rfl
                have hJB : Below W3.heap.size W3 W2 := hJ
                have d3 : W2.cell? ⟨C, core, none⟩ = some (.pointer (some ⟨G, 0, none⟩)) := HCK.out W2 (ptrans HB7.out hJB)
                have d4 : W2.frozen? ⟨C, core, none⟩ = false := Rep.froz (HRV.out W2 (ptrans HB7.out hJB))
                have HNW := zz (Rep.ended (HRV.out W2 (ptrans HB7.out hJB)) HCQ.out)
                clear hJ hJB
                clear hp hq
                go_simp
                exact hK undef _ (fun b o hb ho => (Below.heap_setCell _ _ _ b hb).trans ho) HNW.out trivial
            · intro vs W9 hJ9 hv9 _
              have HN9 : Hid (Rep w1.heap.size w1 Q P Pt Pf C N q (some ⟨b, off, none⟩) n c (s.put core none) W9) := hJ9
              simp only [putAll, Act.put, List.setIfInBounds_toArray, List.set_cons_succ, List.set_cons_zero, Nat.zero_add, Nat.reduceAdd]
              clear hJ9 hv9
              go_wp2
              go_ret
              exact ⟨by rw [HF.out]; rfl, by rw [HF.out]; exact HN9.out⟩
       · have heb : (ge == 0) = false := by simpa using he0
         have HAS := zz (show askedR g e = e.rp from by
          unfold askedR
          rw [if_neg (fun h => he0 (by rw [← HGE2.out]; exact h.2))])
         have HAK := zz (show ∀ W', Below w3.heap.size w3 W' → Calls Tryz.prog 219 #[.agg #[.int .i64 ge, .int .i64 g.r.fd, .int .u32 g.r.ino, .int .u32 g.r.s0, .int .u8 g.r.s1, .int .i64 g.r.s2, .int .u32 g.r.s3, .slice gA g.r.lst.length gc, .string g.r.dt], .agg #[.int .i64 e.err, .int .i64 e.fd, .int .u32 e.ino, .int .u32 e.s0, .int .u8 e.s1, .int .i64 e.s2, .int .u32 e.s3, .slice e.la e.ln e.lc, .string e.dt]] W' fun e' w' => e' = .returned (.bool (decide (g.r = e.rp))) ∧ Below W'.heap.size W' w' from fun W' hb => by
          refine t_alike31 g.r e.rp _ _ W' ⟨gA, gc, ?_, ERd.of (HGE.out W' hb)⟩ ⟨e.la, e.lc, ?_, HLR.out W' hb⟩ HLN.out
          · unfold Rp.val
            rw [HGE2.out]
          · show _ = Rp.val ⟨e.err, e.fd, e.ino, e.s0, e.s1, e.s2, e.s3, e.lst, e.dt⟩ e.la e.lc
            unfold Rp.val
            rw [HLL.out])
         obtain ⟨al, hal⟩ : ∃ al, decide (g.r = e.rp) = al := ⟨_, rfl⟩
         rw [hal] at HAK
         have hr3 := HR2.out
         rw [HAS.out] at hr3
         have HB6 := HB5
         have hrl := (Array.getElem?_eq_some_iff.1 HR5.out).1
         have HRC := zz (fun (W : World) (hb : Below w5.heap.size w5 W) => resC9 ((hb.block _ hrl).trans HR5.out))
         clear hrl
         cases al with
         | false =>
          have HF := zz (show r = (311, s) from by rw [← hr3, if_neg (by simpa using hal)])
          clear hr3 hal
          go_wp2
          refine wp_region_rel RelB (phi [isV (.pointer (some ⟨G, 0, none⟩)), isV (.pointer (some ⟨G, 0, none⟩)), isV (.pointer (some ⟨G, 8, none⟩)), isV (.agg #[.int .i64 ge, .int .i64 g.r.fd, .int .u32 g.r.ino, .int .u32 g.r.s0, .int .u8 g.r.s1, .int .i64 g.r.s2, .int .u32 g.r.s3, .slice gA g.r.lst.length gc, .string g.r.dt]), isV (.agg #[.int .i64 e.err, .int .i64 e.fd, .int .u32 e.ino, .int .u32 e.s0, .int .u8 e.s1, .int .i64 e.s2, .int .u32 e.s3, .slice e.la e.ln e.lc, .string e.dt]), isV (.bool false), isV (.bool true)]) (by kernel_rfl) (by kernel_rfl) (by kernel_rfl) (RelB.of (below_drew _)) (fun _ _ _ a b => a.trans b) ?_ ?_ ?_
          · refine stays_phiR ?_
            simp only [List.forall_mem_cons]
            exact ⟨kv, kv, kv, kv, kv, kv, kv, fun _ h => absurd h (by simp)⟩
          · refine ⟨?_, ?_, ?_, ?_, ?_, ?_, ?_, trivial⟩
            · refine opR_mk rfl fun aa W2 hB hp hq K hK => ?_
              have e6 : aa.tmps[6]?.getD undef = .pointer (some ⟨G, 0, none⟩) := hp 6 (by kernel_rfl)
              clear hp hq
              go_simp
              exact hK _ _ (RelB.refl _) rfl
            · refine opR_mk rfl fun aa W2 hB hp hq K hK => ?_
              have e57 : aa.tmps[57]?.getD undef = .pointer (some ⟨G, 0, none⟩) := hq 0 _ (by kernel_rfl) rfl
              clear hp hq
              go_simp
              exact hK _ _ (RelB.refl _) rfl
            · refine opR_mk rfl fun aa W2 hB hp hq K hK => ?_
              have e58 : aa.tmps[58]?.getD undef = .pointer (some ⟨G, 0, none⟩) := hq 1 _ (by kernel_rfl) rfl
              clear hp hq
              go_simp
              exact hK _ _ (RelB.refl _) rfl
            · refine opR_mk rfl fun aa W2 hB hp hq K hK => ?_
              have e59 : aa.tmps[59]?.getD undef = .pointer (some ⟨G, 8, none⟩) := hq 2 _ (by kernel_rfl) rfl
              obtain ⟨_, _, t8, t9, t10, t11, t12, t13, t14, t15, t16⟩ := HGB.out W2 (ptrans HB6.out (relB_get hB))
              rw [HGE2.out] at t8
              clear hp hq
              go_simp
              exact hK _ _ (RelB.refl _) rfl
            · refine opR_mk rfl fun aa W2 hB hp hq K hK => ?_
              have e7 : aa.tmps[7]?.getD undef = .pointer (some ⟨w4.heap.size, 0, none⟩) := hp 7 (by kernel_rfl)
              obtain ⟨s0, s1, s2, s3, s4, s5, s6, s7, s8, _⟩ := HRC.out W2 (relB_get hB)
              clear hp hq
              go_simp
              exact hK _ _ (RelB.refl _) rfl
            · refine opR_mk rfl fun aa W2 hB hp hq K hK => ?_
              have e60 : aa.tmps[60]?.getD undef = .agg #[.int .i64 ge, .int .i64 g.r.fd, .int .u32 g.r.ino, .int .u32 g.r.s0, .int .u8 g.r.s1, .int .i64 g.r.s2, .int .u32 g.r.s3, .slice gA g.r.lst.length gc, .string g.r.dt] := hq 3 _ (by kernel_rfl) rfl
              have e61 : aa.tmps[61]?.getD undef = .agg #[.int .i64 e.err, .int .i64 e.fd, .int .u32 e.ino, .int .u32 e.s0, .int .u8 e.s1, .int .i64 e.s2, .int .u32 e.s3, .slice e.la e.ln e.lc, .string e.dt] := hq 4 _ (by kernel_rfl) rfl
              clear hp hq
              go_simp
              go_at_call 219
              (with_reducible refine (HAK.out W2 (ptrans HB6.out (relB_get hB))).mono ?_)
              rintro e5 w7 ⟨rfl, hb5⟩
              exact hK _ _ (RelB.of hb5) rfl
            · refine opR_mk rfl fun aa W2 hB hp hq K hK => ?_
              have e62 : aa.tmps[62]?.getD undef = .bool false := hq 5 _ (by kernel_rfl) rfl
              clear hp hq
              go_simp
              exact hK _ _ (RelB.refl _) rfl
          · intro vs W3 hB3 hv3 _
            have v6 : vs 6 = .bool true := hv3 6 _ rfl rfl
            have HB7 := zz (ptrans HB6.out (relB_get hB3))
            simp only [putAll, Act.put, List.setIfInBounds_toArray, List.set_cons_succ, List.set_cons_zero, Nat.zero_add, Nat.reduceAdd]
            rw [v6]
            clear hB3 hv3 v6
            go_wp2
            go_ret
            exact ⟨by rw [HF.out]; rfl, by rw [HF.out]; exact HRV.out _ HB7.out⟩
         | true =>
          have HF := zz (show r = (0, s.put core none) from by rw [← hr3, if_pos (by simpa using hal)])
          clear hr3 hal
          go_wp2
          refine wp_region_rel RelB (phi [isV (.pointer (some ⟨G, 0, none⟩)), isV (.pointer (some ⟨G, 0, none⟩)), isV (.pointer (some ⟨G, 8, none⟩)), isV (.agg #[.int .i64 ge, .int .i64 g.r.fd, .int .u32 g.r.ino, .int .u32 g.r.s0, .int .u8 g.r.s1, .int .i64 g.r.s2, .int .u32 g.r.s3, .slice gA g.r.lst.length gc, .string g.r.dt]), isV (.agg #[.int .i64 e.err, .int .i64 e.fd, .int .u32 e.ino, .int .u32 e.s0, .int .u8 e.s1, .int .i64 e.s2, .int .u32 e.s3, .slice e.la e.ln e.lc, .string e.dt]), isV (.bool true), isV (.bool false)]) (by kernel_rfl) (by kernel_rfl) (by kernel_rfl) (RelB.of (below_drew _)) (fun _ _ _ a b => a.trans b) ?_ ?_ ?_
          · refine stays_phiR ?_
            simp only [List.forall_mem_cons]
            exact ⟨kv, kv, kv, kv, kv, kv, kv, fun _ h => absurd h (by simp)⟩
          · refine ⟨?_, ?_, ?_, ?_, ?_, ?_, ?_, trivial⟩
            · refine opR_mk rfl fun aa W2 hB hp hq K hK => ?_
              have e6 : aa.tmps[6]?.getD undef = .pointer (some ⟨G, 0, none⟩) := hp 6 (by kernel_rfl)
              clear hp hq
              go_simp
              exact hK _ _ (RelB.refl _) rfl
            · refine opR_mk rfl fun aa W2 hB hp hq K hK => ?_
              have e57 : aa.tmps[57]?.getD undef = .pointer (some ⟨G, 0, none⟩) := hq 0 _ (by kernel_rfl) rfl
              clear hp hq
              go_simp
              exact hK _ _ (RelB.refl _) rfl
            · refine opR_mk rfl fun aa W2 hB hp hq K hK => ?_
              have e58 : aa.tmps[58]?.getD undef = .pointer (some ⟨G, 0, none⟩) := hq 1 _ (by kernel_rfl) rfl
              clear hp hq
              go_simp
              exact hK _ _ (RelB.refl _) rfl
            · refine opR_mk rfl fun aa W2 hB hp hq K hK => ?_
              have e59 : aa.tmps[59]?.getD undef = .pointer (some ⟨G, 8, none⟩) := hq 2 _ (by kernel_rfl) rfl
              obtain ⟨_, _, t8, t9, t10, t11, t12, t13, t14, t15, t16⟩ := HGB.out W2 (ptrans HB6.out (relB_get hB))
              rw [HGE2.out] at t8
              clear hp hq
              go_simp
              exact hK _ _ (RelB.refl _) rfl
            · refine opR_mk rfl fun aa W2 hB hp hq K hK => ?_
              have e7 : aa.tmps[7]?.getD undef = .pointer (some ⟨w4.heap.size, 0, none⟩) := hp 7 (by kernel_rfl)
              obtain ⟨s0, s1, s2, s3, s4, s5, s6, s7, s8, _⟩ := HRC.out W2 (relB_get hB)
              clear hp hq
              go_simp
              exact hK _ _ (RelB.refl _) rfl
            · refine opR_mk rfl fun aa W2 hB hp hq K hK => ?_
              have e60 : aa.tmps[60]?.getD undef = .agg #[.int .i64 ge, .int .i64 g.r.fd, .int .u32 g.r.ino, .int .u32 g.r.s0, .int .u8 g.r.s1, .int .i64 g.r.s2, .int .u32 g.r.s3, .slice gA g.r.lst.length gc, .string g.r.dt] := hq 3 _ (by kernel_rfl) rfl
              have e61 : aa.tmps[61]?.getD undef = .agg #[.int .i64 e.err, .int .i64 e.fd, .int .u32 e.ino, .int .u32 e.s0, .int .u8 e.s1, .int .i64 e.s2, .int .u32 e.s3, .slice e.la e.ln e.lc, .string e.dt] := hq 4 _ (by kernel_rfl) rfl
              clear hp hq
              go_simp
              go_at_call 219
              (with_reducible refine (HAK.out W2 (ptrans HB6.out (relB_get hB))).mono ?_)
              rintro e5 w7 ⟨rfl, hb5⟩
              exact hK _ _ (RelB.of hb5) rfl
            · refine opR_mk rfl fun aa W2 hB hp hq K hK => ?_
              have e62 : aa.tmps[62]?.getD undef = .bool true := hq 5 _ (by kernel_rfl) rfl
              clear hp hq
              go_simp
              exact hK _ _ (RelB.refl _) rfl
          · intro vs W3 hB3 hv3 _
            have v6 : vs 6 = .bool false := hv3 6 _ rfl rfl
            have HB7 := zz (ptrans HB6.out (relB_get hB3))
            simp only [putAll, Act.put, List.setIfInBounds_toArray, List.set_cons_succ, List.set_cons_zero, Nat.zero_add, Nat.reduceAdd]
            rw [v6]
            clear hB3 hv3 v6
            have q27 := HQ2.out W3 HB7.out
            have x07 := HX0.out W3 HB7.out
            have cC7 : W3.cell? ⟨C, core, none⟩ = some (.pointer (some ⟨G, 0, none⟩)) := HCK.out W3 HB7.out
            have fC7 : W3.frozen? ⟨C, core, none⟩ = false := Rep.froz (HRV.out W3 HB7.out)
            go_wp2
            have HCQ := zz hcq
            refine wp_region_st (fun j W => if j = 0 then Below W3.heap.size W3 W else Rep w1.heap.size w1 Q P Pt Pf C N q (some ⟨b, off, none⟩) n c (s.put core none) W) RelB (RelC C) [7] (phi [isV (.pointer (some ⟨Q, 0, none⟩)), isV (.pointer (some ⟨Q, 0, none⟩)), isV (.pointer (some ⟨Q, 2, none⟩)), isV (.slice (some ⟨C, 0, none⟩) q q), isV (.pointer (some ⟨w.heap.size, 0, none⟩)), isV (.int .i64 (core : Int)), isV (.pointer (some ⟨C, core, none⟩)), (fun _ _ => True)]) (by kernel_rfl) (by kernel_rfl) (by kernel_rfl) (by kernel_rfl) (by kernel_rfl) (below_drew _) (fun j _ _ h hb => by by_cases hj : j = 0; (rw [if_pos hj] at h ⊢; exact ptrans h (relB_get hb)); (rw [if_neg hj] at h ⊢; exact h.below (relB_get hb))) (fun _ _ h => RelC.of h) ?_ ?_ ?_
            · refine stays_phiR ?_
              simp only [List.forall_mem_cons]
              exact ⟨kv, kv, kv, kv, kv, kv, kv, fun _ _ _ _ _ => trivial, fun _ h => absurd h (by simp)⟩
            · refine ⟨?_, ?_, ?_, ?_, ?_, ?_, ?_, ?_, trivial⟩
              · refine opS_mk rfl rfl fun aa W2 nJ hJ hp hq K hK => ?_
                have e0 : aa.tmps[0]?.getD undef = .pointer (some ⟨Q, 0, none⟩) := hp 0 (by kernel_rfl)
                clear hp hq
                go_simp
                exact hK _ _ (RelB.refl _) rfl
              · refine opS_mk rfl rfl fun aa W2 nJ hJ hp hq K hK => ?_
                have e64 : aa.tmps[64]?.getD undef = .pointer (some ⟨Q, 0, none⟩) := hq 0 _ (by kernel_rfl) rfl
                clear hp hq
                go_simp
                exact hK _ _ (RelB.refl _) rfl
              · refine opS_mk rfl rfl fun aa W2 nJ hJ hp hq K hK => ?_
                have e65 : aa.tmps[65]?.getD undef = .pointer (some ⟨Q, 0, none⟩) := hq 1 _ (by kernel_rfl) rfl
                clear hp hq
                go_simp
                exact hK _ _ (RelB.refl _) rfl
              · refine opS_ahead (m := 0) (k := 7) rfl rfl rfl rfl (by kernel_rfl) fun aa W2 nJ hnJ hJ hp hq K hK => ?_
                have e66 : aa.tmps[66]?.getD undef = .pointer (some ⟨Q, 2, none⟩) := hq 2 _ (by kernel_rfl) rfl
                obtain rfl : nJ = 0 := by omega
                have hJB : Below W3.heap.size W3 W2 := hJ
                have d1 := HQ2.out W2 (ptrans HB7.out hJB)
                clear hp hq
                go_simp
                exact hK _ _ (RelB.refl _) rfl
              · refine opS_mk rfl rfl fun aa W2 nJ hJ hp hq K hK => ?_
                have e5 : aa.tmps[5]?.getD undef = .pointer (some ⟨w.heap.size, 0, none⟩) := hp 5 (by kernel_rfl)
                clear hp hq
                go_simp
                exact hK _ _ (RelB.refl _) rfl
              · refine opS_ahead (m := 0) (k := 7) rfl rfl rfl rfl (by kernel_rfl) fun aa W2 nJ hnJ hJ hp hq K hK => ?_
                have e68 : aa.tmps[68]?.getD undef = .pointer (some ⟨w.heap.size, 0, none⟩) := hq 4 _ (by kernel_rfl) rfl
                obtain rfl : nJ = 0 := by omega
                have hJB : Below W3.heap.size W3 W2 := hJ
                have d2 := HX0.out W2 (ptrans HB7.out hJB)
                clear hp hq
                go_simp
                exact hK _ _ (RelB.refl _) rfl
              · refine opS_mk rfl rfl fun aa W2 nJ hJ hp hq K hK => ?_
                have e67 : aa.tmps[67]?.getD undef = .slice (some ⟨C, 0, none⟩) q q := hq 3 _ (by kernel_rfl) rfl
                have e69 : aa.tmps[69]?.getD undef = .int .i64 (core : Int) := hq 5 _ (by kernel_rfl) rfl
                clear hp hq
                go_simp
                exact hK _ _ (RelB.refl _) rfl
              · refine opS_at (m := 0) rfl rfl fun aa W2 hJ hp hq K hK => ?_
                have e70 : aa.tmps[70]?.getD undef = .pointer (some ⟨C, core, none⟩) := hq 6 _ (by kernel_rfl) rfl
                have hJB : Below W3.heap.size W3 W2 := hJ
                have d3 : W2.cell? ⟨C, core, none⟩ = some (.pointer (some ⟨G, 0, none⟩)) := HCK.out W2 (ptrans HB7.out hJB)
                have d4 : W2.frozen? ⟨C, core, none⟩ = false := Rep.froz (HRV.out W2 (ptrans HB7.out hJB))
                have HNW := zz (Rep.ended (HRV.out W2 (ptrans HB7.out hJB)) HCQ.out)
                clear hJ hJB
                clear hp hq
                go_simp
                exact hK undef _ (fun b o hb ho => (Below.heap_setCell _ _ _ b hb).trans ho) HNW.out trivial
            · intro vs W9 hJ9 hv9 _
              have HN9 : Hid (Rep w1.heap.size w1 Q P Pt Pf C N q (some ⟨b, off, none⟩) n c (s.put core none) W9) := hJ9
              simp only [putAll, Act.put, List.setIfInBounds_toArray, List.set_cons_succ, List.set_cons_zero, Nat.zero_add, Nat.reduceAdd]
              clear hJ9 hv9
              go_wp2
              go_ret
              exact ⟨by rw [HF.out]; rfl, by rw [HF.out]; exact HN9.out⟩
     · have h15b : (ga == 15) = false := by simpa using h15
       have HAS := zz (show askedR g e = e.rp from by
        unfold askedR
        rw [if_neg (fun h => by rcases h.1 with h | h; (exact h14 (by rw [← HGA2.out]; exact h)); (exact h15 (by rw [← HGA2.out]; exact h)))])
       have HAK := zz (show ∀ W', Below w3.heap.size w3 W' → Calls Tryz.prog 219 #[.agg #[.int .i64 ge, .int .i64 g.r.fd, .int .u32 g.r.ino, .int .u32 g.r.s0, .int .u8 g.r.s1, .int .i64 g.r.s2, .int .u32 g.r.s3, .slice gA g.r.lst.length gc, .string g.r.dt], .agg #[.int .i64 e.err, .int .i64 e.fd, .int .u32 e.ino, .int .u32 e.s0, .int .u8 e.s1, .int .i64 e.s2, .int .u32 e.s3, .slice e.la e.ln e.lc, .string e.dt]] W' fun e' w' => e' = .returned (.bool (decide (g.r = e.rp))) ∧ Below W'.heap.size W' w' from fun W' hb => by
        refine t_alike31 g.r e.rp _ _ W' ⟨gA, gc, ?_, ERd.of (HGE.out W' hb)⟩ ⟨e.la, e.lc, ?_, HLR.out W' hb⟩ HLN.out
        · unfold Rp.val
          rw [HGE2.out]
        · show _ = Rp.val ⟨e.err, e.fd, e.ino, e.s0, e.s1, e.s2, e.s3, e.lst, e.dt⟩ e.la e.lc
          unfold Rp.val
          rw [HLL.out])
       obtain ⟨al, hal⟩ : ∃ al, decide (g.r = e.rp) = al := ⟨_, rfl⟩
       rw [hal] at HAK
       have hr3 := HR2.out
       rw [HAS.out] at hr3
       have HB6 := HB5
       have hrl := (Array.getElem?_eq_some_iff.1 HR5.out).1
       have HRC := zz (fun (W : World) (hb : Below w5.heap.size w5 W) => resC9 ((hb.block _ hrl).trans HR5.out))
       clear hrl
       cases al with
       | false =>
        have HF := zz (show r = (311, s) from by rw [← hr3, if_neg (by simpa using hal)])
        clear hr3 hal
        go_wp2
        refine wp_region_rel RelB (phi [isV (.pointer (some ⟨G, 0, none⟩)), isV (.pointer (some ⟨G, 0, none⟩)), isV (.pointer (some ⟨G, 8, none⟩)), isV (.agg #[.int .i64 ge, .int .i64 g.r.fd, .int .u32 g.r.ino, .int .u32 g.r.s0, .int .u8 g.r.s1, .int .i64 g.r.s2, .int .u32 g.r.s3, .slice gA g.r.lst.length gc, .string g.r.dt]), isV (.agg #[.int .i64 e.err, .int .i64 e.fd, .int .u32 e.ino, .int .u32 e.s0, .int .u8 e.s1, .int .i64 e.s2, .int .u32 e.s3, .slice e.la e.ln e.lc, .string e.dt]), isV (.bool false), isV (.bool true)]) (by kernel_rfl) (by kernel_rfl) (by kernel_rfl) (RelB.of (below_drew _)) (fun _ _ _ a b => a.trans b) ?_ ?_ ?_
        · refine stays_phiR ?_
          simp only [List.forall_mem_cons]
          exact ⟨kv, kv, kv, kv, kv, kv, kv, fun _ h => absurd h (by simp)⟩
        · refine ⟨?_, ?_, ?_, ?_, ?_, ?_, ?_, trivial⟩
          · refine opR_mk rfl fun aa W2 hB hp hq K hK => ?_
            have e6 : aa.tmps[6]?.getD undef = .pointer (some ⟨G, 0, none⟩) := hp 6 (by kernel_rfl)
            clear hp hq
            go_simp
            exact hK _ _ (RelB.refl _) rfl
          · refine opR_mk rfl fun aa W2 hB hp hq K hK => ?_
            have e57 : aa.tmps[57]?.getD undef = .pointer (some ⟨G, 0, none⟩) := hq 0 _ (by kernel_rfl) rfl
            clear hp hq
            go_simp
            exact hK _ _ (RelB.refl _) rfl
          · refine opR_mk rfl fun aa W2 hB hp hq K hK => ?_
            have e58 : aa.tmps[58]?.getD undef = .pointer (some ⟨G, 0, none⟩) := hq 1 _ (by kernel_rfl) rfl
            clear hp hq
            go_simp
            exact hK _ _ (RelB.refl _) rfl
          · refine opR_mk rfl fun aa W2 hB hp hq K hK => ?_
            have e59 : aa.tmps[59]?.getD undef = .pointer (some ⟨G, 8, none⟩) := hq 2 _ (by kernel_rfl) rfl
            obtain ⟨_, _, t8, t9, t10, t11, t12, t13, t14, t15, t16⟩ := HGB.out W2 (ptrans HB6.out (relB_get hB))
            rw [HGE2.out] at t8
            clear hp hq
            go_simp
            exact hK _ _ (RelB.refl _) rfl
          · refine opR_mk rfl fun aa W2 hB hp hq K hK => ?_
            have e7 : aa.tmps[7]?.getD undef = .pointer (some ⟨w4.heap.size, 0, none⟩) := hp 7 (by kernel_rfl)
            obtain ⟨s0, s1, s2, s3, s4, s5, s6, s7, s8, _⟩ := HRC.out W2 (relB_get hB)
            clear hp hq
            go_simp
            exact hK _ _ (RelB.refl _) rfl
          · refine opR_mk rfl fun aa W2 hB hp hq K hK => ?_
            have e60 : aa.tmps[60]?.getD undef = .agg #[.int .i64 ge, .int .i64 g.r.fd, .int .u32 g.r.ino, .int .u32 g.r.s0, .int .u8 g.r.s1, .int .i64 g.r.s2, .int .u32 g.r.s3, .slice gA g.r.lst.length gc, .string g.r.dt] := hq 3 _ (by kernel_rfl) rfl
            have e61 : aa.tmps[61]?.getD undef = .agg #[.int .i64 e.err, .int .i64 e.fd, .int .u32 e.ino, .int .u32 e.s0, .int .u8 e.s1, .int .i64 e.s2, .int .u32 e.s3, .slice e.la e.ln e.lc, .string e.dt] := hq 4 _ (by kernel_rfl) rfl
            clear hp hq
            go_simp
            go_at_call 219
            (with_reducible refine (HAK.out W2 (ptrans HB6.out (relB_get hB))).mono ?_)
            rintro e5 w7 ⟨rfl, hb5⟩
            exact hK _ _ (RelB.of hb5) rfl
          · refine opR_mk rfl fun aa W2 hB hp hq K hK => ?_
            have e62 : aa.tmps[62]?.getD undef = .bool false := hq 5 _ (by kernel_rfl) rfl
            clear hp hq
            go_simp
            exact hK _ _ (RelB.refl _) rfl
        · intro vs W3 hB3 hv3 _
          have v6 : vs 6 = .bool true := hv3 6 _ rfl rfl
          have HB7 := zz (ptrans HB6.out (relB_get hB3))
          simp only [putAll, Act.put, List.setIfInBounds_toArray, List.set_cons_succ, List.set_cons_zero, Nat.zero_add, Nat.reduceAdd]
          rw [v6]
          clear hB3 hv3 v6
          go_wp2
          go_ret
          exact ⟨by rw [HF.out]; rfl, by rw [HF.out]; exact HRV.out _ HB7.out⟩
       | true =>
        have HF := zz (show r = (0, s.put core none) from by rw [← hr3, if_pos (by simpa using hal)])
        clear hr3 hal
        go_wp2
        refine wp_region_rel RelB (phi [isV (.pointer (some ⟨G, 0, none⟩)), isV (.pointer (some ⟨G, 0, none⟩)), isV (.pointer (some ⟨G, 8, none⟩)), isV (.agg #[.int .i64 ge, .int .i64 g.r.fd, .int .u32 g.r.ino, .int .u32 g.r.s0, .int .u8 g.r.s1, .int .i64 g.r.s2, .int .u32 g.r.s3, .slice gA g.r.lst.length gc, .string g.r.dt]), isV (.agg #[.int .i64 e.err, .int .i64 e.fd, .int .u32 e.ino, .int .u32 e.s0, .int .u8 e.s1, .int .i64 e.s2, .int .u32 e.s3, .slice e.la e.ln e.lc, .string e.dt]), isV (.bool true), isV (.bool false)]) (by kernel_rfl) (by kernel_rfl) (by kernel_rfl) (RelB.of (below_drew _)) (fun _ _ _ a b => a.trans b) ?_ ?_ ?_
        · refine stays_phiR ?_
          simp only [List.forall_mem_cons]
          exact ⟨kv, kv, kv, kv, kv, kv, kv, fun _ h => absurd h (by simp)⟩
        · refine ⟨?_, ?_, ?_, ?_, ?_, ?_, ?_, trivial⟩
          · refine opR_mk rfl fun aa W2 hB hp hq K hK => ?_
            have e6 : aa.tmps[6]?.getD undef = .pointer (some ⟨G, 0, none⟩) := hp 6 (by kernel_rfl)
            clear hp hq
            go_simp
            exact hK _ _ (RelB.refl _) rfl
          · refine opR_mk rfl fun aa W2 hB hp hq K hK => ?_
            have e57 : aa.tmps[57]?.getD undef = .pointer (some ⟨G, 0, none⟩) := hq 0 _ (by kernel_rfl) rfl
            clear hp hq
            go_simp
            exact hK _ _ (RelB.refl _) rfl
          · refine opR_mk rfl fun aa W2 hB hp hq K hK => ?_
            have e58 : aa.tmps[58]?.getD undef = .pointer (some ⟨G, 0, none⟩) := hq 1 _ (by kernel_rfl) rfl
            clear hp hq
            go_simp
            exact hK _ _ (RelB.refl _) rfl
          · refine opR_mk rfl fun aa W2 hB hp hq K hK => ?_
            have e59 : aa.tmps[59]?.getD undef = .pointer (some ⟨G, 8, none⟩) := hq 2 _ (by kernel_rfl) rfl
            obtain ⟨_, _, t8, t9, t10, t11, t12, t13, t14, t15, t16⟩ := HGB.out W2 (ptrans HB6.out (relB_get hB))
            rw [HGE2.out] at t8
            clear hp hq
            go_simp
            exact hK _ _ (RelB.refl _) rfl
          · refine opR_mk rfl fun aa W2 hB hp hq K hK => ?_
            have e7 : aa.tmps[7]?.getD undef = .pointer (some ⟨w4.heap.size, 0, none⟩) := hp 7 (by kernel_rfl)
            obtain ⟨s0, s1, s2, s3, s4, s5, s6, s7, s8, _⟩ := HRC.out W2 (relB_get hB)
            clear hp hq
            go_simp
            exact hK _ _ (RelB.refl _) rfl
          · refine opR_mk rfl fun aa W2 hB hp hq K hK => ?_
            have e60 : aa.tmps[60]?.getD undef = .agg #[.int .i64 ge, .int .i64 g.r.fd, .int .u32 g.r.ino, .int .u32 g.r.s0, .int .u8 g.r.s1, .int .i64 g.r.s2, .int .u32 g.r.s3, .slice gA g.r.lst.length gc, .string g.r.dt] := hq 3 _ (by kernel_rfl) rfl
            have e61 : aa.tmps[61]?.getD undef = .agg #[.int .i64 e.err, .int .i64 e.fd, .int .u32 e.ino, .int .u32 e.s0, .int .u8 e.s1, .int .i64 e.s2, .int .u32 e.s3, .slice e.la e.ln e.lc, .string e.dt] := hq 4 _ (by kernel_rfl) rfl
            clear hp hq
            go_simp
            go_at_call 219
            (with_reducible refine (HAK.out W2 (ptrans HB6.out (relB_get hB))).mono ?_)
            rintro e5 w7 ⟨rfl, hb5⟩
            exact hK _ _ (RelB.of hb5) rfl
          · refine opR_mk rfl fun aa W2 hB hp hq K hK => ?_
            have e62 : aa.tmps[62]?.getD undef = .bool true := hq 5 _ (by kernel_rfl) rfl
            clear hp hq
            go_simp
            exact hK _ _ (RelB.refl _) rfl
        · intro vs W3 hB3 hv3 _
          have v6 : vs 6 = .bool false := hv3 6 _ rfl rfl
          have HB7 := zz (ptrans HB6.out (relB_get hB3))
          simp only [putAll, Act.put, List.setIfInBounds_toArray, List.set_cons_succ, List.set_cons_zero, Nat.zero_add, Nat.reduceAdd]
          rw [v6]
          clear hB3 hv3 v6
          have q27 := HQ2.out W3 HB7.out
          have x07 := HX0.out W3 HB7.out
          have cC7 : W3.cell? ⟨C, core, none⟩ = some (.pointer (some ⟨G, 0, none⟩)) := HCK.out W3 HB7.out
          have fC7 : W3.frozen? ⟨C, core, none⟩ = false := Rep.froz (HRV.out W3 HB7.out)
          go_wp2
          have HCQ := zz hcq
          refine wp_region_st (fun j W => if j = 0 then Below W3.heap.size W3 W else Rep w1.heap.size w1 Q P Pt Pf C N q (some ⟨b, off, none⟩) n c (s.put core none) W) RelB (RelC C) [7] (phi [isV (.pointer (some ⟨Q, 0, none⟩)), isV (.pointer (some ⟨Q, 0, none⟩)), isV (.pointer (some ⟨Q, 2, none⟩)), isV (.slice (some ⟨C, 0, none⟩) q q), isV (.pointer (some ⟨w.heap.size, 0, none⟩)), isV (.int .i64 (core : Int)), isV (.pointer (some ⟨C, core, none⟩)), (fun _ _ => True)]) (by kernel_rfl) (by kernel_rfl) (by kernel_rfl) (by kernel_rfl) (by kernel_rfl) (below_drew _) (fun j _ _ h hb => by by_cases hj : j = 0; (rw [if_pos hj] at h ⊢; exact ptrans h (relB_get hb)); (rw [if_neg hj] at h ⊢; exact h.below (relB_get hb))) (fun _ _ h => RelC.of h) ?_ ?_ ?_
          · refine stays_phiR ?_
            simp only [List.forall_mem_cons]
            exact ⟨kv, kv, kv, kv, kv, kv, kv, fun _ _ _ _ _ => trivial, fun _ h => absurd h (by simp)⟩
          · refine ⟨?_, ?_, ?_, ?_, ?_, ?_, ?_, ?_, trivial⟩
            · refine opS_mk rfl rfl fun aa W2 nJ hJ hp hq K hK => ?_
              have e0 : aa.tmps[0]?.getD undef = .pointer (some ⟨Q, 0, none⟩) := hp 0 (by kernel_rfl)
              clear hp hq
              go_simp
              exact hK _ _ (RelB.refl _) rfl
            · refine opS_mk rfl rfl fun aa W2 nJ hJ hp hq K hK => ?_
              have e64 : aa.tmps[64]?.getD undef = .pointer (some ⟨Q, 0, none⟩) := hq 0 _ (by kernel_rfl) rfl
              clear hp hq
              go_simp
              exact hK _ _ (RelB.refl _) rfl
            · refine opS_mk rfl rfl fun aa W2 nJ hJ hp hq K hK => ?_
              have e65 : aa.tmps[65]?.getD undef = .pointer (some ⟨Q, 0, none⟩) := hq 1 _ (by kernel_rfl) rfl
              clear hp hq
              go_simp
              exact hK _ _ (RelB.refl _) rfl
            · refine opS_ahead (m := 0) (k := 7) rfl rfl rfl rfl (by kernel_rfl) fun aa W2 nJ hnJ hJ hp hq K hK => ?_
              have e66 : aa.tmps[66]?.getD undef = .pointer (some ⟨Q, 2, none⟩) := hq 2 _ (by kernel_rfl) rfl
              obtain rfl : nJ = 0 := by omega
              have hJB : Below W3.heap.size W3 W2 := hJ
              have d1 := HQ2.out W2 (ptrans HB7.out hJB)
              clear hp hq
              go_simp
              exact hK _ _ (RelB.refl _) rfl
            · refine opS_mk rfl rfl fun aa W2 nJ hJ hp hq K hK => ?_
              have e5 : aa.tmps[5]?.getD undef = .pointer (some ⟨w.heap.size, 0, none⟩) := hp 5 (by kernel_rfl)
              clear hp hq
              go_simp
              exact hK _ _ (RelB.refl _) rfl
            · refine opS_ahead (m := 0) (k := 7) rfl rfl rfl rfl (by kernel_rfl) fun aa W2 nJ hnJ hJ hp hq K hK => ?_
              have e68 : aa.tmps[68]?.getD undef = .pointer (some ⟨w.heap.size, 0, none⟩) := hq 4 _ (by kernel_rfl) rfl
              obtain rfl : nJ = 0 := by omega
              have hJB : Below W3.heap.size W3 W2 := hJ
              have d2 := HX0.out W2 (ptrans HB7.out hJB)
              clear hp hq
              go_simp
              exact hK _ _ (RelB.refl _) rfl
            · refine opS_mk rfl rfl fun aa W2 nJ hJ hp hq K hK => ?_
              have e67 : aa.tmps[67]?.getD undef = .slice (some ⟨C, 0, none⟩) q q := hq 3 _ (by kernel_rfl) rfl
              have e69 : aa.tmps[69]?.getD undef = .int .i64 (core : Int) := hq 5 _ (by kernel_rfl) rfl
              clear hp hq
              go_simp
              exact hK _ _ (RelB.refl _) rfl
            · refine opS_at (m := 0) rfl rfl fun aa W2 hJ hp hq K hK => ?_
              have e70 : aa.tmps[70]?.getD undef = .pointer (some ⟨C, core, none⟩) := hq 6 _ (by kernel_rfl) rfl
              have hJB : Below W3.heap.size W3 W2 := hJ
              have d3 : W2.cell? ⟨C, core, none⟩ = some (.pointer (some ⟨G, 0, none⟩)) := HCK.out W2 (ptrans HB7.out hJB)
              have d4 : W2.frozen? ⟨C, core, none⟩ = false := Rep.froz (HRV.out W2 (ptrans HB7.out hJB))
              have HNW := zz (Rep.ended (HRV.out W2 (ptrans HB7.out hJB)) HCQ.out)
              clear hJ hJB
              clear hp hq
              go_simp
              exact hK undef _ (fun b o hb ho => (Below.heap_setCell _ _ _ b hb).trans ho) HNW.out trivial
          · intro vs W9 hJ9 hv9 _
            have HN9 : Hid (Rep w1.heap.size w1 Q P Pt Pf C N q (some ⟨b, off, none⟩) n c (s.put core none) W9) := hJ9
            simp only [putAll, Act.put, List.setIfInBounds_toArray, List.set_cons_succ, List.set_cons_zero, Nat.zero_add, Nat.reduceAdd]
            clear hJ9 hv9
            go_wp2
            go_ret
            exact ⟨by rw [HF.out]; rfl, by rw [HF.out]; exact HN9.out⟩
end
end Go.Proofs.YtpcnolkdnmolgaaGreatDoor
