/- A model's deeds: what is held. -/
import Derived.Test.YtpcnolkdnmolgaaGreatDoorPh07
import Derived.Test.YtpcnolkdnmolgaaGreatDoorPh08
import Derived.Test.YtpcnolkdnmolgaaGreatDoorPh11
import Derived.Test.YtpcnolkdnmolgaaGreatDoorPh14
import Derived.Test.YtpcnolkdnmolgaaGreatDoorPh18
namespace Go.Proofs.YtpcnolkdnmolgaaGreatDoor
section
open Go.RowKit Go.Maps
structure HeldJ (W1 W : World) (F : Nat → Prop) (P Pt Pf N : Nat) (m : MD) (R : Nat) (cs : Array Value) : Prop where
 mod : ∃ Wm, ModB W1 Wm F P Pt Pf N m ∧ Wm.grownBy W (some R)
 box : W.heap[R]? = some (.cells cs 39 (0, 0))
section
variable {w W1 W W' : World} {F : Nat → Prop} {P Pt Pf N R : Nat} {m : MD} {cs : Array Value}
theorem HeldJ.of (h : ModB W1 W F P Pt Pf N m) (hF : ∀ b, Fm F P Pf b → b < w.heap.size) (hz : W1.heap[w.heap.size + 1]? = some (.cells cs 39 (0, 0))) (_hb : Below w.heap.size w W1) : HeldJ W1 W F P Pt Pf N m (w.heap.size + 1) cs :=
 ⟨⟨W, h, grown_refl _ _⟩, h.box hF (by omega) hz⟩
theorem HeldJ.stay (h : HeldJ W1 W F P Pt Pf N m R cs) (hb : Below W.heap.size W W') : HeldJ W1 W' F P Pt Pf N m R cs := by
 obtain ⟨⟨Wm, h1, h2⟩, h3⟩ := h
 exact ⟨⟨Wm, h1, pgrown_trans h2 ⟨hb.os, hb.tape, hb.output, hb.size, fun b hb2 _ => hb.block b hb2⟩⟩, (hb.block _ (Array.getElem?_eq_some_iff.1 h3).1).trans h3⟩
theorem HeldJ.store (h : HeldJ W1 W F P Pt Pf N m R cs) (j : Nat) (v : Value) : HeldJ W1 (W.setCell ⟨R, j, none⟩ v) F P Pt Pf N m R (cs.setIfInBounds j v) := by
 obtain ⟨⟨Wm, h1, h2⟩, h3⟩ := h
 exact ⟨⟨Wm, h1, pgrown_trans h2 (pgrown_set _ _ _ _)⟩, cset v h3⟩
theorem close_of {y : Lay} {c : Nat} {fd tv : Int} (hM : ModM W F P Pt Pf N y m) (hc : (c : Int) < m.n) (hn8 : m.n ≤ 8) (hfd : 0 ≤ fd ∧ fd ≤ 15) (htv : m.T (c * 16 + fd.toNat) = tv) (h0 : tv ≠ 0) :
  Calls Tryz.prog 113 #[.pointer (some ⟨Pf, 0, none⟩), .int .i64 c, .int .i64 fd] W fun e w' => e = .returned (.tuple #[.int .u32 tv, .int .i64 0]) ∧ ModB W w' F P Pt Pf (N + 2) { m with T := updT m.T (c * 16 + fd.toNat) 0 } := by
 have hfdn : fd = (fd.toNat : Int) := by omega
 have k := fds_close_tab Pf c fd.toNat m.T m.n W hM.tab hc (by omega) hn8 (by rw [htv]; exact h0)
 rw [← hfdn, htv] at k
 exact k.mono fun e w' ⟨h1, h2, h3, _⟩ => ⟨h1, (hM.tabB h2 h3).mono (by omega)⟩
end
section
variable {F : Nat → Prop} {P Pt Pf N : Nat} {y : Lay} {m : MD}
set_option maxRecDepth 100000 in
set_option maxHeartbeats 2000000 in
theorem t_heldC (w : World) (h : ModM w F P Pt Pf N y m) (hO : m.Ok) (c : Nat) (hc : (c : Int) < m.n) (x : Cx) (hx : x.path.size ≤ maxLen) (hx2 : x.path2.size ≤ maxLen) (hN : N ≤ 50000) (hfd : 0 ≤ x.fd ∧ x.fd ≤ 15) (hsz0 : 0 ≤ x.size) (hdt : x.data.size ≤ maxLen) :
  Calls Tryz.prog 73 #[.pointer (some ⟨P, 0, none⟩), .int .i64 c, callV x] w (ResP w F P Pt Pf (N + 2) m.t (heldM m c x)) := by
 obtain ⟨act, p1, p2, fd, pg, sz, dt⟩ := x
 have hlt := h.lt
 obtain ⟨W1, hW1, hX, hZ, hsz, hB1⟩ := two_blocks w #[.int .u8 act, .string p1, .string p2, .int .i64 fd, .int .i64 pg, .int .u32 sz, .string dt] #[.int .i64 0, .int .i64 0, .int .u32 0, .int .u32 0, .int .u8 0, .int .i64 0, .int .u32 0, .slice none 0 0, .string ⟨#[]⟩] 31 39
 have hM : ModM W1 F P Pt Pf N y m := h.below hB1
 have HM := zz hM
 have HB1 := zz hB1
 have HZ := zz hZ
 have HX := zz hX
 have HLT := zz hlt
 have HO := zz hO
 show Calls Tryz.prog 73 #[.pointer (some ⟨P, 0, none⟩), .int .i64 c, .agg #[.int .u8 act, .string p1, .string p2, .int .i64 fd, .int .i64 pg, .int .u32 sz, .string dt]] w _
 have hp1 : p1.size ≤ maxLen := hx
 have hp2 : p2.size ≤ maxLen := hx2
 clear hx hx2 hM hB1 hZ hX hlt hO h hsz
 have hfd1 : 0 ≤ fd ∧ fd ≤ 15 := hfd
 have hsz1 : 0 ≤ sz := hsz0
 have hdt1 : dt.size ≤ maxLen := hdt
 clear hfd hsz0 hdt
 have hn8 := HO.out.cores.2
 obtain ⟨tv, htv⟩ : ∃ tv, m.T (c * 16 + fd.toNat) = tv := ⟨_, rfl⟩
 obtain ⟨tb, htb⟩ : ∃ tb, (tv != 0) = tb := ⟨_, rfl⟩
 have hp : c * 16 + fd.toNat < 128 := by omega
 have hof : ofT m.T m.n c fd = tv := by
  unfold ofT
  rw [if_pos ⟨by omega, hc, hfd1.1, hfd1.2⟩, ← htv]
  rfl
 have htu : U32 tv := by
  have := HoldOk.u32 HO.out hp
  rw [htv] at this
  exact ⟨by omega, by omega⟩
 have HOF := zz (show (∀ W, ModM W F P Pt Pf N y m → Calls Tryz.prog 46 #[.pointer (some ⟨Pf, 0, none⟩), .int .i64 c, .int .i64 fd] W fun e w' => e = .returned (.tuple #[.int .u32 tv, .bool tb]) ∧ W = w') from fun W hM => by have := t_fdsOf Pf c fd m.T m.n W hM.tab hn8; rw [hof, htb] at this; exact this)
 have HMG := zz (show ∀ W, Below W1.heap.size W1 W → ModM W F P Pt Pf N y m from fun W hb => HM.out.below hb)
 have HXG := zz (show ∀ W, Below W1.heap.size W1 W → W.heap[w.heap.size]? = some (.cells #[.int .u8 act, .string p1, .string p2, .int .i64 fd, .int .i64 pg, .int .u32 sz, .string dt] 31 (0, 0)) from fun W hb => (hb.block _ (Array.getElem?_eq_some_iff.1 HX.out).1).trans HX.out)
 have HZG := zz (show ∀ W, Below W1.heap.size W1 W → W.heap[w.heap.size + 1]? = some (.cells #[.int .i64 0, .int .i64 0, .int .u32 0, .int .u32 0, .int .u8 0, .int .i64 0, .int .u32 0, .slice none 0 0, .string ⟨#[]⟩] 39 (0, 0)) from fun W hb => (hb.block _ (Array.getElem?_eq_some_iff.1 HZ.out).1).trans HZ.out)
 obtain ⟨rr, hrr⟩ : ∃ rr, heldM m c ⟨act, p1, p2, fd, pg, sz, dt⟩ = rr := ⟨_, rfl⟩
 rw [hrr]
 have HRR := zz hrr
 have HTV := zz htv
 have HTB := zz htb
 clear hof htv htb hrr
 go_enter Tryz.func73, Tryz.ntmps73
 go_wp2
 refine wp_region_rel RelB (phi [isV (.pointer (some ⟨P, 0, none⟩)), isV (.pointer (some ⟨P, 0, none⟩)), isV (.pointer (some ⟨P, 1, none⟩)), isV (.pointer (some ⟨Pf, 0, none⟩)), isV (.int .i64 c), isV (.pointer (some ⟨w.heap.size, 3, none⟩)), isV (.int .i64 fd), isV (.tuple #[.int .u32 tv, .bool tb]), isV (.tuple #[.int .u32 tv, .bool tb]), isV (.int .u32 tv), isV (.bool tb), isV (.int .u32 tv), isV (.bool tb)]) (by kernel_rfl) (by kernel_rfl) (by kernel_rfl) (RelB.of (below_drew _)) (fun _ _ _ a b => a.trans b) ?_ ?_ ?_
 · refine stays_phiR ?_
   simp only [List.forall_mem_cons]
   exact ⟨kv, kv, kv, kv, kv, kv, kv, kv, kv, kv, kv, kv, kv, fun _ h => absurd h (by simp)⟩
 · refine ⟨?_, ?_, ?_, ?_, ?_, ?_, ?_, ?_, ?_, ?_, ?_, ?_, ?_, trivial⟩
   · refine opR_mk rfl fun aa W2 hB hp hq K hK => ?_
     have e0 : aa.tmps[0]?.getD undef = .pointer (some ⟨P, 0, none⟩) := hp 0 (by kernel_rfl)
     clear hp hq
     go_simp
     exact hK _ _ (RelB.refl _) rfl
   · refine opR_mk rfl fun aa W2 hB hp hq K hK => ?_
     have e10 : aa.tmps[10]?.getD undef = .pointer (some ⟨P, 0, none⟩) := hq 0 _ (by kernel_rfl) rfl
     clear hp hq
     go_simp
     exact hK _ _ (RelB.refl _) rfl
   · refine opR_mk rfl fun aa W2 hB hp hq K hK => ?_
     have e11 : aa.tmps[11]?.getD undef = .pointer (some ⟨P, 0, none⟩) := hq 1 _ (by kernel_rfl) rfl
     clear hp hq
     go_simp
     exact hK _ _ (RelB.refl _) rfl
   · refine opR_mk rfl fun aa W2 hB hp hq K hK => ?_
     have e12 : aa.tmps[12]?.getD undef = .pointer (some ⟨P, 1, none⟩) := hq 2 _ (by kernel_rfl) rfl
     have c1 := (HMG.out _ hB).c1
     clear hp hq
     go_simp
     exact hK _ _ (RelB.refl _) rfl
   · refine opR_mk rfl fun aa W2 hB hp hq K hK => ?_
     have e1 : aa.tmps[1]?.getD undef = .int .i64 c := hp 1 (by kernel_rfl)
     clear hp hq
     go_simp
     exact hK _ _ (RelB.refl _) rfl
   · refine opR_mk rfl fun aa W2 hB hp hq K hK => ?_
     have e5 : aa.tmps[5]?.getD undef = .pointer (some ⟨w.heap.size, 0, none⟩) := hp 5 (by kernel_rfl)
     clear hp hq
     go_simp
     exact hK _ _ (RelB.refl _) rfl
   · refine opR_mk rfl fun aa W2 hB hp hq K hK => ?_
     have e15 : aa.tmps[15]?.getD undef = .pointer (some ⟨w.heap.size, 3, none⟩) := hq 5 _ (by kernel_rfl) rfl
     have hx2 := HXG.out _ hB
     have c0 : W2.cell? ⟨w.heap.size, 3, none⟩ = some (.int .i64 fd) := by simp [World.cell?, hx2]
     clear hp hq
     go_simp
     exact hK _ _ (RelB.refl _) rfl
   · refine opR_mk rfl fun aa W2 hB hp hq K hK => ?_
     have e13 : aa.tmps[13]?.getD undef = .pointer (some ⟨Pf, 0, none⟩) := hq 3 _ (by kernel_rfl) rfl
     have e14 : aa.tmps[14]?.getD undef = .int .i64 c := hq 4 _ (by kernel_rfl) rfl
     have e16 : aa.tmps[16]?.getD undef = .int .i64 fd := hq 6 _ (by kernel_rfl) rfl
     have hA := HOF.out _ (HMG.out _ hB)
     clear hp hq
     go_simp
     go_at_call 46
     (with_reducible refine hA.mono ?_)
     rintro e z8 ⟨rfl, rfl⟩
     exact hK _ _ (RelB.refl _) rfl
   · refine opR_mk rfl fun aa W2 hB hp hq K hK => ?_
     have e17 : aa.tmps[17]?.getD undef = .tuple #[.int .u32 tv, .bool tb] := hq 7 _ (by kernel_rfl) rfl
     clear hp hq
     go_simp
     exact hK _ _ (RelB.refl _) rfl
   · refine opR_mk rfl fun aa W2 hB hp hq K hK => ?_
     have e9 : aa.tmps[9]?.getD undef = .tuple #[.int .u32 tv, .bool tb] := hq 8 _ (by kernel_rfl) rfl
     clear hp hq
     go_simp
     exact hK _ _ (RelB.refl _) rfl
   · refine opR_mk rfl fun aa W2 hB hp hq K hK => ?_
     have e9 : aa.tmps[9]?.getD undef = .tuple #[.int .u32 tv, .bool tb] := hq 8 _ (by kernel_rfl) rfl
     clear hp hq
     go_simp
     exact hK _ _ (RelB.refl _) rfl
   · refine opR_mk rfl fun aa W2 hB hp hq K hK => ?_
     have e18 : aa.tmps[18]?.getD undef = .int .u32 tv := hq 9 _ (by kernel_rfl) rfl
     clear hp hq
     go_simp
     exact hK _ _ (RelB.refl _) rfl
   · refine opR_mk rfl fun aa W2 hB hp hq K hK => ?_
     have e19 : aa.tmps[19]?.getD undef = .bool tb := hq 10 _ (by kernel_rfl) rfl
     clear hp hq
     go_simp
     exact hK _ _ (RelB.refl _) rfl
 · intro vs W3 hB3 hv3 _
   have v1 : vs 11 = .int .u32 tv := hv3 11 _ rfl rfl
   have v2 : vs 12 = .bool tb := hv3 12 _ rfl rfl
   have HBQ := zz hB3
   have HMQ := zz (HMG.out _ hB3)
   have HZ2 := zz (HZG.out _ hB3)
   have hx2 := HXG.out _ hB3
   have x0 : W3.cell? ⟨w.heap.size, 0, none⟩ = some (.int .u8 act) := by simp [World.cell?, hx2]
   clear hB3 hv3 hx2
   simp only [putAll, Act.put, List.setIfInBounds_toArray, List.set_cons_succ, List.set_cons_zero, Nat.zero_add, Nat.reduceAdd, v1, v2]
   cases tb with
   | false =>
    have h0 : tv = 0 := by have := HTB.out; simpa using this
    have e1 : heldM m c ⟨act, p1, p2, fd, pg, sz, dt⟩ = (wrongR 211, m) := by unfold heldM; rw [if_pos (by rw [HTV.out]; exact h0)]
    have e2 : rr = (wrongR 211, m) := by rw [← HRR.out]; exact e1
    have HE2 := zz e2
    clear e1 e2 h0 hW1
    go_wp2_with (first
     | (go_at_call 43; (with_reducible refine (t_wrongR _ _).mono ?_)
        rintro e w3 ⟨rfl, hb3⟩
        have HB3 : Hid (ModB W1 w3 F P Pt Pf (N + 2) _) := (HM.out.keepB (ptrans HBQ.out hb3)).mono (by omega)
        have hz3 := HB3.out.box HLT.out (by omega) HZ.out
        have HZ3 := zz hz3
        obtain ⟨z0, z1, z2, z3, z4, z5, z6, z7, z8, f0, f1, f2, f3, f4, f5, f6, f7, f8⟩ := resZ hz3
        clear hb3 hz3))
    rw [HE2.out]
    exact ret_res rfl rfl HB3.out HB1.out HLT.out (by omega) rfl HZ.out HZ3.out rfl rfl
   | true =>
    have h0 : tv ≠ 0 := by have := HTB.out; simpa using this
    clear hW1
    by_cases h3 : act = 3
    · have b3 : (act == 3) = true := by simp [h3]
      obtain ⟨⟨rd, re⟩, hlk⟩ : ∃ q, readR m.t tv pg = q := ⟨_, rfl⟩
      have e1 : heldM m c ⟨act, p1, p2, fd, pg, sz, dt⟩ = ({ wrongR re with data := rd }, m) := by
       unfold heldM
       rw [if_neg (by rw [HTV.out]; exact h0), if_pos h3]
       rw [HTV.out]
       dsimp only
       rw [hlk]
      have HE2 := zz (show rr = ({ wrongR re with data := rd }, m) from by rw [← HRR.out]; exact e1)
      have HRD := zz (show (∀ W, ModM W F P Pt Pf N y m → Calls Tryz.prog 53 #[.pointer (some ⟨Pt, 0, none⟩), .int .u32 tv, .int .i64 pg] W fun e w' => e = .returned (.tuple #[.string rd, .int .i64 re]) ∧ ModB W w' F P Pt Pf (N + 2) m) from fun W hM => (t_readP tv pg W hM.tree htu (fun y2 hy2 => HO.out.well.pages tv y2 hy2)).mono fun e w' ⟨h1, h2⟩ => ⟨by rw [h1, hlk], (hM.keepB h2).mono (by omega)⟩)
      clear e1 h0 h3 hlk
      go_wp2
      refine wp_region_st (fun n W => ([Below W1.heap.size W1 W, HeldJ W1 W F P Pt Pf (N + 2) m (w.heap.size + 1) #[.int .i64 0, .int .i64 0, .int .u32 0, .int .u32 0, .int .u8 0, .int .i64 0, .int .u32 0, .slice none 0 0, .string ⟨#[]⟩], HeldJ W1 W F P Pt Pf (N + 2) m (w.heap.size + 1) #[.int .i64 0, .int .i64 0, .int .u32 0, .int .u32 0, .int .u8 0, .int .i64 0, .int .u32 0, .slice none 0 0, .string rd], HeldJ W1 W F P Pt Pf (N + 2) m (w.heap.size + 1) #[.int .i64 re, .int .i64 0, .int .u32 0, .int .u32 0, .int .u8 0, .int .i64 0, .int .u32 0, .slice none 0 0, .string rd]] : List Prop).getD n (HeldJ W1 W F P Pt Pf (N + 2) m (w.heap.size + 1) #[.int .i64 re, .int .i64 0, .int .u32 0, .int .u32 0, .int .u8 0, .int .i64 0, .int .u32 0, .slice none 0 0, .string rd])) (fun W W2 => Below W.heap.size W W2) (fun _ _ => True) [8, 13, 15] (phi [isV (.pointer (some ⟨P, 0, none⟩)), isV (.pointer (some ⟨P, 0, none⟩)), isV (.pointer (some ⟨P, 0, none⟩)), isV (.pointer (some ⟨P, 0, none⟩)), isV (.pointer (some ⟨Pt, 0, none⟩)), isV (.int .u32 tv), isV (.pointer (some ⟨w.heap.size, 4, none⟩)), isV (.int .i64 pg), isV (.tuple #[.string rd, .int .i64 re]), isV (.tuple #[.string rd, .int .i64 re]), isV (.string rd), isV (.int .i64 re), isV (.pointer (some ⟨w.heap.size + 1, 8, none⟩)), (fun _ _ => True), isV (.pointer (some ⟨w.heap.size + 1, 0, none⟩)), (fun _ _ => True)]) (by kernel_rfl) (by kernel_rfl) (by kernel_rfl) (by kernel_rfl) (by kernel_rfl) (ptrans HBQ.out (below_drew _)) (fun n _ _ h hb => by match n with | 0 => exact ptrans h hb | 1 => exact HeldJ.stay h hb | 2 => exact HeldJ.stay h hb | 3 => exact HeldJ.stay h hb | n + 4 => exact HeldJ.stay h hb) (fun _ _ _ => trivial) ?_ ?_ ?_
      · refine stays_phiR ?_
        simp only [List.forall_mem_cons]
        exact ⟨kv, kv, kv, kv, kv, kv, kv, kv, kv, kv, kv, kv, kv, fun _ _ _ _ _ => trivial, kv, fun _ _ _ _ _ => trivial, fun _ h => absurd h (by simp)⟩
      · refine ⟨?_, ?_, ?_, ?_, ?_, ?_, ?_, ?_, ?_, ?_, ?_, ?_, ?_, ?_, ?_, ?_, trivial⟩
        · refine opS_mk rfl rfl fun aa W2 nJ hJ hp hq K hK => ?_
          have e0 : aa.tmps[0]?.getD undef = .pointer (some ⟨P, 0, none⟩) := hp 0 (by kernel_rfl)
          clear hp hq
          go_simp
          exact hK _ _ (RelB.refl _) rfl
        · refine opS_mk rfl rfl fun aa W2 nJ hJ hp hq K hK => ?_
          have e28 : aa.tmps[28]?.getD undef = .pointer (some ⟨P, 0, none⟩) := hq 0 _ (by kernel_rfl) rfl
          clear hp hq
          go_simp
          exact hK _ _ (RelB.refl _) rfl
        · refine opS_mk rfl rfl fun aa W2 nJ hJ hp hq K hK => ?_
          have e29 : aa.tmps[29]?.getD undef = .pointer (some ⟨P, 0, none⟩) := hq 1 _ (by kernel_rfl) rfl
          clear hp hq
          go_simp
          exact hK _ _ (RelB.refl _) rfl
        · refine opS_mk rfl rfl fun aa W2 nJ hJ hp hq K hK => ?_
          have e30 : aa.tmps[30]?.getD undef = .pointer (some ⟨P, 0, none⟩) := hq 2 _ (by kernel_rfl) rfl
          clear hp hq
          go_simp
          exact hK _ _ (RelB.refl _) rfl
        · refine opS_ahead (m := 0) (k := 8) rfl rfl rfl rfl (by kernel_rfl) fun aa W2 nJ hnJ hJ hp hq K hK => ?_
          have e31 : aa.tmps[31]?.getD undef = .pointer (some ⟨P, 0, none⟩) := hq 3 _ (by kernel_rfl) rfl
          obtain rfl : nJ = 0 := by omega
          have hB : Below W1.heap.size W1 W2 := hJ
          have c1 := (HMG.out _ hB).c0
          clear hp hq
          go_simp
          exact hK _ _ (RelB.refl _) rfl
        · refine opS_mk rfl rfl fun aa W2 nJ hJ hp hq K hK => ?_
          have e7 : aa.tmps[7]?.getD undef = .int .u32 tv := hp 7 (by kernel_rfl)
          clear hp hq
          go_simp
          exact hK _ _ (RelB.refl _) rfl
        · refine opS_mk rfl rfl fun aa W2 nJ hJ hp hq K hK => ?_
          have e5 : aa.tmps[5]?.getD undef = .pointer (some ⟨w.heap.size, 0, none⟩) := hp 5 (by kernel_rfl)
          clear hp hq
          go_simp
          exact hK _ _ (RelB.refl _) rfl
        · refine opS_ahead (m := 0) (k := 8) rfl rfl rfl rfl (by kernel_rfl) fun aa W2 nJ hnJ hJ hp hq K hK => ?_
          have e34 : aa.tmps[34]?.getD undef = .pointer (some ⟨w.heap.size, 4, none⟩) := hq 6 _ (by kernel_rfl) rfl
          obtain rfl : nJ = 0 := by omega
          have hB : Below W1.heap.size W1 W2 := hJ
          have hx2 := HXG.out _ hB
          have c0 : W2.cell? ⟨w.heap.size, 4, none⟩ = some (.int .i64 pg) := by simp [World.cell?, hx2]
          clear hp hq
          go_simp
          exact hK _ _ (RelB.refl _) rfl
        · refine opS_at (m := 0) rfl rfl fun aa W2 hJ hp hq K hK => ?_
          have e32 : aa.tmps[32]?.getD undef = .pointer (some ⟨Pt, 0, none⟩) := hq 4 _ (by kernel_rfl) rfl
          have e33 : aa.tmps[33]?.getD undef = .int .u32 tv := hq 5 _ (by kernel_rfl) rfl
          have e35 : aa.tmps[35]?.getD undef = .int .i64 pg := hq 7 _ (by kernel_rfl) rfl
          have hB : Below W1.heap.size W1 W2 := hJ
          have hA := HRD.out _ (HMG.out _ hB)
          clear hp hq
          go_simp
          go_at_call 53
          (with_reducible refine hA.mono ?_)
          rintro e z8 ⟨rfl, hb8⟩
          exact hK _ _ trivial (HeldJ.of (hb8.later hB) HLT.out (HZG.out _ (Below.refl _ _)) HB1.out) rfl
        · refine opS_mk rfl rfl fun aa W2 nJ hJ hp hq K hK => ?_
          have e36 : aa.tmps[36]?.getD undef = .tuple #[.string rd, .int .i64 re] := hq 8 _ (by kernel_rfl) rfl
          clear hp hq
          go_simp
          exact hK _ _ (RelB.refl _) rfl
        · refine opS_mk rfl rfl fun aa W2 nJ hJ hp hq K hK => ?_
          have e27 : aa.tmps[27]?.getD undef = .tuple #[.string rd, .int .i64 re] := hq 9 _ (by kernel_rfl) rfl
          clear hp hq
          go_simp
          exact hK _ _ (RelB.refl _) rfl
        · refine opS_mk rfl rfl fun aa W2 nJ hJ hp hq K hK => ?_
          have e27 : aa.tmps[27]?.getD undef = .tuple #[.string rd, .int .i64 re] := hq 9 _ (by kernel_rfl) rfl
          clear hp hq
          go_simp
          exact hK _ _ (RelB.refl _) rfl
        · refine opS_mk rfl rfl fun aa W2 nJ hJ hp hq K hK => ?_
          have e6 : aa.tmps[6]?.getD undef = .pointer (some ⟨w.heap.size + 1, 0, none⟩) := hp 6 (by kernel_rfl)
          clear hp hq
          go_simp
          exact hK _ _ (RelB.refl _) rfl
        · refine opS_at (m := 1) rfl rfl fun aa W2 hJ hp hq K hK => ?_
          have e39 : aa.tmps[39]?.getD undef = .pointer (some ⟨w.heap.size + 1, 8, none⟩) := hq 12 _ (by kernel_rfl) rfl
          have e37 : aa.tmps[37]?.getD undef = .string rd := hq 10 _ (by kernel_rfl) rfl
          have hj : HeldJ W1 W2 F P Pt Pf (N + 2) m (w.heap.size + 1) #[.int .i64 0, .int .i64 0, .int .u32 0, .int .u32 0, .int .u8 0, .int .i64 0, .int .u32 0, .slice none 0 0, .string ⟨#[]⟩] := hJ
          obtain ⟨z0, z1, z2, z3, z4, z5, z6, z7, z8, f0, f1, f2, f3, f4, f5, f6, f7, f8⟩ := resG hj.box
          clear hp hq
          go_simp
          exact hK undef _ trivial (hj.store 8 _) trivial
        · refine opS_mk rfl rfl fun aa W2 nJ hJ hp hq K hK => ?_
          have e6 : aa.tmps[6]?.getD undef = .pointer (some ⟨w.heap.size + 1, 0, none⟩) := hp 6 (by kernel_rfl)
          clear hp hq
          go_simp
          exact hK _ _ (RelB.refl _) rfl
        · refine opS_at (m := 2) rfl rfl fun aa W2 hJ hp hq K hK => ?_
          have e40 : aa.tmps[40]?.getD undef = .pointer (some ⟨w.heap.size + 1, 0, none⟩) := hq 14 _ (by kernel_rfl) rfl
          have e38 : aa.tmps[38]?.getD undef = .int .i64 re := hq 11 _ (by kernel_rfl) rfl
          have hj : HeldJ W1 W2 F P Pt Pf (N + 2) m (w.heap.size + 1) #[.int .i64 0, .int .i64 0, .int .u32 0, .int .u32 0, .int .u8 0, .int .i64 0, .int .u32 0, .slice none 0 0, .string rd] := hJ
          obtain ⟨z0, z1, z2, z3, z4, z5, z6, z7, z8, f0, f1, f2, f3, f4, f5, f6, f7, f8⟩ := resG hj.box
          clear hp hq
          go_simp
          exact hK undef _ trivial (hj.store 0 _) trivial
      · intro vs W9 hJ9 hv9 _
        have hj9 : HeldJ W1 W9 F P Pt Pf (N + 2) m (w.heap.size + 1) #[.int .i64 re, .int .i64 0, .int .u32 0, .int .u32 0, .int .u8 0, .int .i64 0, .int .u32 0, .slice none 0 0, .string rd] := hJ9
        obtain ⟨Wm, hmod, hgr⟩ := hj9.mod
        have HMOD := zz hmod
        have HGR := zz hgr
        have HBX := zz hj9.box
        obtain ⟨z0, z1, z2, z3, z4, z5, z6, z7, z8, f0, f1, f2, f3, f4, f5, f6, f7, f8⟩ := resG hj9.box
        clear hJ9 hv9 hj9 hmod hgr
        simp only [putAll, Act.put, List.setIfInBounds_toArray, List.set_cons_succ, List.set_cons_zero, Nat.zero_add, Nat.reduceAdd]
        go_wp2
        rw [HE2.out]
        exact ret_res2 rfl rfl HMOD.out HB1.out HLT.out (by omega) rfl HZ.out HGR.out HBX.out rfl rfl
    · have b3 : (act == 3) = false := by simp [h3]
      by_cases h4 : act = 4
      · have b4 : (act == 4) = true := by simp [h4]
        obtain ⟨⟨er, t2⟩, hlk⟩ : ∃ q, writeP m.t tv pg dt = q := ⟨_, rfl⟩
        have e1 : heldM m c ⟨act, p1, p2, fd, pg, sz, dt⟩ = (wrongR er, { m with t := t2 }) := by
         unfold heldM
         rw [if_neg (by rw [HTV.out]; exact h0), if_neg h3, if_pos h4]
         rw [HTV.out]
         dsimp only
         rw [hlk]
        have HE2 := zz (show rr = (wrongR er, { m with t := t2 }) from by rw [← HRR.out]; exact e1)
        have HRD := zz (show (∀ W, ModM W F P Pt Pf N y m → Calls Tryz.prog 111 #[.pointer (some ⟨Pt, 0, none⟩), .int .u32 tv, .int .i64 pg, .string dt] W fun e w' => e = .returned (.int .i64 er) ∧ ModB W w' F P Pt Pf (N + 2) { m with t := t2 }) from fun W hM => (t_writeP tv pg dt er t2 hlk W hM.tree (by omega) htu hdt1 (fun y2 hy2 => HO.out.well.pages tv y2 hy2)).mono fun e w' ⟨h1, h2, h3⟩ => ⟨h1, (hM.treeB ⟨y, F, h2, h3⟩).mono (by omega)⟩)
        clear e1 h0 h3 h4 hlk
        go_wp2
        refine wp_region_st (fun n W => ([Below W1.heap.size W1 W, HeldJ W1 W F P Pt Pf (N + 2) { m with t := t2 } (w.heap.size + 1) #[.int .i64 0, .int .i64 0, .int .u32 0, .int .u32 0, .int .u8 0, .int .i64 0, .int .u32 0, .slice none 0 0, .string ⟨#[]⟩], HeldJ W1 W F P Pt Pf (N + 2) { m with t := t2 } (w.heap.size + 1) #[.int .i64 er, .int .i64 0, .int .u32 0, .int .u32 0, .int .u8 0, .int .i64 0, .int .u32 0, .slice none 0 0, .string ⟨#[]⟩]] : List Prop).getD n (HeldJ W1 W F P Pt Pf (N + 2) { m with t := t2 } (w.heap.size + 1) #[.int .i64 er, .int .i64 0, .int .u32 0, .int .u32 0, .int .u8 0, .int .i64 0, .int .u32 0, .slice none 0 0, .string ⟨#[]⟩])) (fun W W2 => Below W.heap.size W W2) (fun _ _ => True) [10, 12] (phi [isV (.pointer (some ⟨P, 0, none⟩)), isV (.pointer (some ⟨P, 0, none⟩)), isV (.pointer (some ⟨P, 0, none⟩)), isV (.pointer (some ⟨P, 0, none⟩)), isV (.pointer (some ⟨Pt, 0, none⟩)), isV (.int .u32 tv), isV (.pointer (some ⟨w.heap.size, 4, none⟩)), isV (.int .i64 pg), isV (.pointer (some ⟨w.heap.size, 6, none⟩)), isV (.string dt), isV (.int .i64 er), isV (.pointer (some ⟨w.heap.size + 1, 0, none⟩)), (fun _ _ => True)]) (by kernel_rfl) (by kernel_rfl) (by kernel_rfl) (by kernel_rfl) (by kernel_rfl) (ptrans HBQ.out (below_drew _)) (fun n _ _ h hb => by match n with | 0 => exact ptrans h hb | 1 => exact HeldJ.stay h hb | 2 => exact HeldJ.stay h hb | n + 3 => exact HeldJ.stay h hb) (fun _ _ _ => trivial) ?_ ?_ ?_
        · refine stays_phiR ?_
          simp only [List.forall_mem_cons]
          exact ⟨kv, kv, kv, kv, kv, kv, kv, kv, kv, kv, kv, kv, fun _ _ _ _ _ => trivial, fun _ h => absurd h (by simp)⟩
        · refine ⟨?_, ?_, ?_, ?_, ?_, ?_, ?_, ?_, ?_, ?_, ?_, ?_, ?_, trivial⟩
          · refine opS_mk rfl rfl fun aa W2 nJ hJ hp hq K hK => ?_
            have e0 : aa.tmps[0]?.getD undef = .pointer (some ⟨P, 0, none⟩) := hp 0 (by kernel_rfl)
            clear hp hq
            go_simp
            exact hK _ _ (RelB.refl _) rfl
          · refine opS_mk rfl rfl fun aa W2 nJ hJ hp hq K hK => ?_
            have e43 : aa.tmps[43]?.getD undef = .pointer (some ⟨P, 0, none⟩) := hq 0 _ (by kernel_rfl) rfl
            clear hp hq
            go_simp
            exact hK _ _ (RelB.refl _) rfl
          · refine opS_mk rfl rfl fun aa W2 nJ hJ hp hq K hK => ?_
            have e44 : aa.tmps[44]?.getD undef = .pointer (some ⟨P, 0, none⟩) := hq 1 _ (by kernel_rfl) rfl
            clear hp hq
            go_simp
            exact hK _ _ (RelB.refl _) rfl
          · refine opS_mk rfl rfl fun aa W2 nJ hJ hp hq K hK => ?_
            have e45 : aa.tmps[45]?.getD undef = .pointer (some ⟨P, 0, none⟩) := hq 2 _ (by kernel_rfl) rfl
            clear hp hq
            go_simp
            exact hK _ _ (RelB.refl _) rfl
          · refine opS_ahead (m := 0) (k := 10) rfl rfl rfl rfl (by kernel_rfl) fun aa W2 nJ hnJ hJ hp hq K hK => ?_
            have e46 : aa.tmps[46]?.getD undef = .pointer (some ⟨P, 0, none⟩) := hq 3 _ (by kernel_rfl) rfl
            obtain rfl : nJ = 0 := by omega
            have hB : Below W1.heap.size W1 W2 := hJ
            have c1 := (HMG.out _ hB).c0
            clear hp hq
            go_simp
            exact hK _ _ (RelB.refl _) rfl
          · refine opS_mk rfl rfl fun aa W2 nJ hJ hp hq K hK => ?_
            have e7 : aa.tmps[7]?.getD undef = .int .u32 tv := hp 7 (by kernel_rfl)
            clear hp hq
            go_simp
            exact hK _ _ (RelB.refl _) rfl
          · refine opS_mk rfl rfl fun aa W2 nJ hJ hp hq K hK => ?_
            have e5 : aa.tmps[5]?.getD undef = .pointer (some ⟨w.heap.size, 0, none⟩) := hp 5 (by kernel_rfl)
            clear hp hq
            go_simp
            exact hK _ _ (RelB.refl _) rfl
          · refine opS_ahead (m := 0) (k := 10) rfl rfl rfl rfl (by kernel_rfl) fun aa W2 nJ hnJ hJ hp hq K hK => ?_
            have e49 : aa.tmps[49]?.getD undef = .pointer (some ⟨w.heap.size, 4, none⟩) := hq 6 _ (by kernel_rfl) rfl
            obtain rfl : nJ = 0 := by omega
            have hB : Below W1.heap.size W1 W2 := hJ
            have hx2 := HXG.out _ hB
            have c0 : W2.cell? ⟨w.heap.size, 4, none⟩ = some (.int .i64 pg) := by simp [World.cell?, hx2]
            clear hp hq
            go_simp
            exact hK _ _ (RelB.refl _) rfl
          · refine opS_mk rfl rfl fun aa W2 nJ hJ hp hq K hK => ?_
            have e5 : aa.tmps[5]?.getD undef = .pointer (some ⟨w.heap.size, 0, none⟩) := hp 5 (by kernel_rfl)
            clear hp hq
            go_simp
            exact hK _ _ (RelB.refl _) rfl
          · refine opS_ahead (m := 0) (k := 10) rfl rfl rfl rfl (by kernel_rfl) fun aa W2 nJ hnJ hJ hp hq K hK => ?_
            have e51 : aa.tmps[51]?.getD undef = .pointer (some ⟨w.heap.size, 6, none⟩) := hq 8 _ (by kernel_rfl) rfl
            obtain rfl : nJ = 0 := by omega
            have hB : Below W1.heap.size W1 W2 := hJ
            have hx2 := HXG.out _ hB
            have c0 : W2.cell? ⟨w.heap.size, 6, none⟩ = some (.string dt) := by simp [World.cell?, hx2]
            clear hp hq
            go_simp
            exact hK _ _ (RelB.refl _) rfl
          · refine opS_at (m := 0) rfl rfl fun aa W2 hJ hp hq K hK => ?_
            have e47 : aa.tmps[47]?.getD undef = .pointer (some ⟨Pt, 0, none⟩) := hq 4 _ (by kernel_rfl) rfl
            have e48 : aa.tmps[48]?.getD undef = .int .u32 tv := hq 5 _ (by kernel_rfl) rfl
            have e50 : aa.tmps[50]?.getD undef = .int .i64 pg := hq 7 _ (by kernel_rfl) rfl
            have e52 : aa.tmps[52]?.getD undef = .string dt := hq 9 _ (by kernel_rfl) rfl
            have hB : Below W1.heap.size W1 W2 := hJ
            have hA := HRD.out _ (HMG.out _ hB)
            clear hp hq
            go_simp
            go_at_call 111
            (with_reducible refine hA.mono ?_)
            rintro e z8 ⟨rfl, hb8⟩
            exact hK _ _ trivial (HeldJ.of (hb8.later hB) HLT.out (HZG.out _ (Below.refl _ _)) HB1.out) rfl
          · refine opS_mk rfl rfl fun aa W2 nJ hJ hp hq K hK => ?_
            have e6 : aa.tmps[6]?.getD undef = .pointer (some ⟨w.heap.size + 1, 0, none⟩) := hp 6 (by kernel_rfl)
            clear hp hq
            go_simp
            exact hK _ _ (RelB.refl _) rfl
          · refine opS_at (m := 1) rfl rfl fun aa W2 hJ hp hq K hK => ?_
            have e54 : aa.tmps[54]?.getD undef = .pointer (some ⟨w.heap.size + 1, 0, none⟩) := hq 11 _ (by kernel_rfl) rfl
            have e53 : aa.tmps[53]?.getD undef = .int .i64 er := hq 10 _ (by kernel_rfl) rfl
            have hj : HeldJ W1 W2 F P Pt Pf (N + 2) { m with t := t2 } (w.heap.size + 1) #[.int .i64 0, .int .i64 0, .int .u32 0, .int .u32 0, .int .u8 0, .int .i64 0, .int .u32 0, .slice none 0 0, .string ⟨#[]⟩] := hJ
            obtain ⟨z0, z1, z2, z3, z4, z5, z6, z7, z8, f0, f1, f2, f3, f4, f5, f6, f7, f8⟩ := resG hj.box
            clear hp hq
            go_simp
            exact hK undef _ trivial (hj.store 0 _) trivial
        · intro vs W9 hJ9 hv9 _
          have hj9 : HeldJ W1 W9 F P Pt Pf (N + 2) { m with t := t2 } (w.heap.size + 1) #[.int .i64 er, .int .i64 0, .int .u32 0, .int .u32 0, .int .u8 0, .int .i64 0, .int .u32 0, .slice none 0 0, .string ⟨#[]⟩] := hJ9
          obtain ⟨Wm, hmod, hgr⟩ := hj9.mod
          have HMOD := zz hmod
          have HGR := zz hgr
          have HBX := zz hj9.box
          obtain ⟨z0, z1, z2, z3, z4, z5, z6, z7, z8, f0, f1, f2, f3, f4, f5, f6, f7, f8⟩ := resG hj9.box
          clear hJ9 hv9 hj9 hmod hgr
          simp only [putAll, Act.put, List.setIfInBounds_toArray, List.set_cons_succ, List.set_cons_zero, Nat.zero_add, Nat.reduceAdd]
          go_wp2
          rw [HE2.out]
          exact ret_res2 rfl rfl HMOD.out HB1.out HLT.out (by omega) rfl HZ.out HGR.out HBX.out rfl rfl
      · have b4 : (act == 4) = false := by simp [h4]
        by_cases h5 : act = 5
        · have b5 : (act == 5) = true := by simp [h5]
          obtain ⟨⟨er, t2⟩, hlk⟩ : ∃ q, resizeP m.t tv sz = q := ⟨_, rfl⟩
          have e1 : heldM m c ⟨act, p1, p2, fd, pg, sz, dt⟩ = (wrongR er, { m with t := t2 }) := by
           unfold heldM
           rw [if_neg (by rw [HTV.out]; exact h0), if_neg h3, if_neg h4, if_pos h5]
           rw [HTV.out]
           dsimp only
           rw [hlk]
          have HE2 := zz (show rr = (wrongR er, { m with t := t2 }) from by rw [← HRR.out]; exact e1)
          have HRD := zz (show (∀ W, ModM W F P Pt Pf N y m → Calls Tryz.prog 112 #[.pointer (some ⟨Pt, 0, none⟩), .int .u32 tv, .int .u32 sz] W fun e w' => e = .returned (.int .i64 er) ∧ ModB W w' F P Pt Pf (N + 2) { m with t := t2 }) from fun W hM => (t_resizeP tv sz er t2 hlk W hM.tree (by omega) htu hsz1 (fun y2 hy2 => HO.out.well.pages tv y2 hy2)).mono fun e w' ⟨h1, h2, h3⟩ => ⟨h1, (hM.treeB ⟨y, F, h2, h3⟩).mono (by omega)⟩)
          clear e1 h0 h3 h4 h5 hlk
          go_wp2
          refine wp_region_st (fun n W => ([Below W1.heap.size W1 W, HeldJ W1 W F P Pt Pf (N + 2) { m with t := t2 } (w.heap.size + 1) #[.int .i64 0, .int .i64 0, .int .u32 0, .int .u32 0, .int .u8 0, .int .i64 0, .int .u32 0, .slice none 0 0, .string ⟨#[]⟩], HeldJ W1 W F P Pt Pf (N + 2) { m with t := t2 } (w.heap.size + 1) #[.int .i64 er, .int .i64 0, .int .u32 0, .int .u32 0, .int .u8 0, .int .i64 0, .int .u32 0, .slice none 0 0, .string ⟨#[]⟩]] : List Prop).getD n (HeldJ W1 W F P Pt Pf (N + 2) { m with t := t2 } (w.heap.size + 1) #[.int .i64 er, .int .i64 0, .int .u32 0, .int .u32 0, .int .u8 0, .int .i64 0, .int .u32 0, .slice none 0 0, .string ⟨#[]⟩])) (fun W W2 => Below W.heap.size W W2) (fun _ _ => True) [8, 10] (phi [isV (.pointer (some ⟨P, 0, none⟩)), isV (.pointer (some ⟨P, 0, none⟩)), isV (.pointer (some ⟨P, 0, none⟩)), isV (.pointer (some ⟨P, 0, none⟩)), isV (.pointer (some ⟨Pt, 0, none⟩)), isV (.int .u32 tv), isV (.pointer (some ⟨w.heap.size, 5, none⟩)), isV (.int .u32 sz), isV (.int .i64 er), isV (.pointer (some ⟨w.heap.size + 1, 0, none⟩)), (fun _ _ => True)]) (by kernel_rfl) (by kernel_rfl) (by kernel_rfl) (by kernel_rfl) (by kernel_rfl) (ptrans HBQ.out (below_drew _)) (fun n _ _ h hb => by match n with | 0 => exact ptrans h hb | 1 => exact HeldJ.stay h hb | 2 => exact HeldJ.stay h hb | n + 3 => exact HeldJ.stay h hb) (fun _ _ _ => trivial) ?_ ?_ ?_
          · refine stays_phiR ?_
            simp only [List.forall_mem_cons]
            exact ⟨kv, kv, kv, kv, kv, kv, kv, kv, kv, kv, fun _ _ _ _ _ => trivial, fun _ h => absurd h (by simp)⟩
          · refine ⟨?_, ?_, ?_, ?_, ?_, ?_, ?_, ?_, ?_, ?_, ?_, trivial⟩
            · refine opS_mk rfl rfl fun aa W2 nJ hJ hp hq K hK => ?_
              have e0 : aa.tmps[0]?.getD undef = .pointer (some ⟨P, 0, none⟩) := hp 0 (by kernel_rfl)
              clear hp hq
              go_simp
              exact hK _ _ (RelB.refl _) rfl
            · refine opS_mk rfl rfl fun aa W2 nJ hJ hp hq K hK => ?_
              have e57 : aa.tmps[57]?.getD undef = .pointer (some ⟨P, 0, none⟩) := hq 0 _ (by kernel_rfl) rfl
              clear hp hq
              go_simp
              exact hK _ _ (RelB.refl _) rfl
            · refine opS_mk rfl rfl fun aa W2 nJ hJ hp hq K hK => ?_
              have e58 : aa.tmps[58]?.getD undef = .pointer (some ⟨P, 0, none⟩) := hq 1 _ (by kernel_rfl) rfl
              clear hp hq
              go_simp
              exact hK _ _ (RelB.refl _) rfl
            · refine opS_mk rfl rfl fun aa W2 nJ hJ hp hq K hK => ?_
              have e59 : aa.tmps[59]?.getD undef = .pointer (some ⟨P, 0, none⟩) := hq 2 _ (by kernel_rfl) rfl
              clear hp hq
              go_simp
              exact hK _ _ (RelB.refl _) rfl
            · refine opS_ahead (m := 0) (k := 8) rfl rfl rfl rfl (by kernel_rfl) fun aa W2 nJ hnJ hJ hp hq K hK => ?_
              have e60 : aa.tmps[60]?.getD undef = .pointer (some ⟨P, 0, none⟩) := hq 3 _ (by kernel_rfl) rfl
              obtain rfl : nJ = 0 := by omega
              have hB : Below W1.heap.size W1 W2 := hJ
              have c1 := (HMG.out _ hB).c0
              clear hp hq
              go_simp
              exact hK _ _ (RelB.refl _) rfl
            · refine opS_mk rfl rfl fun aa W2 nJ hJ hp hq K hK => ?_
              have e7 : aa.tmps[7]?.getD undef = .int .u32 tv := hp 7 (by kernel_rfl)
              clear hp hq
              go_simp
              exact hK _ _ (RelB.refl _) rfl
            · refine opS_mk rfl rfl fun aa W2 nJ hJ hp hq K hK => ?_
              have e5 : aa.tmps[5]?.getD undef = .pointer (some ⟨w.heap.size, 0, none⟩) := hp 5 (by kernel_rfl)
              clear hp hq
              go_simp
              exact hK _ _ (RelB.refl _) rfl
            · refine opS_ahead (m := 0) (k := 8) rfl rfl rfl rfl (by kernel_rfl) fun aa W2 nJ hnJ hJ hp hq K hK => ?_
              have e63 : aa.tmps[63]?.getD undef = .pointer (some ⟨w.heap.size, 5, none⟩) := hq 6 _ (by kernel_rfl) rfl
              obtain rfl : nJ = 0 := by omega
              have hB : Below W1.heap.size W1 W2 := hJ
              have hx2 := HXG.out _ hB
              have c0 : W2.cell? ⟨w.heap.size, 5, none⟩ = some (.int .u32 sz) := by simp [World.cell?, hx2]
              clear hp hq
              go_simp
              exact hK _ _ (RelB.refl _) rfl
            · refine opS_at (m := 0) rfl rfl fun aa W2 hJ hp hq K hK => ?_
              have e61 : aa.tmps[61]?.getD undef = .pointer (some ⟨Pt, 0, none⟩) := hq 4 _ (by kernel_rfl) rfl
              have e62 : aa.tmps[62]?.getD undef = .int .u32 tv := hq 5 _ (by kernel_rfl) rfl
              have e64 : aa.tmps[64]?.getD undef = .int .u32 sz := hq 7 _ (by kernel_rfl) rfl
              have hB : Below W1.heap.size W1 W2 := hJ
              have hA := HRD.out _ (HMG.out _ hB)
              clear hp hq
              go_simp
              go_at_call 112
              (with_reducible refine hA.mono ?_)
              rintro e z8 ⟨rfl, hb8⟩
              exact hK _ _ trivial (HeldJ.of (hb8.later hB) HLT.out (HZG.out _ (Below.refl _ _)) HB1.out) rfl
            · refine opS_mk rfl rfl fun aa W2 nJ hJ hp hq K hK => ?_
              have e6 : aa.tmps[6]?.getD undef = .pointer (some ⟨w.heap.size + 1, 0, none⟩) := hp 6 (by kernel_rfl)
              clear hp hq
              go_simp
              exact hK _ _ (RelB.refl _) rfl
            · refine opS_at (m := 1) rfl rfl fun aa W2 hJ hp hq K hK => ?_
              have e66 : aa.tmps[66]?.getD undef = .pointer (some ⟨w.heap.size + 1, 0, none⟩) := hq 9 _ (by kernel_rfl) rfl
              have e65 : aa.tmps[65]?.getD undef = .int .i64 er := hq 8 _ (by kernel_rfl) rfl
              have hj : HeldJ W1 W2 F P Pt Pf (N + 2) { m with t := t2 } (w.heap.size + 1) #[.int .i64 0, .int .i64 0, .int .u32 0, .int .u32 0, .int .u8 0, .int .i64 0, .int .u32 0, .slice none 0 0, .string ⟨#[]⟩] := hJ
              obtain ⟨z0, z1, z2, z3, z4, z5, z6, z7, z8, f0, f1, f2, f3, f4, f5, f6, f7, f8⟩ := resG hj.box
              clear hp hq
              go_simp
              exact hK undef _ trivial (hj.store 0 _) trivial
          · intro vs W9 hJ9 hv9 _
            have hj9 : HeldJ W1 W9 F P Pt Pf (N + 2) { m with t := t2 } (w.heap.size + 1) #[.int .i64 er, .int .i64 0, .int .u32 0, .int .u32 0, .int .u8 0, .int .i64 0, .int .u32 0, .slice none 0 0, .string ⟨#[]⟩] := hJ9
            obtain ⟨Wm, hmod, hgr⟩ := hj9.mod
            have HMOD := zz hmod
            have HGR := zz hgr
            have HBX := zz hj9.box
            obtain ⟨z0, z1, z2, z3, z4, z5, z6, z7, z8, f0, f1, f2, f3, f4, f5, f6, f7, f8⟩ := resG hj9.box
            clear hJ9 hv9 hj9 hmod hgr
            simp only [putAll, Act.put, List.setIfInBounds_toArray, List.set_cons_succ, List.set_cons_zero, Nat.zero_add, Nat.reduceAdd]
            go_wp2
            rw [HE2.out]
            exact ret_res2 rfl rfl HMOD.out HB1.out HLT.out (by omega) rfl HZ.out HGR.out HBX.out rfl rfl
        · have b5 : (act == 5) = false := by simp [h5]
          by_cases h13 : act = 13
          · have b13 : (act == 13) = true := by simp [h13]
            obtain ⟨⟨er, t2⟩, hlk⟩ : ∃ q, unholdP m.t tv = q := ⟨_, rfl⟩
            have hfdn : fd = (fd.toNat : Int) := by omega
            have e1 : heldM m c ⟨act, p1, p2, fd, pg, sz, dt⟩ = (wrongR er, { m with t := t2, T := updT m.T (c * 16 + fd.toNat) 0 }) := by
             unfold heldM
             rw [if_neg (by rw [HTV.out]; exact h0), if_neg h3, if_neg h4, if_neg h5, if_pos h13]
             rw [HTV.out]
             dsimp only
             rw [hlk]
            have HE2 := zz (show rr = (wrongR er, { m with t := t2, T := updT m.T (c * 16 + fd.toNat) 0 }) from by rw [← HRR.out]; exact e1)
            have HRD := zz (show (∀ W, ModM W F P Pt Pf N y m → Calls Tryz.prog 113 #[.pointer (some ⟨Pf, 0, none⟩), .int .i64 c, .int .i64 fd] W fun e w' => e = .returned (.tuple #[.int .u32 tv, .int .i64 0]) ∧ ModB W w' F P Pt Pf (N + 2) { m with T := updT m.T (c * 16 + fd.toNat) 0 }) from fun W hM => close_of hM hc hn8 hfd1 HTV.out h0)
            have HDR := zz (show ∀ (W : World) F' y', ModM W F' P Pt Pf (N + 2) y' { m with T := updT m.T (c * 16 + fd.toNat) 0 } → Calls Tryz.prog 114 #[.pointer (some ⟨Pt, 0, none⟩), .int .u32 tv] W fun e w' => e = .returned (.int .i64 er) ∧ ModB W w' F' P Pt Pf (N + 2) { m with t := t2, T := updT m.T (c * 16 + fd.toNat) 0 } from fun W F' y' hM => (t_unholdP tv er t2 hlk W hM.tree htu (fun i x hx => by have := HO.out.heldK i x hx; omega) (fun x hx => HO.out.well.held tv x hx)).mono fun e w' ⟨h1, h2⟩ => ⟨h1, hM.treeB h2⟩)
            clear e1 h0 h3 h4 h5 h13 hlk hfdn
            go_wp2
            refine wp_region_st (fun n W => ([Below W1.heap.size W1 W, ModB W1 W F P Pt Pf (N + 2) { m with T := updT m.T (c * 16 + fd.toNat) 0 }] : List Prop).getD n (ModB W1 W F P Pt Pf (N + 2) { m with T := updT m.T (c * 16 + fd.toNat) 0 })) (fun W W2 => Below W.heap.size W W2) (fun _ _ => True) [7] (phi [isV (.pointer (some ⟨P, 0, none⟩)), isV (.pointer (some ⟨P, 0, none⟩)), isV (.pointer (some ⟨P, 1, none⟩)), isV (.pointer (some ⟨Pf, 0, none⟩)), isV (.int .i64 c), isV (.pointer (some ⟨w.heap.size, 3, none⟩)), isV (.int .i64 fd), isV (.tuple #[.int .u32 tv, .int .i64 0])]) (by kernel_rfl) (by kernel_rfl) (by kernel_rfl) (by kernel_rfl) (by kernel_rfl) (ptrans HBQ.out (below_drew _)) (fun n _ _ h hb => by match n with | 0 => exact ptrans h hb | 1 => exact ModB.andBelow h hb | n + 2 => exact ModB.andBelow h hb) (fun _ _ _ => trivial) ?_ ?_ ?_
            · refine stays_phiR ?_
              simp only [List.forall_mem_cons]
              exact ⟨kv, kv, kv, kv, kv, kv, kv, kv, fun _ h => absurd h (by simp)⟩
            · refine ⟨?_, ?_, ?_, ?_, ?_, ?_, ?_, ?_, trivial⟩
              · refine opS_mk rfl rfl fun aa W2 nJ hJ hp hq K hK => ?_
                have e0 : aa.tmps[0]?.getD undef = .pointer (some ⟨P, 0, none⟩) := hp 0 (by kernel_rfl)
                clear hp hq
                go_simp
                exact hK _ _ (RelB.refl _) rfl
              · refine opS_mk rfl rfl fun aa W2 nJ hJ hp hq K hK => ?_
                have e69 : aa.tmps[69]?.getD undef = .pointer (some ⟨P, 0, none⟩) := hq 0 _ (by kernel_rfl) rfl
                clear hp hq
                go_simp
                exact hK _ _ (RelB.refl _) rfl
              · refine opS_mk rfl rfl fun aa W2 nJ hJ hp hq K hK => ?_
                have e70 : aa.tmps[70]?.getD undef = .pointer (some ⟨P, 0, none⟩) := hq 1 _ (by kernel_rfl) rfl
                clear hp hq
                go_simp
                exact hK _ _ (RelB.refl _) rfl
              · refine opS_ahead (m := 0) (k := 7) rfl rfl rfl rfl (by kernel_rfl) fun aa W2 nJ hnJ hJ hp hq K hK => ?_
                have e71 : aa.tmps[71]?.getD undef = .pointer (some ⟨P, 1, none⟩) := hq 2 _ (by kernel_rfl) rfl
                obtain rfl : nJ = 0 := by omega
                have hB : Below W1.heap.size W1 W2 := hJ
                have c1 := (HMG.out _ hB).c1
                clear hp hq
                go_simp
                exact hK _ _ (RelB.refl _) rfl
              · refine opS_mk rfl rfl fun aa W2 nJ hJ hp hq K hK => ?_
                have e1 : aa.tmps[1]?.getD undef = .int .i64 c := hp 1 (by kernel_rfl)
                clear hp hq
                go_simp
                exact hK _ _ (RelB.refl _) rfl
              · refine opS_mk rfl rfl fun aa W2 nJ hJ hp hq K hK => ?_
                have e5 : aa.tmps[5]?.getD undef = .pointer (some ⟨w.heap.size, 0, none⟩) := hp 5 (by kernel_rfl)
                clear hp hq
                go_simp
                exact hK _ _ (RelB.refl _) rfl
              · refine opS_ahead (m := 0) (k := 7) rfl rfl rfl rfl (by kernel_rfl) fun aa W2 nJ hnJ hJ hp hq K hK => ?_
                have e74 : aa.tmps[74]?.getD undef = .pointer (some ⟨w.heap.size, 3, none⟩) := hq 5 _ (by kernel_rfl) rfl
                obtain rfl : nJ = 0 := by omega
                have hB : Below W1.heap.size W1 W2 := hJ
                have hx2 := HXG.out _ hB
                have c0 : W2.cell? ⟨w.heap.size, 3, none⟩ = some (.int .i64 fd) := by simp [World.cell?, hx2]
                clear hp hq
                go_simp
                exact hK _ _ (RelB.refl _) rfl
              · refine opS_at (m := 0) rfl rfl fun aa W2 hJ hp hq K hK => ?_
                have e72 : aa.tmps[72]?.getD undef = .pointer (some ⟨Pf, 0, none⟩) := hq 3 _ (by kernel_rfl) rfl
                have e73 : aa.tmps[73]?.getD undef = .int .i64 c := hq 4 _ (by kernel_rfl) rfl
                have e75 : aa.tmps[75]?.getD undef = .int .i64 fd := hq 6 _ (by kernel_rfl) rfl
                have hB : Below W1.heap.size W1 W2 := hJ
                have hA := HRD.out _ (HMG.out _ hB)
                clear hp hq
                go_simp
                go_at_call 113
                (with_reducible refine hA.mono ?_)
                rintro e z8 ⟨rfl, hb8⟩
                exact hK _ _ trivial (hb8.later hB) rfl
            · intro vs W9 hJ9 hv9 _
              obtain ⟨y4, F4, hM4, hU4⟩ := (show ModB W1 W9 F P Pt Pf (N + 2) { m with T := updT m.T (c * 16 + fd.toNat) 0 } from hJ9)
              have cm4 := hM4.c0
              have HM4 := zz hM4
              have HU4 := zz hU4
              clear hJ9 hv9 hM4 hU4
              simp only [putAll, Act.put, List.setIfInBounds_toArray, List.set_cons_succ, List.set_cons_zero, Nat.zero_add, Nat.reduceAdd]
              go_wp2_with (first
               | (go_at_call 114; (with_reducible refine (HDR.out _ _ _ HM4.out).mono ?_); rintro e w5 ⟨rfl, hB5⟩
                  obtain ⟨y5, F5, hM5, hU5⟩ := hB5
                  have HB3 : Hid (ModB W1 w5 F P Pt Pf (N + 2) _) := ⟨y5, F5, hM5, HU4.out.trans hU5⟩
                  have hz3 := HB3.out.box HLT.out (by omega) HZ.out
                  have HZ3 := zz hz3
                  obtain ⟨z0, z1, z2, z3, z4, z5, z6, z7, z8, f0, f1, f2, f3, f4, f5, f6, f7, f8⟩ := resZ hz3
                  clear hM5 hU5 hz3))
              rw [HE2.out]
              exact ret_res2 rfl rfl HB3.out HB1.out HLT.out (by omega) rfl HZ.out (pgrown_set _ _ _ _) (cset _ HZ3.out) rfl rfl
          · have b13 : (act == 13) = false := by simp [h13]
            have e1 : heldM m c ⟨act, p1, p2, fd, pg, sz, dt⟩ = (wrongR 0, m) := by
             unfold heldM
             rw [if_neg (by rw [HTV.out]; exact h0), if_neg h3, if_neg h4, if_neg h5, if_neg h13]
            have HE2 := zz (show rr = (wrongR 0, m) from by rw [← HRR.out]; exact e1)
            clear e1 h0 h3 h4 h5 h13
            obtain ⟨z0, z1, z2, z3, z4, z5, z6, z7, z8, f0, f1, f2, f3, f4, f5, f6, f7, f8⟩ := resZ HZ2.out
            have HB3 : Hid (ModB W1 W3 F P Pt Pf (N + 2) m) := (HM.out.keepB HBQ.out).mono (by omega)
            go_wp2
            rw [HE2.out]
            exact ret_res rfl rfl HB3.out HB1.out HLT.out (by omega) rfl HZ.out HZ2.out rfl rfl
end
end
end Go.Proofs.YtpcnolkdnmolgaaGreatDoor
