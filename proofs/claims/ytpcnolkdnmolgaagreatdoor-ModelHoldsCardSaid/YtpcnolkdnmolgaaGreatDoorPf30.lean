/- ModelHolds: the law. -/
import Derived.Test.YtpcnolkdnmolgaaGreatDoorPf13
import Derived.Test.YtpcnolkdnmolgaaGreatDoorPf16
import Derived.Test.YtpcnolkdnmolgaaGreatDoorPf17
import Derived.Test.YtpcnolkdnmolgaaGreatDoorPf28
import Derived.Test.YtpcnolkdnmolgaaGreatDoorPf29
import Derived.Test.YtpcnolkdnmolgaaGreatDoorCards
import Derived.Test.YtpcnolkdnmolgaaGreatDoorTie
import Derived.SevenTiedAt
namespace Go.Proofs.YtpcnolkdnmolgaaGreatDoor
section
open Go.RowKit Go.Maps
def HdAt (w : World) (q : Nat) (P Pt Pf : Nat) (k : Nat) (W : World) : Prop := ∃ m, MOwn w.heap.size w P Pt Pf (1 + 2 * k) m [] W ∧ m.n = q
theorem HdAt.mem {w W : World} {q P Pt Pf k : Nat} (h : HdAt w q P Pt Pf k W) : Below w.heap.size w W := by
 obtain ⟨m, hm, _⟩ := h
 exact hm.mem
def shR (er fd io : Int) (cs : Array Value) : Prop := ∃ (a b c d : Int) (lA : Option Addr) (ln lc : Nat) (dt : ByteArray), cs = #[.int .i64 er, .int .i64 fd, .int .u32 io, .int .u32 a, .int .u8 b, .int .i64 c, .int .u32 d, .slice lA ln lc, .string dt]
def RelX (er fd io : Int) (W W' : World) : Prop := ∀ (b : Nat) (cs : Array Value), W.heap[b]? = some (Obj.cells cs 39 (0, 0)) → ∃ cs', W'.heap[b]? = some (Obj.cells cs' 39 (0, 0)) ∧ (cs' = cs ∨ shR er fd io cs')
theorem RelX.of_r {er fd io : Int} {W W' : World} (h : RelR W W') : RelX er fd io W W' := fun b cs hb => ⟨cs, h b cs hb, .inl rfl⟩
def isBox (lo : Nat) (er fd io : Int) : Ph := fun v W => ∃ (R : Nat) (cs : Array Value), v = .pointer (some ⟨R, 0, none⟩) ∧ lo ≤ R ∧ W.heap[R]? = some (Obj.cells cs 39 (0, 0)) ∧ (cs = zeroR.toArray ∨ shR er fd io cs)
def isFull (lo : Nat) (er fd io : Int) : Ph := fun v W => ∃ (R : Nat) (cs : Array Value), v = .pointer (some ⟨R, 0, none⟩) ∧ lo ≤ R ∧ W.heap[R]? = some (Obj.cells cs 39 (0, 0)) ∧ shR er fd io cs
def isAns (er fd io : Int) : Ph := fun v _ => ∃ cs, v = .agg cs ∧ shR er fd io cs
theorem isBox.stay {lo : Nat} {er fd io : Int} : ∀ v W W', isBox lo er fd io v W → RelX er fd io W W' → isBox lo er fd io v W' := fun _ _ _ ⟨R, cs, h1, h2, h3, h4⟩ hr => by
 obtain ⟨cs', g1, g2⟩ := hr R cs h3
 refine ⟨R, cs', h1, h2, g1, ?_⟩
 rcases g2 with rfl | g2
 · exact h4
 · exact .inr g2
theorem isFull.stay {lo : Nat} {er fd io : Int} : ∀ v W W', isFull lo er fd io v W → RelX er fd io W W' → isFull lo er fd io v W' := fun _ _ _ ⟨R, cs, h1, h2, h3, h4⟩ hr => by
 obtain ⟨cs', g1, g2⟩ := hr R cs h3
 refine ⟨R, cs', h1, h2, g1, ?_⟩
 rcases g2 with rfl | g2
 · exact h4
 · exact g2
theorem isAns.stay {er fd io : Int} : ∀ v (W W' : World), isAns er fd io v W → RelX er fd io W W' → isAns er fd io v W' := fun _ _ _ ha _ => ha
def HdSt (w : World) (P Pt Pf P2 Pt2 Pf2 N : Nat) (m m' m2 : MD) (j : Nat) (W : World) : Prop := if j = 0 then MPair w.heap.size w P Pt Pf P2 Pt2 Pf2 N m m2 [] W else MPair w.heap.size w P Pt Pf P2 Pt2 Pf2 (N + 2) m' m2 [] W
theorem HdSt.below {w W W' : World} {P Pt Pf P2 Pt2 Pf2 N j : Nat} {m m' m2 : MD} (h : HdSt w P Pt Pf P2 Pt2 Pf2 N m m' m2 j W) (hb : Below W.heap.size W W') : HdSt w P Pt Pf P2 Pt2 Pf2 N m m' m2 j W' := by
 unfold HdSt at h ⊢
 by_cases hj : j = 0
 · rw [if_pos hj] at h ⊢
   exact MPair.below h hb
 · rw [if_neg hj] at h ⊢
   exact MPair.below h hb
theorem HdSt.mem {w W : World} {P Pt Pf P2 Pt2 Pf2 N j : Nat} {m m' m2 : MD} (h : HdSt w P Pt Pf P2 Pt2 Pf2 N m m' m2 j W) : Below w.heap.size w W := by
 unfold HdSt at h
 split at h
 · exact MPair.mem h
 · exact MPair.mem h
theorem HdSt.base {w W : World} {P Pt Pf P2 Pt2 Pf2 N j : Nat} {m m' m2 : MD} (h : HdSt w P Pt Pf P2 Pt2 Pf2 N m m' m2 j W) : w.heap.size ≤ W.heap.size := h.mem.size
theorem RelB.bel {W W' : World} (h : RelB W W') : Below W.heap.size W W' := h
theorem get_lt_heap {w : World} {b : Nat} {o : Obj} (h : w.heap[b]? = some o) : b < w.heap.size := (Array.getElem?_eq_some_iff.1 h).1
theorem box_nine {er fd io : Int} {cs0 : Array Value} (hz : cs0 = zeroR.toArray ∨ shR er fd io cs0) : ∃ c0 c1 c2 c3 c4 c5 c6 c7 c8, cs0 = #[c0, c1, c2, c3, c4, c5, c6, c7, c8] := by
 rcases hz with rfl | ⟨a, b, c, d, lA, ln, lc, dt, rfl⟩
 · exact ⟨_, _, _, _, _, _, _, _, _, rfl⟩
 · exact ⟨_, _, _, _, _, _, _, _, _, rfl⟩
theorem resC {W : World} {R : Nat} {T : TypeId} {c0 c1 c2 c3 c4 c5 c6 c7 c8 : Value} (h : W.heap[R]? = some (.cells #[c0, c1, c2, c3, c4, c5, c6, c7, c8] T (0, 0))) : W.cell? ⟨R, 0, none⟩ = some c0 ∧ W.cell? ⟨R, 1, none⟩ = some c1 ∧ W.cell? ⟨R, 2, none⟩ = some c2 ∧ W.cell? ⟨R, 3, none⟩ = some c3 ∧ W.cell? ⟨R, 4, none⟩ = some c4 ∧ W.cell? ⟨R, 5, none⟩ = some c5 ∧ W.cell? ⟨R, 6, none⟩ = some c6 ∧ W.cell? ⟨R, 7, none⟩ = some c7 ∧ W.cell? ⟨R, 8, none⟩ = some c8 ∧ W.frozen? ⟨R, 0, none⟩ = false ∧ W.frozen? ⟨R, 1, none⟩ = false ∧ W.frozen? ⟨R, 2, none⟩ = false ∧ W.frozen? ⟨R, 3, none⟩ = false ∧ W.frozen? ⟨R, 4, none⟩ = false ∧ W.frozen? ⟨R, 5, none⟩ = false ∧ W.frozen? ⟨R, 6, none⟩ = false ∧ W.frozen? ⟨R, 7, none⟩ = false ∧ W.frozen? ⟨R, 8, none⟩ = false := by
 simp [World.cell?, World.frozen?, h]
theorem MPair.bare {B : Nat} {w1 w : World} {P Pt Pf P2 Pt2 Pf2 N : Nat} {m m2 : MD} {L : List (Nat × Obj)} (h : MPair B w1 P Pt Pf P2 Pt2 Pf2 N m m2 L w) : MPair B w1 P Pt Pf P2 Pt2 Pf2 N m m2 [] w := by
 obtain ⟨y, F, y2, F2, hM, hM2, hO, hO2, hF, hF2, hd, hs, hB, _⟩ := h
 exact ⟨y, F, y2, F2, hM, hM2, hO, hO2, hF, hF2, hd, hs, hB, KeptL.nil⟩
theorem full_store {w W : World} {P Pt Pf P2 Pt2 Pf2 N R : Nat} {m m' m2 : MD} {er fd io : Int} {cs0 : Array Value} (hJ : HdSt w P Pt Pf P2 Pt2 Pf2 N m m' m2 1 W) (hR : W.heap[R]? = some (Obj.cells cs0 39 (0, 0))) (hs : cs0.size = 9) (hlo : w.heap.size ≤ R) {v0 v1 v2 v3 v4 v5 v6 v7 v8 : Value} (hsh : shR er fd io #[v0, v1, v2, v3, v4, v5, v6, v7, v8]) {W' : World}
  (hW : W' = (((((((((W.setCell ⟨R, 0, none⟩ v0).setCell ⟨R, 1, none⟩ v1).setCell ⟨R, 2, none⟩ v2).setCell ⟨R, 3, none⟩ v3).setCell ⟨R, 4, none⟩ v4).setCell ⟨R, 5, none⟩ v5).setCell ⟨R, 6, none⟩ v6).setCell ⟨R, 7, none⟩ v7).setCell ⟨R, 8, none⟩ v8)) :
  RelX er fd io W W' ∧ HdSt w P Pt Pf P2 Pt2 Pf2 N m m' m2 2 W' ∧ isFull w.heap.size er fd io (.pointer (some ⟨R, 0, none⟩)) W' := by
 obtain ⟨e9, g9⟩ := res9 hR hs v0 v1 v2 v3 v4 v5 v6 v7 v8
 rw [← hW] at e9 g9
 have hsz : W'.heap.size = W.heap.size := by rw [hW]; simp [World.setCell]
 have hb : ∀ b, b ≠ R → W'.heap[b]? = W.heap[b]? := fun b hne => by
  by_cases hlt : b < W.heap.size
  · exact g9.block b hlt (fun e => hne (by injection e))
  · rw [Array.getElem?_eq_none (by omega), Array.getElem?_eq_none (by omega)]
 refine ⟨fun b cs hc => ?_, ?_, R, _, rfl, hlo, e9, hsh⟩
 · by_cases hbR : b = R
   · subst hbR
     exact ⟨_, e9, .inr hsh⟩
   · exact ⟨cs, (hb b hbR).trans hc, .inl rfl⟩
 · have h1 : MPair w.heap.size w P Pt Pf P2 Pt2 Pf2 (N + 2) m' m2 [] W := hJ
   exact (h1.put hR hlo e9 hb hsz g9.os g9.tape g9.output).bare
set_option maxRecDepth 100000 in
set_option maxHeartbeats 8000000 in
theorem t_modelHolds (i0 c0 : Nat) (hi0 : i0 ≤ 255) (hc0 : c0 ≤ 255) (A : Option Addr) (n c : Nat) (l : List (Int × Cx)) (w : World) (hl : S21At w A l) (hn : l.length = n) (hn2 : n ≤ maxLen) (hf : ∀ s ∈ l, Cx.Fits s.2) (hk : KindsAt w) :
  Calls Tryz.prog 4 #[.int .u8 i0, .int .u8 c0, .slice A n c] w fun e w' => e = .returned (.bool true) ∧ Below w.heap.size w w' := by
 have HL := zz hl
 have HN := zz hn
 have HF := zz hf
 have HKW := zz hk
 have HLG := zz (t_long21 A n c l w hl hn hn2)
 have HB0 := zz hk.pos
 have HAL := zz (show ∀ W, Below w.heap.size w W → Calls Tryz.prog 9 #[] W fun e w' => e = .returned (.bool true) ∧ Below W.heap.size W w' from fun W hb => t_alive21 W (hk.below hb hk.pos))
 obtain ⟨q, hq⟩ : ∃ q : Nat, (q : Int) = 1 + (c0 : Int) % 8 := ⟨1 + c0 % 8, by omega⟩
 obtain ⟨r, hr⟩ : ∃ r : Int, r = 2 + (i0 : Int) % 20 := ⟨_, rfl⟩
 have hq1 : 1 ≤ q := by omega
 have hq8 : q ≤ 8 := by omega
 have hr1 : 2 ≤ r := by omega
 have hr2 : r ≤ 256 := by omega
 have HQ := zz hq.symm
 have HR := zz hr.symm
 clear hl hn hn2 hf hk hq hr
 go_enter Tryz.func4, Tryz.ntmps4
 go_wp2_with (first
  | (go_at_call 8; (with_reducible refine HLG.out.mono ?_); rintro e w1 hlg
     obtain ⟨bb, rfl, hb1, hB1⟩ := hlg.get
     have H1 := zz hB1
     have HB1 := zz hb1
     clear hlg hb1 hB1
     cases bb)
  | (go_at_call 9; (with_reducible refine (HAL.out _ H1.out).mono ?_); rintro e w9 ⟨rfl, hb9⟩)
  | (go_at_call 10; rw [HQ.out, HR.out]; (with_reducible refine (t_newM r q _ hr1 hr2 (by omega) (by omega)).mono ?_); rintro e w2 ⟨P, Pt, Pf, rfl, y, F, hM, hO, hF2, hs, hB⟩
     have HA0 : Hid (HdAt w q P Pt Pf 0 w2) := ⟨_, ⟨y, F, hM, hO, fun b h => Nat.le_trans H1.out.size (hF2 b h), Nat.le_trans H1.out.size hs, ptrans H1.out hB, KeptL.nil⟩, rfl⟩
     clear hM hO hF2 hs hB))
 · go_loopw [10] (fun v wr => ∃ i : Nat, v = .int .i64 (i : Int) ∧ i ≤ n ∧ Hid (HdAt w q P Pt Pf i wr)) (fun v _ => n - (intOf v).toNat)
   case atStart => exact ⟨0, rfl, Nat.zero_le _, HA0.out⟩
   case round =>
    clear HA0
    obtain ⟨k, rfl, hk, HA⟩ := hrel
    by_cases he : k = n
    · subst he
      go_wp2_with (go_at_call 9; (with_reducible refine (HAL.out _ HA.out.mem).mono ?_); rintro e w9 ⟨rfl, hb9⟩)
      go_ret
      exact ⟨rfl, ptrans HA.out.mem hb9⟩
    · have hkn : k < n := by omega
      have h120 : n ≤ 120 := HB1.out trivial
      obtain ⟨s, hs⟩ := s21_get (l := l) (k := k) (by rw [HN.out]; exact hkn)
      have HX := zz (HF.out s (List.mem_of_getElem? hs))
      obtain ⟨core, act, p1, p2, fd, pg, sz, dt⟩ := s
      obtain ⟨x, hx⟩ : ∃ x : Cx, x = ⟨act, p1, p2, fd, pg, sz, dt⟩ := ⟨_, rfl⟩
      have HXF : Hid x.Fits := by rw [hx]; exact HX
      have HV : Hid (callV x = .agg #[.int .u8 act, .string p1, .string p2, .int .i64 fd, .int .i64 pg, .int .u32 sz, .string dt]) := by rw [hx]; exact rfl
      have HXA : Hid (x.act = act) := by rw [hx]; exact rfl
      obtain ⟨m, hm, hm2⟩ := HA.out
      obtain ⟨b, o, rfl, hc⟩ := HL.out.get hs
      have HC := zz hc
      have HM2 := zz hm2
      have HMO := zz hm.ok
      have HCP := zz (show Calls Tryz.prog 11 #[.pointer (some ⟨P, 0, none⟩)] wr fun e w' => ∃ P2 Pt2 Pf2, e = .returned (.pointer (some ⟨P2, 0, none⟩)) ∧ MPair w.heap.size w P Pt Pf P2 Pt2 Pf2 (1 + 2 * k) m m [] w' from own_copyM hm (by omega))
      clear hc hs hm hm2 HA HX hx
      go_wp2_with (go_at_call 11; (with_reducible refine HCP.out.mono ?_); rintro e w3 ⟨P2, Pt2, Pf2, rfl, hT⟩
                   have HT3 := zz hT
                   clear hT)
      obtain ⟨er, her⟩ : ∃ z, (doM m core x).1.err = z := ⟨_, rfl⟩
      obtain ⟨fdr, hfd⟩ : ∃ z, (doM m core x).1.fd = z := ⟨_, rfl⟩
      obtain ⟨io, hio⟩ : ∃ z, (doM m core x).1.ino = z := ⟨_, rfl⟩
      obtain ⟨m', hm'⟩ : ∃ z, (doM m core x).2 = z := ⟨_, rfl⟩
      have HDO := zz (show ∀ W, HdSt w P Pt Pf P2 Pt2 Pf2 (1 + 2 * k) m m' m 0 W → Calls Tryz.prog 12 #[.pointer (some ⟨P, 0, none⟩), .int .i64 core, .agg #[.int .u8 act, .string p1, .string p2, .int .i64 fd, .int .i64 pg, .int .u32 sz, .string dt]] W fun e w' => (∃ cs, e = .returned (.agg cs) ∧ shR er fdr io cs) ∧ HdSt w P Pt Pf P2 Pt2 Pf2 (1 + 2 * k) m m' m 1 w' ∧ RelX er fdr io W w' from fun W h => HV.out ▸ (pair_do_r x HXF.out core (show MPair w.heap.size w P Pt Pf P2 Pt2 Pf2 (1 + 2 * k) m m [] W from h) HKW.out HB0.out (by omega)).mono fun e w' ⟨⟨v, h1, h2⟩, h3, h4⟩ => by
       obtain ⟨a, b, c, d, lA, ln, lc, dt, rfl⟩ := res_cells h2 (do_stat4 _ _ _)
       rw [her, hfd, hio] at h1
       rw [hm'] at h3
       exact ⟨⟨_, h1, a, b, c, d, lA, ln, lc, dt, rfl⟩, h3, RelX.of_r h4⟩)
      have HER := zz her
      have HMM := zz hm'
      have HM0 : Hid (HdSt w P Pt Pf P2 Pt2 Pf2 (1 + 2 * k) m m' m 0 w3) := HT3.out
      clear her hfd hio hm' HT3 HCP
      refine wp_region_st (fun j W => HdSt w P Pt Pf P2 Pt2 Pf2 (1 + 2 * k) m m' m j W) RelB (RelX er fdr io) [11, 13] (phi [isV (.pointer (some ⟨P, 0, none⟩)), isV (.slice (some ⟨b, o, none⟩) n c), isV (.int .i64 (k : Int)), isV (.pointer (some ⟨b, o + k * 10, none⟩)), isV (.pointer (some ⟨b, o + k * 10, none⟩)), isV (.int .i64 core), isV (.slice (some ⟨b, o, none⟩) n c), isV (.int .i64 (k : Int)), isV (.pointer (some ⟨b, o + k * 10, none⟩)), isV (.pointer (some ⟨b, o + k * 10 + 1, none⟩)), isV (.agg #[.int .u8 act, .string p1, .string p2, .int .i64 fd, .int .i64 pg, .int .u32 sz, .string dt]), isAns er fdr io, isBox w.heap.size er fdr io, isFull w.heap.size er fdr io]) (by kernel_rfl) (by kernel_rfl) (by kernel_rfl) (by kernel_rfl) (by kernel_rfl) (HdSt.below HM0.out (below_drew _)) (fun _ _ _ h hb => HdSt.below h hb) (fun _ _ h => RelX.of_r (RelR.of_below h)) ?_ ?_ ?_
      · refine stays_phiR ?_
        simp only [List.forall_mem_cons]
        exact ⟨kv, kv, kv, kv, kv, kv, kv, kv, kv, kv, kv, isAns.stay, isBox.stay, isFull.stay, fun _ h => absurd h (by simp)⟩
      · refine ⟨?_, ?_, ?_, ?_, ?_, ?_, ?_, ?_, ?_, ?_, ?_, ?_, ?_, ?_, trivial⟩
        · refine opS_mk rfl rfl fun aa W2 nJ hJ hp hq K hK => ?_
          have e8 : aa.tmps[8]?.getD undef = .pointer (some ⟨P, 0, none⟩) := hp 8 (by kernel_rfl)
          clear hp hq
          go_simp
          exact hK _ _ (RelB.refl _) rfl
        · refine opS_mk rfl rfl fun aa W2 nJ hJ hp hq K hK => ?_
          have e2 : aa.tmps[2]?.getD undef = .slice (some ⟨b, o, none⟩) n c := hp 2 (by kernel_rfl)
          clear hp hq
          go_simp
          exact hK _ _ (RelB.refl _) rfl
        · refine opS_mk rfl rfl fun aa W2 nJ hJ hp hq K hK => ?_
          have e10 : aa.tmps[10]?.getD undef = .int .i64 (k : Int) := hp 10 (by kernel_rfl)
          clear hp hq
          go_simp
          exact hK _ _ (RelB.refl _) rfl
        · refine opS_mk rfl rfl fun aa W2 nJ hJ hp hq K hK => ?_
          have e54 : aa.tmps[54]?.getD undef = .slice (some ⟨b, o, none⟩) n c := hq 1 _ (by kernel_rfl) rfl
          have e55 : aa.tmps[55]?.getD undef = .int .i64 (k : Int) := hq 2 _ (by kernel_rfl) rfl
          clear hp hq
          go_simp
          exact hK _ _ (RelB.refl _) rfl
        · refine opS_mk rfl rfl fun aa W2 nJ hJ hp hq K hK => ?_
          have e56 : aa.tmps[56]?.getD undef = .pointer (some ⟨b, o + k * 10, none⟩) := hq 3 _ (by kernel_rfl) rfl
          clear hp hq
          go_simp
          exact hK _ _ (RelB.refl _) rfl
        · refine opS_mk rfl rfl fun aa W2 nJ hJ hp hq K hK => ?_
          have e57 : aa.tmps[57]?.getD undef = .pointer (some ⟨b, o + k * 10, none⟩) := hq 4 _ (by kernel_rfl) rfl
          obtain ⟨hb, g0, f0, f1, f2, f3, f4, f5, f6⟩ := HC.out W2 (HdSt.mem hJ)
          clear hp hq
          go_simp
          exact hK _ _ (RelB.refl _) rfl
        · refine opS_mk rfl rfl fun aa W2 nJ hJ hp hq K hK => ?_
          have e2 : aa.tmps[2]?.getD undef = .slice (some ⟨b, o, none⟩) n c := hp 2 (by kernel_rfl)
          clear hp hq
          go_simp
          exact hK _ _ (RelB.refl _) rfl
        · refine opS_mk rfl rfl fun aa W2 nJ hJ hp hq K hK => ?_
          have e10 : aa.tmps[10]?.getD undef = .int .i64 (k : Int) := hp 10 (by kernel_rfl)
          clear hp hq
          go_simp
          exact hK _ _ (RelB.refl _) rfl
        · refine opS_mk rfl rfl fun aa W2 nJ hJ hp hq K hK => ?_
          have e59 : aa.tmps[59]?.getD undef = .slice (some ⟨b, o, none⟩) n c := hq 6 _ (by kernel_rfl) rfl
          have e60 : aa.tmps[60]?.getD undef = .int .i64 (k : Int) := hq 7 _ (by kernel_rfl) rfl
          clear hp hq
          go_simp
          exact hK _ _ (RelB.refl _) rfl
        · refine opS_mk rfl rfl fun aa W2 nJ hJ hp hq K hK => ?_
          have e61 : aa.tmps[61]?.getD undef = .pointer (some ⟨b, o + k * 10, none⟩) := hq 8 _ (by kernel_rfl) rfl
          clear hp hq
          go_simp
          exact hK _ _ (RelB.refl _) rfl
        · refine opS_mk rfl rfl fun aa W2 nJ hJ hp hq K hK => ?_
          have e62 : aa.tmps[62]?.getD undef = .pointer (some ⟨b, o + k * 10 + 1, none⟩) := hq 9 _ (by kernel_rfl) rfl
          obtain ⟨hb, g0, f0, f1, f2, f3, f4, f5, f6⟩ := HC.out W2 (HdSt.mem hJ)
          clear hp hq
          go_simp
          exact hK _ _ (RelB.refl _) rfl
        · refine opS_at (m := 0) rfl rfl fun aa W2 hJ hp hq K hK => ?_
          have e53 : aa.tmps[53]?.getD undef = .pointer (some ⟨P, 0, none⟩) := hq 0 _ (by kernel_rfl) rfl
          have e58 : aa.tmps[58]?.getD undef = .int .i64 core := hq 5 _ (by kernel_rfl) rfl
          have e63 : aa.tmps[63]?.getD undef = .agg #[.int .u8 act, .string p1, .string p2, .int .i64 fd, .int .i64 pg, .int .u32 sz, .string dt] := hq 10 _ (by kernel_rfl) rfl
          have HJ := zz hJ
          clear hp hq
          go_simp
          go_at_call 12
          (with_reducible refine (HDO.out W2 HJ.out).mono ?_)
          rintro e w5 ⟨⟨cs, rfl, hcs⟩, hT, hX⟩
          exact hK _ _ hX hT ⟨cs, rfl, hcs⟩
        · refine opS_mk rfl rfl fun aa W2 nJ hJ hp hq K hK => ?_
          have hsz := HdSt.base hJ
          clear hp hq
          go_simp
          exact hK _ _ (RelB.of (below_a1 _ _)) ⟨W2.heap.size, _, rfl, hsz, heap_alloc_new _ _, .inl rfl⟩
        · refine opS_at (m := 1) rfl rfl fun aa W2 hJ hp hq K hK => ?_
          have HJ := zz hJ
          obtain ⟨R, cs0, e12, hlo, hR, hz⟩ : isBox w.heap.size er fdr io (aa.tmps[12]?.getD undef) W2 := hq 12 _ (by kernel_rfl) rfl
          obtain ⟨cs, e64, hcs⟩ : isAns er fdr io (aa.tmps[64]?.getD undef) W2 := hq 11 _ (by kernel_rfl) rfl
          obtain ⟨xa, xb, xc, xd, lA, ln, lc, xdt, rfl⟩ := hcs
          obtain ⟨z0, z1, z2, z3, z4, z5, z6, z7, z8, rfl⟩ := box_nine hz
          have HR2 := zz hR
          obtain ⟨q0, q1, q2, q3, q4, q5, q6, q7, q8, r0, r1, r2, r3, r4, r5, r6, r7, r8⟩ := resC hR
          clear hJ hR hz
          clear hp hq
          go_simp
          obtain ⟨s1, s2, s3⟩ := full_store HJ.out HR2.out rfl hlo (⟨xa, xb, xc, xd, lA, ln, lc, xdt, rfl⟩ : shR er fdr io #[.int .i64 er, .int .i64 fdr, .int .u32 io, .int .u32 xa, .int .u8 xb, .int .i64 xc, .int .u32 xd, .slice lA ln lc, .string xdt]) rfl
          refine hK undef _ s1 s2 ?_
          show isFull w.heap.size er fdr io (aa.tmps[12]?.getD undef) _
          rw [e12]
          exact s3
      · intro vs W9 hJ9 hv9 hst9
        obtain ⟨R, cs, e12, hlo, hR, hsh⟩ : isFull w.heap.size er fdr io (vs 12) W9 := hst9 13 _ 12 12 _ rfl rfl rfl rfl rfl
        obtain ⟨xa, xb, xc, xd, lA, ln, lc, xdt, rfl⟩ := hsh
        have HP9 : Hid (MPair w.heap.size w P Pt Pf P2 Pt2 Pf2 (1 + 2 * k + 2) m' m [] W9) := hJ9
        have HE9 : Hid (∀ W, Below W9.heap.size W9 W → W.cell? ⟨R, 0, none⟩ = some (.int .i64 er)) := fun W hb => (World.cell?_of_block (a := ⟨R, 0, none⟩) (hb.block R (get_lt_heap hR))).trans (by simp [World.cell?, hR])
        clear hJ9 hv9 hst9 hR HM0 HDO hlo
        simp only [putAll, Act.put, List.setIfInBounds_toArray, List.set_cons_succ, List.set_cons_zero, Nat.zero_add, Nat.reduceAdd]
        rw [e12]
        clear e12
        have HTR := zz (show ∀ W, Below W9.heap.size W9 W → Calls Tryz.prog 14 #[.pointer (some ⟨P, 0, none⟩)] W (CopyP (1 + 2 * k + 2) m'.t W) from fun W hb => by
         obtain ⟨y, F, hM⟩ := (HP9.out.below hb).fst.mod
         exact t_treeOf W hM (by omega))
        have HTW := zz (show ∀ W, Below W9.heap.size W9 W → Calls Tryz.prog 14 #[.pointer (some ⟨P2, 0, none⟩)] W (CopyP (1 + 2 * k + 2) m.t W) from fun W hb => by
         obtain ⟨y, F, hM⟩ := (HP9.out.below hb).snd.mod
         exact t_treeOf W hM (by omega))
        have HOK : Hid m'.Ok := HP9.out.fst.ok
        have HNQ : Hid (m'.n = q) := by
         show m'.n = q
         rw [← HMM.out]
         exact (do_n HMO.out HXF.out).trans HM2.out
        have HOP := zz (show ∀ W, Below W9.heap.size W9 W → ∀ c fd, Calls Tryz.prog 13 #[.pointer (some ⟨P, 0, none⟩), .int .i64 c, .int .i64 fd] W fun e w' => e = .returned (.tuple #[.int .u32 (ofT m'.T m'.n c fd), .bool (ofT m'.T m'.n c fd != 0)]) ∧ W = w' from fun W hb => pair_open1 (HP9.out.below hb) (by rw [HNQ.out]; omega))
        have HW' : Hid (WellP m'.t) := HOK.out.well
        have HNE : Hid (∃ i, (m'.t.n i).isSome = true) := by
         obtain ⟨x, hx, _⟩ := HW'.out.root
         exact ⟨1, by rw [hx]; rfl⟩
        have HAA := zz (show m' = m → ∀ W F4 P4 y4 P5 y5 F5, TreeM W F4 P4 (1 + 2 * k + 2) y4 m'.t → TreeM W F5 P5 (1 + 2 * k + 2) y5 m.t → Calls Tryz.prog 18 #[.pointer (some ⟨P4, 0, none⟩), .pointer (some ⟨P5, 0, none⟩)] W fun e w' => e = .returned (.bool true) ∧ Below W.heap.size W w' from fun e W F4 P4 y4 P5 y5 F5 h1 h2 => t_alike W h1 (e ▸ h2) HW'.out (by omega))
        obtain ⟨a0, ha0, ha1⟩ := HXF.out.act
        rw [HXA.out] at ha0
        subst ha0
        have hmm := @run_makeMap Tryz.prog
        have hN6 : 1 + 2 * k + 2 ≤ 60000 := by omega
        go_wp2_with (first
         | (go_at_call 14; (with_reducible refine (HTR.out _ (Below.refl _ _)).mono ?_); rintro e w4 ⟨P3, y3, F3, rfl, hT, hF, hb⟩
            have HT3 := zz hT
            have HB3 := zz hb
            clear hT hF hb)
         | (go_at_call 15; (with_reducible refine (t_whole w4 HT3.out HW'.out hN6).mono ?_); rintro e w5 ⟨rfl, hb⟩
            have HB5 := zz hb
            clear hb))
        obtain ⟨Mb, hMb⟩ : ∃ Mb, w5.heap.size = Mb := ⟨_, rfl⟩
        have HC0 : Hid (CntAt w5 (w5.alloc (.map #[] 0)) Mb (0 * 16) (openL m'.T (0 * 16))) := by rw [← hMb]; exact CntAt.made w5
        rw [hMb]
        have HQ8 := zz hq8
        have HB9 := zz (ptrans HB3.out HB5.out)
        have HOF := zz (show ∀ (c k2 : Nat), c < q → k2 < 16 → ofT m'.T m'.n c k2 = m'.T (c * 16 + k2) from fun c k2 h1 h2 => by
         unfold ofT
         rw [HNQ.out, if_pos ⟨by omega, by omega, by omega, by omega⟩]
         simp)
        clear hMb
        go_loopw [15] (fun v W => ∃ c : Nat, v = .int .i64 (c : Int) ∧ c ≤ q ∧ Hid (CntAt w5 W Mb (c * 16) (openL m'.T (c * 16)))) (fun v _ => q - (intOf v).toNat)
        case atStart => exact ⟨0, rfl, Nat.zero_le _, HC0.out⟩
        case round =>
         clear HC0
         obtain ⟨c2, rfl, hc2, HC2⟩ := hrel
         by_cases he2 : c2 = q
         · have he2' := he2.symm
           subst he2'
           have HT5 := zz (HT3.out.below (ptrans HB5.out HC2.out.below))
           clear HOP HOF HTR he2
           go_wp2_with (go_at_call 16; (with_reducible refine (t_allP wr HT5.out hN6 HNE.out).mono ?_); rintro e w7 ⟨B1, c1, all, rfl, hs, hm, hr, hg, hb⟩; have HS := zz hs; have HM := zz hm; have HRW := zz hr; have HB7 := zz hb; clear hs hm hr hg hb)
           have hlen := all_len HW'.out HS.out HM.out
           obtain ⟨nl, hnl⟩ : ∃ nl, all.length = nl := ⟨_, rfl⟩
           have HL7 := zz hnl
           rw [hnl] at hlen ⊢
           have HC7 := zz (HC2.out.later HB7.out)
           have HT7 := zz (HT5.out.below HB7.out)
           have HHC := zz (show ∀ v : Int, v ≠ 0 → heldR m'.t v = ((openL m'.T (q * 16)).count v : Nat) from fun v hv => held_count HOK.out hv (by rw [HNQ.out]; omega))
           clear hnl HC2 HT5
           go_loopw [20, 21] (fun v20 v21 W => ∃ (k3 : Nat) (z : Int), v20 = .int .i64 z ∧ v21 = .int .i64 (k3 : Int) ∧ k3 ≤ nl ∧ Hid (Below w7.heap.size w7 W)) (fun _ v _ => nl - (intOf v).toNat)
           case atStart => exact ⟨0, 0, rfl, rfl, Nat.zero_le _, Below.refl _ _⟩
           case round =>
            obtain ⟨k3, z, rfl, rfl, hk3, HB8⟩ := hrel
            by_cases he4 : k3 = nl
            · have he4' := he4.symm
              subst he4'
              clear he4
              have HBX := zz (ptrans (ptrans HB9.out HC7.out.below) HB8.out)
              have HRS := zz (show ∀ W, Below W9.heap.size W9 W → Hid (HdAt w q P Pt Pf (k + 1) W) from fun W hb => ⟨m', by rw [show 1 + 2 * (k + 1) = 1 + 2 * k + 2 by omega]; exact (HP9.out.below hb).fst, HNQ.out⟩)
              have HdB := zz (show Below w.heap.size w W9 from HP9.out.mem)
              have hx0 := HE9.out _ HBX.out
              have hac := (HC.out _ (ptrans HdB.out HBX.out)).2.2.1
              clear HHC HRW HL7 HM HS
              by_cases hE : er = 0
              · subst hE
                by_cases h1 : a0 = 1
                · subst h1
                  have HCH := zz (show ∀ W, Calls Tryz.prog 19 #[.int .u8 1] W (ChangesP 1 W) from fun W => t_changes20 1 W)
                  go_wp2_with (first
                   | (go_at_call 19; (with_reducible refine (HCH.out _).mono ?_); rintro e w13 ⟨⟨bb, rfl, hbb⟩, rfl⟩; cases bb))
                  all_goals first
                   | exact ⟨⟨k + 1, by go_num, by omega, HRS.out _ HB15.out⟩, by simp [intOf]; omega⟩
                   | exact ⟨⟨k + 1, by go_num, by omega, HRS.out _ HB12.out⟩, by simp [intOf]; omega⟩
                   | exact ⟨⟨k + 1, by go_num, by omega, HRS.out _ HBX.out⟩, by simp [intOf]; omega⟩
                · by_cases h13 : a0 = 13
                  · subst h13
                    have HCH := zz (show ∀ W, Calls Tryz.prog 19 #[.int .u8 13] W (ChangesP 13 W) from fun W => t_changes20 13 W)
                    go_wp2_with (first
                     | (go_at_call 19; (with_reducible refine (HCH.out _).mono ?_); rintro e w13 ⟨⟨bb, rfl, hbb⟩, rfl⟩; cases bb))
                    all_goals first
                     | exact ⟨⟨k + 1, by go_num, by omega, HRS.out _ HB15.out⟩, by simp [intOf]; omega⟩
                     | exact ⟨⟨k + 1, by go_num, by omega, HRS.out _ HB12.out⟩, by simp [intOf]; omega⟩
                     | exact ⟨⟨k + 1, by go_num, by omega, HRS.out _ HBX.out⟩, by simp [intOf]; omega⟩
                  · have i1 := ne_b (a := a0) (k := 1) (by omega)
                    have i13 := ne_b (a := a0) (k := 13) (by omega)
                    have j1 : ((a0 : Int) != 1) = true := by simp; omega
                    have j13 : ((a0 : Int) != 13) = true := by simp; omega
                    by_cases hnq : a0 ≠ 2 ∧ a0 ≠ 4 ∧ a0 ≠ 5 ∧ ¬ (6 ≤ a0 ∧ a0 ≤ 10)
                    · have hmm' : m' = m := by
                       rw [← HMM.out]
                       have e := HXA.out
                       exact do_quiet core x (by omega) (by omega) (by omega) (by omega) (by omega) (by omega) (by omega) (by omega) (by omega) (by omega)
                      have HAK := zz (HAA.out hmm')
                      clear hmm' hnq
                      go_wp2_with (first
                       | (go_at_call 19; (with_reducible refine (t_changes20 a0 _).mono ?_); rintro e w13 ⟨⟨bb, rfl, hbb⟩, rfl⟩; cases bb)
                       | (go_at_call 14; (with_reducible refine (HTW.out _ HBX.out).mono ?_); rintro e w14 ⟨P6, y6, F6, rfl, hT, hF, hb⟩
                          have HT14 := zz hT
                          have HB14 := zz (ptrans HBX.out hb)
                          have HTB := zz ((HT7.out.below HB8.out).below hb)
                          clear hT hF hb)
                       | (go_at_call 18; (with_reducible refine (HAK.out _ _ _ _ _ _ _ HTB.out HT14.out).mono ?_); rintro e w15 ⟨rfl, hb⟩
                          have HB15 := zz (ptrans HB14.out hb)
                          clear hb))
                      all_goals first
                       | exact ⟨⟨k + 1, by go_num, by omega, HRS.out _ HB15.out⟩, by simp [intOf]; omega⟩
                       | exact ⟨⟨k + 1, by go_num, by omega, HRS.out _ HB12.out⟩, by simp [intOf]; omega⟩
                       | exact ⟨⟨k + 1, by go_num, by omega, HRS.out _ HBX.out⟩, by simp [intOf]; omega⟩
                    · clear h1 h13
                      go_wp2_with (first
                       | (go_at_call 19; (with_reducible refine (t_changes20 a0 _).mono ?_); rintro e w13 ⟨⟨bb, rfl, hbb⟩, rfl⟩; cases bb; · exact absurd (hbb rfl) hnq))
                      all_goals first
                       | exact ⟨⟨k + 1, by go_num, by omega, HRS.out _ HB15.out⟩, by simp [intOf]; omega⟩
                       | exact ⟨⟨k + 1, by go_num, by omega, HRS.out _ HB12.out⟩, by simp [intOf]; omega⟩
                       | exact ⟨⟨k + 1, by go_num, by omega, HRS.out _ HBX.out⟩, by simp [intOf]; omega⟩
              · have ie : (er == 0) = false := by simpa using hE
                have je : (er != 0) = true := by simpa using hE
                have hmm' : m' = m := by
                 rw [← HMM.out]
                 exact (deed_do HMO.out core x HXF.out.size).2.2 (by rw [HER.out]; exact hE)
                have HAK := zz (HAA.out hmm')
                clear hmm' hE
                by_cases h1 : a0 = 1
                · subst h1
                  have HCH := zz (show ∀ W, Calls Tryz.prog 19 #[.int .u8 1] W (ChangesP 1 W) from fun W => t_changes20 1 W)
                  go_wp2_with (first
                   | (go_at_call 14; (with_reducible refine (HTW.out _ HBX.out).mono ?_); rintro e w11 ⟨P5, y5, F5, rfl, hT, hF, hb⟩
                      have HT11 := zz hT
                      have HB11 := zz (ptrans HBX.out hb)
                      have HTA := zz (HT7.out.below (ptrans HB8.out hb))
                      clear hT hF hb)
                   | (go_at_call 18; (with_reducible refine (HAK.out _ _ _ _ _ _ _ HTA.out HT11.out).mono ?_); rintro e w12 ⟨rfl, hb⟩
                      have HB12 := zz (ptrans HB11.out hb)
                      have HT12 := zz (HTA.out.below hb)
                      have hac := (HC.out _ (ptrans (HdB.out) HB12.out)).2.2.1
                      clear hb)
                   | (go_at_call 19; (with_reducible refine (HCH.out _).mono ?_); rintro e w13 ⟨⟨bb, rfl, hbb⟩, rfl⟩; cases bb))
                  all_goals first
                   | exact ⟨⟨k + 1, by go_num, by omega, HRS.out _ HB15.out⟩, by simp [intOf]; omega⟩
                   | exact ⟨⟨k + 1, by go_num, by omega, HRS.out _ HB12.out⟩, by simp [intOf]; omega⟩
                   | exact ⟨⟨k + 1, by go_num, by omega, HRS.out _ HBX.out⟩, by simp [intOf]; omega⟩
                · by_cases h13 : a0 = 13
                  · subst h13
                    have HCH := zz (show ∀ W, Calls Tryz.prog 19 #[.int .u8 13] W (ChangesP 13 W) from fun W => t_changes20 13 W)
                    go_wp2_with (first
                     | (go_at_call 14; (with_reducible refine (HTW.out _ HBX.out).mono ?_); rintro e w11 ⟨P5, y5, F5, rfl, hT, hF, hb⟩
                        have HT11 := zz hT
                        have HB11 := zz (ptrans HBX.out hb)
                        have HTA := zz (HT7.out.below (ptrans HB8.out hb))
                        clear hT hF hb)
                     | (go_at_call 18; (with_reducible refine (HAK.out _ _ _ _ _ _ _ HTA.out HT11.out).mono ?_); rintro e w12 ⟨rfl, hb⟩
                        have HB12 := zz (ptrans HB11.out hb)
                        have HT12 := zz (HTA.out.below hb)
                        have hac := (HC.out _ (ptrans (HdB.out) HB12.out)).2.2.1
                        clear hb)
                     | (go_at_call 19; (with_reducible refine (HCH.out _).mono ?_); rintro e w13 ⟨⟨bb, rfl, hbb⟩, rfl⟩; cases bb))
                    all_goals first
                     | exact ⟨⟨k + 1, by go_num, by omega, HRS.out _ HB15.out⟩, by simp [intOf]; omega⟩
                     | exact ⟨⟨k + 1, by go_num, by omega, HRS.out _ HB12.out⟩, by simp [intOf]; omega⟩
                     | exact ⟨⟨k + 1, by go_num, by omega, HRS.out _ HBX.out⟩, by simp [intOf]; omega⟩
                  · have i1 := ne_b (a := a0) (k := 1) (by omega)
                    have i13 := ne_b (a := a0) (k := 13) (by omega)
                    have j1 : ((a0 : Int) != 1) = true := by simp; omega
                    have j13 : ((a0 : Int) != 13) = true := by simp; omega
                    clear h1 h13
                    go_wp2_with (first
                     | (go_at_call 14; (with_reducible refine (HTW.out _ HBX.out).mono ?_); rintro e w11 ⟨P5, y5, F5, rfl, hT, hF, hb⟩
                        have HT11 := zz hT
                        have HB11 := zz (ptrans HBX.out hb)
                        have HTA := zz (HT7.out.below (ptrans HB8.out hb))
                        clear hT hF hb)
                     | (go_at_call 18; (with_reducible refine (HAK.out _ _ _ _ _ _ _ HTA.out HT11.out).mono ?_); rintro e w12 ⟨rfl, hb⟩
                        have HB12 := zz (ptrans HB11.out hb)
                        have HT12 := zz (HTA.out.below hb)
                        have hac := (HC.out _ (ptrans (HdB.out) HB12.out)).2.2.1
                        clear hb)
                     | (go_at_call 19; (with_reducible refine (t_changes20 a0 _).mono ?_); rintro e w13 ⟨⟨bb, rfl, hbb⟩, rfl⟩; cases bb)
                     | (go_at_call 14; (with_reducible refine (HTW.out _ HB12.out).mono ?_); rintro e w14 ⟨P6, y6, F6, rfl, hT, hF, hb⟩
                        have HT14 := zz hT
                        have HB14 := zz (ptrans HB12.out hb)
                        have HTB := zz (HT12.out.below hb)
                        clear hT hF hb)
                     | (go_at_call 18; (with_reducible refine (HAK.out _ _ _ _ _ _ _ HTB.out HT14.out).mono ?_); rintro e w15 ⟨rfl, hb⟩
                        have HB15 := zz (ptrans HB14.out hb)
                        clear hb))
                    all_goals first
                     | exact ⟨⟨k + 1, by go_num, by omega, HRS.out _ HB15.out⟩, by simp [intOf]; omega⟩
                     | exact ⟨⟨k + 1, by go_num, by omega, HRS.out _ HB12.out⟩, by simp [intOf]; omega⟩
                     | exact ⟨⟨k + 1, by go_num, by omega, HRS.out _ HBX.out⟩, by simp [intOf]; omega⟩
            · have hk4 : k3 < nl := by omega
              obtain ⟨v, hv⟩ : ∃ v, all[k3]? = some v := ⟨all[k3]'(by rw [HL7.out]; exact hk4), List.getElem?_eq_getElem _⟩
              obtain ⟨x7, hx7⟩ := Option.isSome_iff_exists.1 ((HM.out v).1 (List.mem_of_getElem? hv))
              have hpos := HT7.out.pos v x7 hx7
              have HU : Hid (U32 v) := ⟨by omega, by omega⟩
              have hh := HHC.out v (by omega)
              obtain ⟨hd, hhd⟩ : ∃ hd, heldR m'.t v = hd := ⟨_, rfl⟩
              have HD1 := zz (show ∀ W, Below w7.heap.size w7 W → W.cell? ⟨B1, k3, none⟩ = some (.int .u32 v) from fun W hW => (HRW.out.below hW).cell k3 v hv)
              have HLK := zz (show ∀ W, Below w7.heap.size w7 W → (Instr.lookup 46 (.map (some Mb)) (.int .u32 v) false).run Tryz.prog W = .ok (.int .i64 hd) W from fun W hW => by
               have h := (HC7.out.later hW).look HU.out
               rw [← hh, hhd] at h
               exact h)
              have HHE := zz (show ∀ W, Below w7.heap.size w7 W → Calls Tryz.prog 17 #[.pointer (some ⟨P3, 0, none⟩), .int .u32 v] W fun e w' => e = .returned (.int .i64 hd) ∧ W = w' from fun W hW => by
               rw [← hhd]
               exact (t_heldP v W (HT7.out.below hW) HU.out).mono fun e w' ⟨h1, h2⟩ => ⟨h1, h2.symm ▸ rfl⟩)
              clear hv hx7 hpos hh hhd he4
              go_wp2
              refine wp_region_rel RelB (phi [isV (.pointer (some ⟨P3, 0, none⟩)), isV (.slice (some ⟨B1, 0, none⟩) nl c1), isV (.int .i64 (k3 : Int)), isV (.pointer (some ⟨B1, k3, none⟩)), isV (.int .u32 v), isV (.int .i64 hd), isV (.map (some Mb)), isV (.slice (some ⟨B1, 0, none⟩) nl c1), isV (.int .i64 (k3 : Int)), isV (.pointer (some ⟨B1, k3, none⟩)), isV (.int .u32 v), isV (.int .i64 hd), isV (.bool false)]) (by kernel_rfl) (by kernel_rfl) (by kernel_rfl) (RelB.of (below_drew _)) (fun _ _ _ a b => a.trans b) ?_ ?_ ?_
              · refine stays_phiR ?_
                simp only [List.forall_mem_cons]
                exact ⟨kv, kv, kv, kv, kv, kv, kv, kv, kv, kv, kv, kv, kv, fun _ h => absurd h (by simp)⟩
              · refine ⟨?_, ?_, ?_, ?_, ?_, ?_, ?_, ?_, ?_, ?_, ?_, ?_, ?_, trivial⟩
                · refine opR_mk rfl fun aa W2 hB hp hq K hK => ?_
                  have e13 : aa.tmps[13]?.getD undef = .pointer (some ⟨P3, 0, none⟩) := hp 13 (by kernel_rfl)
                  clear hp hq
                  go_simp
                  exact hK _ _ (RelB.refl _) rfl
                · refine opR_mk rfl fun aa W2 hB hp hq K hK => ?_
                  have e19 : aa.tmps[19]?.getD undef = .slice (some ⟨B1, 0, none⟩) nl c1 := hp 19 (by kernel_rfl)
                  clear hp hq
                  go_simp
                  exact hK _ _ (RelB.refl _) rfl
                · refine opR_mk rfl fun aa W2 hB hp hq K hK => ?_
                  have e21 : aa.tmps[21]?.getD undef = .int .i64 (k3 : Int) := hp 21 (by kernel_rfl)
                  clear hp hq
                  go_simp
                  exact hK _ _ (RelB.refl _) rfl
                · refine opR_mk rfl fun aa W2 hB hp hq K hK => ?_
                  have e109 : aa.tmps[109]?.getD undef = .slice (some ⟨B1, 0, none⟩) nl c1 := hq 1 _ (by kernel_rfl) rfl
                  have e110 : aa.tmps[110]?.getD undef = .int .i64 (k3 : Int) := hq 2 _ (by kernel_rfl) rfl
                  clear hp hq
                  go_simp
                  exact hK _ _ (RelB.refl _) rfl
                · refine opR_mk rfl fun aa W2 hB hp hq K hK => ?_
                  have e111 : aa.tmps[111]?.getD undef = .pointer (some ⟨B1, k3, none⟩) := hq 3 _ (by kernel_rfl) rfl
                  have d1 := HD1.out W2 (ptrans HB8.out hB.bel)
                  clear hp hq
                  go_simp
                  exact hK _ _ (RelB.refl _) rfl
                · refine opR_mk rfl fun aa W2 hB hp hq K hK => ?_
                  have e108 : aa.tmps[108]?.getD undef = .pointer (some ⟨P3, 0, none⟩) := hq 0 _ (by kernel_rfl) rfl
                  have e112 : aa.tmps[112]?.getD undef = .int .u32 v := hq 4 _ (by kernel_rfl) rfl
                  clear hp hq
                  go_simp
                  go_at_call 17
                  (with_reducible refine (HHE.out W2 (ptrans HB8.out hB.bel)).mono ?_)
                  rintro e w9 ⟨rfl, rfl⟩
                  exact hK _ _ (RelB.refl _) rfl
                · refine opR_mk rfl fun aa W2 hB hp hq K hK => ?_
                  have e14 : aa.tmps[14]?.getD undef = .map (some Mb) := hp 14 (by kernel_rfl)
                  clear hp hq
                  go_simp
                  exact hK _ _ (RelB.refl _) rfl
                · refine opR_mk rfl fun aa W2 hB hp hq K hK => ?_
                  have e19 : aa.tmps[19]?.getD undef = .slice (some ⟨B1, 0, none⟩) nl c1 := hp 19 (by kernel_rfl)
                  clear hp hq
                  go_simp
                  exact hK _ _ (RelB.refl _) rfl
                · refine opR_mk rfl fun aa W2 hB hp hq K hK => ?_
                  have e21 : aa.tmps[21]?.getD undef = .int .i64 (k3 : Int) := hp 21 (by kernel_rfl)
                  clear hp hq
                  go_simp
                  exact hK _ _ (RelB.refl _) rfl
                · refine opR_mk rfl fun aa W2 hB hp hq K hK => ?_
                  have e115 : aa.tmps[115]?.getD undef = .slice (some ⟨B1, 0, none⟩) nl c1 := hq 7 _ (by kernel_rfl) rfl
                  have e116 : aa.tmps[116]?.getD undef = .int .i64 (k3 : Int) := hq 8 _ (by kernel_rfl) rfl
                  clear hp hq
                  go_simp
                  exact hK _ _ (RelB.refl _) rfl
                · refine opR_mk rfl fun aa W2 hB hp hq K hK => ?_
                  have e117 : aa.tmps[117]?.getD undef = .pointer (some ⟨B1, k3, none⟩) := hq 9 _ (by kernel_rfl) rfl
                  have d1 := HD1.out W2 (ptrans HB8.out hB.bel)
                  clear hp hq
                  go_simp
                  exact hK _ _ (RelB.refl _) rfl
                · refine opR_mk rfl fun aa W2 hB hp hq K hK => ?_
                  have e114 : aa.tmps[114]?.getD undef = .map (some Mb) := hq 6 _ (by kernel_rfl) rfl
                  have e118 : aa.tmps[118]?.getD undef = .int .u32 v := hq 10 _ (by kernel_rfl) rfl
                  have hlk := HLK.out W2 (ptrans HB8.out hB.bel)
                  clear hp hq
                  go_simp
                  exact hK _ _ (RelB.refl _) rfl
                · refine opR_mk rfl fun aa W2 hB hp hq K hK => ?_
                  have e113 : aa.tmps[113]?.getD undef = .int .i64 hd := hq 5 _ (by kernel_rfl) rfl
                  have e119 : aa.tmps[119]?.getD undef = .int .i64 hd := hq 11 _ (by kernel_rfl) rfl
                  clear hp hq
                  go_simp
                  exact hK _ _ (RelB.refl _) rfl
              · intro vs W3 hB3 hv3 _
                have HB8' := zz (ptrans HB8.out hB3.bel)
                have v12 : vs 12 = .bool false := hv3 12 _ rfl rfl
                simp only [putAll, Act.put, List.setIfInBounds_toArray, List.set_cons_succ, List.set_cons_zero, Nat.zero_add, Nat.reduceAdd]
                rw [v12]
                have d1 := HD1.out W3 HB8'.out
                clear hB3 hv3 v12 HB8
                go_wp2_with (go_at_call 17; (with_reducible refine (HHE.out _ HB8'.out).mono ?_); rintro e w9 ⟨rfl, rfl⟩)
                exact ⟨⟨k3 + 1, _, rfl, by go_num, by omega, HB8'⟩, by simp [intOf]; omega⟩
         · have hcq : c2 < q := by omega
           clear he2
           go_wp2
           go_loopw [16] (fun v W => ∃ k2 : Nat, v = .int .i64 (k2 : Int) ∧ k2 ≤ 16 ∧ Hid (CntAt w5 W Mb (c2 * 16 + k2) (openL m'.T (c2 * 16 + k2)))) (fun v _ => 16 - (intOf v).toNat)
           case atStart => exact ⟨0, rfl, Nat.zero_le _, HC2.out⟩
           case round =>
            clear HC2
            obtain ⟨k2, rfl, hk2, HC2⟩ := hrel
            by_cases he3 : k2 = 16
            · subst he3
              go_wp2
              refine ⟨⟨c2 + 1, by go_num, by omega, ?_⟩, by simp [intOf]; omega⟩
              rw [show (c2 + 1) * 16 = c2 * 16 + 16 by omega]
              exact HC2
            · have hk16 : k2 < 16 := by omega
              have hk15 : (k2 : Int) ≤ 15 := by omega
              have HO3 := zz (HOP.out wr (ptrans HB9.out HC2.out.below) c2 k2)
              rw [HOF.out c2 k2 hcq hk16] at HO3
              obtain ⟨z, hz⟩ : ∃ z, m'.T (c2 * 16 + k2) = z := ⟨_, rfl⟩
              rw [hz] at HO3
              have HZ := zz hz
              have HU : Hid (z ≠ 0 → U32 z) := fun h => by
               rw [← hz]
               exact open_u32 HOK.out (by omega) (by rw [hz]; exact h)
              clear he3 hz
              by_cases hz0 : z = 0
              · subst hz0
                have HC3 : Hid (CntAt w5 wr Mb (c2 * 16 + (k2 + 1)) (openL m'.T (c2 * 16 + (k2 + 1)))) := by
                 have h := HC2.out
                 rw [show c2 * 16 + (k2 + 1) = c2 * 16 + k2 + 1 by omega, openL_succ, if_pos HZ.out]
                 exact ⟨h.map.mono (by omega), h.below, h.lt, Nat.le_trans h.len (by omega)⟩
                clear HC2
                go_wp2_with (go_at_call 13; (with_reducible refine HO3.out.mono ?_); rintro e w7 ⟨rfl, rfl⟩)
                exact ⟨⟨k2 + 1, by go_num, by omega, HC3⟩, by simp [intOf]; omega⟩
              · have hzb : (z != 0) = true := by simpa using hz0
                have hu := HU.out hz0
                have hlk := HC2.out.look hu
                have hcc := cnt_le (openL m'.T (c2 * 16 + k2)) z
                have hol := openL_len m'.T (c2 * 16 + k2)
                obtain ⟨W7, hup, hin7⟩ := HC2.out.count hu (by omega)
                obtain ⟨cc, hcd⟩ : ∃ cc, (openL m'.T (c2 * 16 + k2)).count z = cc := ⟨_, rfl⟩
                rw [hcd] at hlk hup hcc
                have hcc2 : cc ≤ 200 := by omega
                have HC3 : Hid (CntAt w5 W7 Mb (c2 * 16 + (k2 + 1)) (openL m'.T (c2 * 16 + (k2 + 1)))) := by
                 rw [show c2 * 16 + (k2 + 1) = c2 * 16 + k2 + 1 by omega, openL_succ, if_neg (by rw [HZ.out]; exact hz0), HZ.out]
                 exact hin7
                clear HC2 hin7 hcd hcc hol hu hz0
                go_wp2_with (go_at_call 13; (with_reducible refine HO3.out.mono ?_); rintro e w7 ⟨rfl, rfl⟩)
                exact ⟨⟨k2 + 1, by go_num, by omega, HC3⟩, by simp [intOf]; omega⟩
 · go_ret
   exact ⟨rfl, ptrans H1.out hb9⟩
end

section
open Go Go.ChangeShapes Go.WideShapes Go.ChangeAt Go.RowKit
set_option maxRecDepth 100000 in
theorem lifted_modelBack (os : Os) (started : os.Started) (H : Type) (enc : TypeId × Value → H) :
  ReturnsInHanded {} Tryz.checked os 5 .any (fun w args => (Rows.modelBackSpec.pre enc Tryz.prog Tryz.f5 [] false w args ∧ laidMetH Tryz.prog laidK w) ∧ sizedMet enc Tryz.prog Tryz.f5 (OpenSpec.ofChange Rows.modelBackSpec) false w args)
   (Rows.modelBackSpec.post enc Tryz.prog Tryz.f5 false true false false) := by
 refine returnsInHanded_of_change_and (C := Tryz.checked) (X := fun w _ => laidMetH Tryz.prog laidK w) (fun _ _ _ hh h => h.of_heap hh) own started (by kernel_rfl) Tryz.func5
  (ChangeSpec.witness_shaped (enc := enc) (C := Tryz.checked) (os := os) (X := fun w _ => laidMetH Tryz.prog laidK w) false (World.doorLaid Tryz.prog 400 os) #[.slice none 0 0, .string ⟨#[]⟩, .string ⟨#[]⟩] 8 rfl (World.shaped_of_RefB (by kernel_rfl) (by kernel_rfl)) (by kernel_rfl) (by kernel_rfl) (by kernel_rfl) (door_met os _)) ?_
 intro W base args ds gs before hval0 hW _ _ hX _
 have hval : ∀ (j : Nat) t v, Tryz.f5.params[j]? = some t → args[j]? = some v → Value.okWide Tryz.prog W .any base t v := hval0
 have hW' := hW
 obtain ⟨p, q, hA0, hV, rfl, _, _⟩ := hW
 have hA : DataW.TrodAll enc Tryz.prog W 0 (fun _ => true) true Tryz.f5.params.toList args.toList ds p := hA0
 rw [Tryz.params5] at hA hval
 obtain ⟨v0, vs0, d0, ds0, p0, q0, hargs, rfl, rfl, h0, r0⟩ := trodAll_cons hA
 obtain ⟨v1, vs1, d1, ds1, p1, q1, rfl, rfl, rfl, h1, r1⟩ := trodAll_cons r0
 obtain ⟨v2, vs2, d2, ds2, p2, q2, rfl, rfl, rfl, h2, r2⟩ := trodAll_cons r1
 obtain ⟨rfl, rfl, rfl⟩ := trodAll_nil r2
 obtain rfl : args = #[v0, v1, v2] := by cases args; simp_all
 obtain ⟨rfl, rfl⟩ := trodVars_none hV
 obtain ⟨A, n, c, l, rfl, hn, hl, hs, hf⟩ := steps21_of (okWide_slice Tryz.underlying22 (hval 0 22 v0 rfl rfl)) h0
 obtain ⟨s1, rfl, rfl, rfl, hs1⟩ := Go.ChangeMaps.open_string Tryz.underlying9 (hval 1 9 v1 rfl rfl) h1
 obtain ⟨s2, rfl, rfl, rfl, hs2⟩ := Go.ChangeMaps.open_string Tryz.underlying9 (hval 2 9 v2 rfl rfl) h2
 refine (t_modelBack A n c l s1 s2 W hs hl hn hs1 hs2 hf (kinds_of_laid hX)).mono fun e W' ⟨he, hb⟩ => ?_
 exact ⟨_, he, law_post laidOut (by kernel_rfl) rfl (by kernel_rfl) Tryz.underlying4 hW' rfl hb⟩
theorem modelBack_row : Rows.ModelBackSaid :=
 OpenClaim.holds_of_wide 5 Tryz.f5 rfl rfl rfl rfl rfl rfl rfl ⟨rfl, rfl, rfl, rfl, rfl⟩ rfl rfl rfl rfl rfl (by kernel_rfl) Tryz.func5 (by kernel_rfl)
  (of_decide_eq_true (by kernel_rfl)) (by unfold Func.isWrapper; first | (rw [if_pos (by decide +kernel)]; kernel_rfl) | (rw [if_neg (by decide +kernel)]; exact ⟨rfl, rfl⟩))
  (fun os started H enc _ => lifted_modelBack os started H enc)
theorem modelBack_holds : Rows.ModelBackCardSaid :=
 Claim7.holds_tied_plain_at .later [] [.data] true Rows.modelBackCard.stood.harness true
  modelBack_row (fun _ h => by cases h) (by kernel_rfl) (fun _ h => by cases h) modelBack_row_tie rfl ⟨rfl, rfl⟩ (by kernel_rfl) rfl
  (fun f fn hf hfn => by
   obtain rfl : f = 5 := Option.some.inj ((show Tryz.prog.funcNamed "lunette/lunettelaw21.ModelBack" = some 5 by kernel_rfl).symm.trans hf) |>.symm
   obtain rfl : fn = Tryz.f5 := (Option.some.inj (Tryz.func5.symm.trans hfn)).symm
   refine ⟨by kernel_rfl, fun j t ht => ?_⟩
   rw [Tryz.params5] at ht
   have hm : t ∈ [22, 9, 9] := List.mem_of_getElem? (i := j) (by rw [← ht]; exact (List.getElem?_toArray ..).symm)
   have hall : ∀ t ∈ [22, 9, 9], Tryz.prog.wantsStandIn t = false := by
    intro t h
    simp only [List.mem_cons, List.not_mem_nil, or_false] at h
    rcases h with rfl | rfl | rfl <;> kernel_rfl
   exact hall t hm)
  (by kernel_rfl)
#print axioms modelBack_holds
end
end Go.Proofs.YtpcnolkdnmolgaaGreatDoor
