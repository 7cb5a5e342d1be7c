/- ModelHolds: descriptors counted. -/
import Derived.Test.YtpcnolkdnmolgaaGreatDoorPf17
import Derived.Test.YtpcnolkdnmolgaaGreatDoorPf28
namespace Go.Proofs.YtpcnolkdnmolgaaGreatDoor
section
open Go.RowKit Go.Maps
def openL (T : Nat → Int) (p : Nat) : List Int := ((List.range p).map T).filter fun x => decide (x ≠ 0)
theorem openL_succ (T : Nat → Int) (p : Nat) : openL T (p + 1) = if T p = 0 then openL T p else openL T p ++ [T p] := by
 unfold openL
 rw [List.range_succ, List.map_append, List.filter_append]
 by_cases h : T p = 0 <;> simp [h]
theorem openL_count (T : Nat → Int) {v : Int} (hv : v ≠ 0) : ∀ p, (((openL T p).count v : Nat) : Int) = cntTo T v p
 | 0 => rfl
 | p + 1 => by
  rw [openL_succ]
  show _ = cntTo T v p + if T p = v then 1 else 0
  have ih := openL_count T hv p
  by_cases h : T p = 0
  · rw [if_pos h, if_neg (by rw [h]; exact fun e => hv e.symm), ih]
    omega
  · rw [if_neg h, List.count_append]
    by_cases h2 : T p = v
    · rw [if_pos h2, h2]
      simp
      omega
    · have hz : List.count v [T p] = 0 := List.count_eq_zero.2 (by simpa using fun e : v = T p => h2 e.symm)
      rw [if_neg h2, hz]
      omega
theorem openL_len (T : Nat → Int) : ∀ p, (openL T p).length ≤ p
 | 0 => Nat.le_refl _
 | p + 1 => by
  rw [openL_succ]
  have := openL_len T p
  split
  · omega
  · simp; omega
theorem cntTo_tail {T : Nat → Int} {i : Int} (hi : i ≠ 0) {a : Nat} : ∀ {b : Nat}, a ≤ b → (∀ k, a ≤ k → k < b → T k = 0) → cntTo T i b = cntTo T i a
 | 0, h, _ => by rw [Nat.le_zero.1 h]
 | b + 1, h, hz => by
  by_cases e : a = b + 1
  · rw [e]
  · show cntTo T i b + _ = _
    rw [cntTo_tail hi (by omega) (fun k h1 h2 => hz k h1 (by omega)), if_neg (by rw [hz b (by omega) (by omega)]; exact fun e => hi e.symm)]
    omega
theorem held_count {t : PT} {T : Nat → Int} {n : Int} (h : HoldOk t T n) {v : Int} (hv : v ≠ 0) {q : Nat} (hq : (q : Int) = n * 16) : heldR t v = ((openL T q).count v : Nat) := by
 rw [openL_count T hv q, h.held v hv]
 have := h.cores
 exact cntTo_tail hv (by omega) fun k h1 _ => h.out k (by omega)
theorem open_u32 {t : PT} {T : Nat → Int} {n : Int} (h : HoldOk t T n) {k : Nat} (hk : k < 128) (h0 : T k ≠ 0) : U32 (T k) := by
 have h1 : 0 < cntTo T (T k) 128 := by
  rw [← openL_count T h0 128]
  have : T k ∈ openL T 128 := by
   unfold openL
   exact List.mem_filter.2 ⟨List.mem_map.2 ⟨k, by simpa using hk, rfl⟩, by simpa using h0⟩
  have := List.count_pos_iff.2 this
  omega
 rw [← h.held _ h0] at h1
 unfold heldR at h1
 split at h1
 · rename_i x hx
   have := h.well.range _ x hx
   have := h.well.room
   unfold U32
   omega
 · omega
structure CntAt (w W : World) (Mb N : Nat) (l : List Int) : Prop where
 map : MapAt W Tryz.prog 29 Mb N (cntM l)
 below : Below w.heap.size w W
 lt : w.heap.size ≤ Mb
 len : l.length ≤ N
section
variable {w W W' : World} {Mb N : Nat} {l : List Int}
theorem CntAt.made (w : World) : CntAt w (w.alloc (.map #[] 0)) w.heap.size 0 [] :=
 ⟨(MapAt.made w _ _).congr fun kl _ => by cases kl with | int q a => cases q <;> rfl | _ => rfl, u_alloc1 w _, Nat.le_refl _, Nat.le_refl _⟩
theorem CntAt.later (h : CntAt w W Mb N l) (hb : Below W.heap.size W W') : CntAt w W' Mb N l := ⟨h.map.below hb, ptrans h.below hb, h.lt, h.len⟩
theorem CntAt.look (h : CntAt w W Mb N l) {v : Int} (hv : U32 v) : (Instr.lookup 46 (.map (some Mb)) (.int .u32 v) false).run Tryz.prog W = .ok (.int .i64 ((l.count v : Nat) : Int)) W := by
 have := h.map.look law32 Tryz.underlying46 (zeroCnt W) (pkey32 hv)
 rw [cntM_get] at this
 exact this
theorem CntAt.count (h : CntAt w W Mb N l) {v : Int} (hv : U32 v) (hN : N < 1000000000) :
  ∃ W', (Instr.mapUpdate 46 (.map (some Mb)) (.int .u32 v) (.int .i64 (((l.count v : Nat) : Int) + 1))).run Tryz.prog W = .ok () W' ∧ CntAt w W' Mb (N + 1) (l ++ [v]) := by
 obtain ⟨W', h1, h2, h3⟩ := h.map.update law32 Tryz.underlying46 (by unfold maxLen; omega) (val := .int .i64 (((l.count v : Nat) : Int) + 1)) (pkey32 hv)
 refine ⟨W', h1, h2.congr (cntM_snoc l v), ?_, h.lt, by have := h.len; simp; omega⟩
 have hg := h3.grown
 refine ⟨hg.os.trans h.below.os, hg.tape.trans h.below.tape, hg.output.trans h.below.output, Nat.le_trans h.below.size hg.size, fun c hc2 => ?_⟩
 refine (hg.block c (Nat.lt_of_lt_of_le hc2 h.below.size) fun e => ?_).trans (h.below.block c hc2)
 have := h.lt
 injection e with e
 omega
end
def ChangesP (a : Nat) (w : World) (e : Ending) (w' : World) : Prop := (∃ b : Bool, e = .returned (.bool b) ∧ (b = false → a ≠ 2 ∧ a ≠ 4 ∧ a ≠ 5 ∧ ¬ (6 ≤ a ∧ a ≤ 10))) ∧ w = w'
theorem ChangesP.yes {a : Nat} {w : World} : ChangesP a w (.returned (.bool true)) w := ⟨⟨true, rfl, fun h => by cases h⟩, rfl⟩
theorem ChangesP.no {a : Nat} {w : World} (h : a ≠ 2 ∧ a ≠ 4 ∧ a ≠ 5 ∧ ¬ (6 ≤ a ∧ a ≤ 10)) : ChangesP a w (.returned (.bool false)) w := ⟨⟨false, rfl, fun _ => h⟩, rfl⟩
theorem ne_b {a : Nat} {k : Int} (h : ¬ (a : Int) = k) : ((a : Int) == k) = false := by simpa using h
set_option maxRecDepth 100000 in
theorem t_changes20 (a : Nat) (w : World) : Calls Tryz.prog 19 #[.int .u8 a] w (ChangesP a w) := by
 by_cases h2 : a = 2
 · subst h2
   go_enter Tryz.func19, Tryz.ntmps19
   go_wp2
   go_ret
   exact ChangesP.yes
 · by_cases h4 : a = 4
   · subst h4
     go_enter Tryz.func19, Tryz.ntmps19
     go_wp2
     go_ret
     exact ChangesP.yes
   · by_cases h5 : a = 5
     · subst h5
       go_enter Tryz.func19, Tryz.ntmps19
       go_wp2
       go_ret
       exact ChangesP.yes
     · have i2 := ne_b (a := a) (k := 2) (by omega)
       have i4 := ne_b (a := a) (k := 4) (by omega)
       have i5 := ne_b (a := a) (k := 5) (by omega)
       by_cases h6 : 6 ≤ a
       · have i6 : (6 : Int) ≤ a := by omega
         by_cases h10 : a ≤ 10
         · have i10 : (a : Int) ≤ 10 := by omega
           go_enter Tryz.func19, Tryz.ntmps19
           go_wp2
           go_ret
           exact ChangesP.yes
         · have i10 : ¬ (a : Int) ≤ 10 := by omega
           go_enter Tryz.func19, Tryz.ntmps19
           go_wp2
           go_ret
           exact ChangesP.no ⟨h2, h4, h5, by omega⟩
       · have i6 : ¬ (6 : Int) ≤ a := by omega
         go_enter Tryz.func19, Tryz.ntmps19
         go_wp2
         go_ret
         exact ChangesP.no ⟨h2, h4, h5, by omega⟩
end

section
open Go.RowKit Go.Maps
theorem do_stat4 (m : MD) (core : Int) (x : Cx) : ∃ a b d e : Int, statCells (doM m core x).1.stat = [.int .u32 a, .int .u8 b, .int .i64 d, .int .u32 e] := by
 unfold doM
 split
 · exact ⟨0, 0, 0, 0, rfl⟩
 split
 · exact ⟨0, 0, 0, 0, rfl⟩
 exact deed_stat4 _ _
theorem list_cells {t : PT} {lo : Nat} {w : World} {ls : Option Int} {lv : Value} (h : ListV t lo w ls lv) : ∃ A n c, lv = .slice A n c := by
 unfold ListV at h
 split at h
 · exact ⟨none, 0, 0, h⟩
 · obtain ⟨A, c, L, h1, _⟩ := h
   exact ⟨A, L.length, c, h1⟩
theorem res_cells {t : PT} {lo : Nat} {w : World} {r : Rs} {v : Value} (h : ResV t lo w r v) (hs : ∃ a b d e : Int, statCells r.stat = [.int .u32 a, .int .u8 b, .int .i64 d, .int .u32 e]) : ∃ (a b c d : Int) (A : Option Addr) (n k : Nat) (dt : ByteArray), v = .agg #[.int .i64 r.err, .int .i64 r.fd, .int .u32 r.ino, .int .u32 a, .int .u8 b, .int .i64 c, .int .u32 d, .slice A n k, .string dt] := by
 obtain ⟨lv, rfl, hl⟩ := h
 obtain ⟨A, n, k, rfl⟩ := list_cells hl
 obtain ⟨a, b, d, e, hs⟩ := hs
 refine ⟨a, b, d, e, A, n, k, r.data, ?_⟩
 unfold resCells
 rw [hs]
 rfl
theorem pair_do_c {B N : Nat} {w1 w : World} {P Pt Pf P2 Pt2 Pf2 : Nat} {m m2 m' : MD} {L : List (Nat × Obj)} {x : Cx} {core er fd io : Int} (hx : x.Fits) (hk : KindsAt w1) (hB0 : 0 < B) (hN : N ≤ 50000) (h : MPair B w1 P Pt Pf P2 Pt2 Pf2 N m m2 L w) (h1 : (doM m core x).1.err = er) (h2 : (doM m core x).1.fd = fd) (h3 : (doM m core x).1.ino = io) (h4 : (doM m core x).2 = m') :
  Calls Tryz.prog 12 #[.pointer (some ⟨P, 0, none⟩), .int .i64 core, callV x] w fun e w' => (∃ (a b c d : Int) (lA : Option Addr) (ln lc : Nat) (dt : ByteArray), e = .returned (.agg #[.int .i64 er, .int .i64 fd, .int .u32 io, .int .u32 a, .int .u8 b, .int .i64 c, .int .u32 d, .slice lA ln lc, .string dt])) ∧ MPair B w1 P Pt Pf P2 Pt2 Pf2 (N + 2) m' m2 L w' := by
 subst h1 h2 h3 h4
 refine (pair_do x hx core h hk hB0 hN).mono fun e w' ⟨⟨v, he, hv⟩, hp⟩ => ⟨?_, hp⟩
 obtain ⟨a, b, c, d, lA, ln, lc, dt, rfl⟩ := res_cells hv (do_stat4 _ _ _)
 exact ⟨a, b, c, d, lA, ln, lc, dt, he⟩
def BkAt (w : World) (P Pt Pf : Nat) (k : Nat) (W : World) : Prop := ∃ m, MOwn w.heap.size w P Pt Pf (1 + 2 * k) m [] W ∧ m.n = 2
theorem BkAt.mem {w W : World} {P Pt Pf k : Nat} (h : BkAt w P Pt Pf k W) : Below w.heap.size w W := by
 obtain ⟨m, hm, _⟩ := h
 exact hm.mem
theorem BkAt.below {w W W' : World} {P Pt Pf k : Nat} (h : BkAt w P Pt Pf k W) (hb : Below W.heap.size W W') : BkAt w P Pt Pf k W' := by
 obtain ⟨m, hm, h2⟩ := h
 exact ⟨m, hm.below hb, h2⟩
def BkSt (w : World) (P Pt Pf k : Nat) (m : MD) (j : Nat) (W : World) : Prop := if j = 0 then MOwn w.heap.size w P Pt Pf (1 + 2 * k) m [] W else BkAt w P Pt Pf (k + 1) W
theorem BkSt.below {w W W' : World} {P Pt Pf k j : Nat} {m : MD} (h : BkSt w P Pt Pf k m j W) (hb : Below W.heap.size W W') : BkSt w P Pt Pf k m j W' := by
 unfold BkSt at h ⊢
 by_cases hj : j = 0
 · rw [if_pos hj] at h ⊢
   exact MOwn.below h hb
 · rw [if_neg hj] at h ⊢
   exact BkAt.below h hb
theorem BkSt.mem {w W : World} {P Pt Pf k j : Nat} {m : MD} (h : BkSt w P Pt Pf k m j W) : Below w.heap.size w W := by
 unfold BkSt at h
 split at h
 · exact MOwn.mem h
 · exact BkAt.mem h
theorem box_cells {w : World} {R : Nat} {er fd io : Int} {x3 x4 x5 x6 x7 x8 : Value} (h : w.heap[R]? = some (.cells #[.int .i64 er, .int .i64 fd, .int .u32 io, x3, x4, x5, x6, x7, x8] 39 (0, 0))) : w.cell? ⟨R, 0, none⟩ = some (.int .i64 er) ∧ w.cell? ⟨R, 1, none⟩ = some (.int .i64 fd) ∧ w.cell? ⟨R, 2, none⟩ = some (.int .u32 io) := by
 simp [World.cell?, h]
theorem fits_s {act : Nat} {s : ByteArray} (ha : act ≤ 255) (hs : s.size ≤ maxLen) : (callP act s).Fits := fitsC act rfl ha hs (by decide) (by decide) (by decide)
theorem fits_w {fd : Int} {d : ByteArray} (hs : d.size ≤ maxLen) : (writeC fd d).Fits := fitsC 4 rfl (by decide) (by decide) (by decide) hs (by decide)
theorem fits_c {fd : Int} : (closeC fd).Fits := fitsC 13 rfl (by decide) (by decide) (by decide) (by decide) (by decide)
set_option maxRecDepth 100000 in
set_option maxHeartbeats 8000000 in
theorem t_modelBack (A : Option Addr) (n c : Nat) (l : List (Int × Cx)) (s data : ByteArray) (w : World) (hl : S21At w A l) (hn : l.length = n) (hn2 : n ≤ maxLen) (hs : s.size ≤ maxLen) (hd : data.size ≤ maxLen) (hf : ∀ s ∈ l, Cx.Fits s.2) (hk : KindsAt w) :
  Calls Tryz.prog 5 #[.slice A n c, .string s, .string data] w fun e w' => e = .returned (.bool true) ∧ Below w.heap.size w w' := by
 have HL := zz hl
 have HN := zz hn
 have HF := zz hf
 have HKW := zz hk
 have HLG := zz (t_long21 A n c l w hl hn hn2)
 have HB0 := zz hk.pos
 have HS := zz hs
 have HD := zz hd
 have HAL := zz (show ∀ W, Below w.heap.size w W → Calls Tryz.prog 9 #[] W fun e w' => e = .returned (.bool true) ∧ Below W.heap.size W w' from fun W hb => t_alive21 W (hk.below hb hk.pos))
 clear hl hn hn2 hf hk hs hd
 by_cases hsl : (1024 : Int) < s.size ∨ (64 : Int) < data.size
 · rcases hsl with h1 | h1
   · go_enter Tryz.func5, Tryz.ntmps5
     go_wp2_with (first
      | (go_at_call 8; (with_reducible refine HLG.out.mono ?_); rintro e w1 hlg
         obtain ⟨bb, rfl, hb1, hB1⟩ := hlg.get
         have H1 := zz hB1
         clear hlg hb1 hB1
         cases bb)
      | (go_at_call 9; (with_reducible refine (HAL.out _ H1.out).mono ?_); rintro e w9 ⟨rfl, hb9⟩))
     all_goals
      go_ret
      exact ⟨rfl, ptrans H1.out hb9⟩
   · by_cases h2 : (1024 : Int) < s.size
     all_goals
      go_enter Tryz.func5, Tryz.ntmps5
      go_wp2_with (first
       | (go_at_call 8; (with_reducible refine HLG.out.mono ?_); rintro e w1 hlg
          obtain ⟨bb, rfl, hb1, hB1⟩ := hlg.get
          have H1 := zz hB1
          clear hlg hb1 hB1
          cases bb)
       | (go_at_call 9; (with_reducible refine (HAL.out _ H1.out).mono ?_); rintro e w9 ⟨rfl, hb9⟩))
      all_goals
       go_ret
       exact ⟨rfl, ptrans H1.out hb9⟩
 · have hs1 : ¬ (1024 : Int) < s.size := fun e => hsl (.inl e)
   have hd1 : ¬ (64 : Int) < data.size := fun e => hsl (.inr e)
   clear hsl
   go_enter Tryz.func5, Tryz.ntmps5
   go_wp2_with (first
    | (go_at_call 8; (with_reducible refine HLG.out.mono ?_); rintro e w1 hlg
       obtain ⟨bb, rfl, hb1, hB1⟩ := hlg.get
       have H1 := zz hB1
       have HB1 := zz hb1
       clear hlg hb1 hB1
       cases bb)
    | (go_at_call 9; (with_reducible refine (HAL.out _ H1.out).mono ?_); rintro e w9 ⟨rfl, hb9⟩)
    | (go_at_call 10; (with_reducible refine (t_newM 12 2 _ (by decide) (by decide) (by decide) (by decide)).mono ?_); rintro e w2 ⟨P, Pt, Pf, rfl, y, F, hM, hO, hF2, hs, hB⟩
       have HA0 : Hid (BkAt w P Pt Pf 0 w2) := ⟨_, ⟨y, F, hM, hO, fun b h => Nat.le_trans H1.out.size (hF2 b h), Nat.le_trans H1.out.size hs, ptrans H1.out hB, KeptL.nil⟩, rfl⟩
       clear hM hO hF2 hs hB))
   · go_loopw [9] (fun v wr => ∃ i : Nat, v = .int .i64 (i : Int) ∧ i ≤ n ∧ Hid (BkAt w P Pt Pf i wr)) (fun v _ => n - (intOf v).toNat)
     case atStart => exact ⟨0, rfl, Nat.zero_le _, HA0.out⟩
     case round =>
      clear HA0
      obtain ⟨k, rfl, hk, HA⟩ := hrel
      by_cases he : k = n
      · subst he
        obtain ⟨m, hm, hm2⟩ := HA.out
        have h120 : k ≤ 120 := HB1.out trivial
        have HCP := zz (show Calls Tryz.prog 11 #[.pointer (some ⟨P, 0, none⟩)] wr fun e w' => ∃ P2 Pt2 Pf2, e = .returned (.pointer (some ⟨P2, 0, none⟩)) ∧ MPair w.heap.size w P Pt Pf P2 Pt2 Pf2 (1 + 2 * k) m m [] w' from own_copyM hm (by omega))
        have hfl := res_field0
        have HN2 := zz hm2
        by_cases ha : (doM m 0 (callP 2 s)).1.err = 0
        · obtain ⟨hia, -, -, hrest⟩ := back_file hm.ok (core := 0) (by omega) (by rw [hm2]; decide) s data ha
          obtain ⟨h7, h13, hback⟩ := hrest _ rfl
          have hb9 := dir_too hm.ok (core := 0) (core2 := 1) (by omega) (by rw [hm2]; decide) (by omega) (by rw [hm2]; decide) s ha
          obtain ⟨hib, h10, hback2⟩ := back_dir hm.ok (core := 1) (by omega) (by rw [hm2]; decide) s hb9
          obtain ⟨fda, hfda⟩ : ∃ x, (doM m 0 (callP 2 s)).1.fd = x := ⟨_, rfl⟩
          obtain ⟨fdb, hfdb⟩ : ∃ x, (doM m 1 (callP 9 s)).1.fd = x := ⟨_, rfl⟩
          obtain ⟨io, hio⟩ : ∃ x, leastI m.t = x := ⟨_, rfl⟩
          rw [hio] at hia hib
          obtain ⟨m1, e1⟩ : ∃ x, (doM m 0 (callP 2 s)).2 = x := ⟨_, rfl⟩
          rw [hfda, e1] at h7 h13 hback
          obtain ⟨m2, e2⟩ : ∃ x, (doM m1 0 (writeC fda data)).2 = x := ⟨_, rfl⟩
          rw [e2] at h7 h13 hback
          obtain ⟨m3, e3⟩ : ∃ x, (doM m2 0 (callP 7 s)).2 = x := ⟨_, rfl⟩
          rw [e3] at h13 hback
          obtain ⟨mb, e5⟩ : ∃ x, (doM m 1 (callP 9 s)).2 = x := ⟨_, rfl⟩
          rw [e5] at h10 hback2
          have HD1 := zz (show ∀ W P2 Pt2 Pf2 L, MPair w.heap.size w P Pt Pf P2 Pt2 Pf2 (1 + 2 * k) m m L W → Calls Tryz.prog 12 #[.pointer (some ⟨P, 0, none⟩), .int .i64 0, .agg #[.int .u8 2, .string s, .string ⟨#[]⟩, .int .i64 0, .int .i64 0, .int .u32 0, .string ⟨#[]⟩]] W fun e w' => (∃ (a b c d : Int) (lA : Option Addr) (ln lc : Nat) (dt : ByteArray), e = .returned (.agg #[.int .i64 0, .int .i64 fda, .int .u32 io, .int .u32 a, .int .u8 b, .int .i64 c, .int .u32 d, .slice lA ln lc, .string dt])) ∧ MPair w.heap.size w P Pt Pf P2 Pt2 Pf2 (1 + 2 * k + 2) m1 m L w' from fun W P2 Pt2 Pf2 L h => pair_do_c (x := callP 2 s) (core := 0) (fits_s (by decide) HS.out) HKW.out HB0.out (by omega) h ha hfda hia e1)
          have HD2 := zz (show ∀ W P2 Pt2 Pf2 L, MPair w.heap.size w P Pt Pf P2 Pt2 Pf2 (1 + 2 * k + 2) m1 m L W → Calls Tryz.prog 12 #[.pointer (some ⟨P, 0, none⟩), .int .i64 0, .agg #[.int .u8 4, .string ⟨#[]⟩, .string ⟨#[]⟩, .int .i64 fda, .int .i64 0, .int .u32 0, .string data]] W fun e w' => (∃ v, e = .returned v) ∧ MPair w.heap.size w P Pt Pf P2 Pt2 Pf2 (1 + 2 * k + 4) m2 m L w' from fun W P2 Pt2 Pf2 L h => (pair_do (writeC fda data) (fits_w HD.out) 0 h HKW.out HB0.out (by omega)).mono fun _ _ ⟨⟨v, h1, _⟩, h2⟩ => ⟨⟨v, h1⟩, by rw [e2] at h2; exact h2⟩)
          have HD3 := zz (show ∀ W P2 Pt2 Pf2 L, MPair w.heap.size w P Pt Pf P2 Pt2 Pf2 (1 + 2 * k + 4) m2 m L W → Calls Tryz.prog 12 #[.pointer (some ⟨P, 0, none⟩), .int .i64 0, .agg #[.int .u8 7, .string s, .string ⟨#[]⟩, .int .i64 0, .int .i64 0, .int .u32 0, .string ⟨#[]⟩]] W fun e w' => (∃ (f i a b c d : Int) (lA : Option Addr) (ln lc : Nat) (dt : ByteArray), e = .returned (.agg #[.int .i64 0, .int .i64 f, .int .u32 i, .int .u32 a, .int .u8 b, .int .i64 c, .int .u32 d, .slice lA ln lc, .string dt])) ∧ MPair w.heap.size w P Pt Pf P2 Pt2 Pf2 (1 + 2 * k + 6) m3 m L w' from fun W P2 Pt2 Pf2 L h => (pair_do_c (x := callP 7 s) (core := 0) (fits_s (by decide) HS.out) HKW.out HB0.out (by omega) h h7 rfl rfl e3).mono fun _ _ ⟨⟨a, b, c, d, lA, ln, lc, dt, h1⟩, h2⟩ => ⟨⟨_, _, a, b, c, d, lA, ln, lc, dt, h1⟩, h2⟩)
          have HD4 := zz (show ∀ W P2 Pt2 Pf2 L, MPair w.heap.size w P Pt Pf P2 Pt2 Pf2 (1 + 2 * k + 6) m3 m L W → Calls Tryz.prog 12 #[.pointer (some ⟨P, 0, none⟩), .int .i64 0, .agg #[.int .u8 13, .string ⟨#[]⟩, .string ⟨#[]⟩, .int .i64 fda, .int .i64 0, .int .u32 0, .string ⟨#[]⟩]] W fun e w' => (∃ (f i a b c d : Int) (lA : Option Addr) (ln lc : Nat) (dt : ByteArray), e = .returned (.agg #[.int .i64 0, .int .i64 f, .int .u32 i, .int .u32 a, .int .u8 b, .int .i64 c, .int .u32 d, .slice lA ln lc, .string dt])) ∧ MPair w.heap.size w P Pt Pf P2 Pt2 Pf2 (1 + 2 * k + 8) m m L w' from fun W P2 Pt2 Pf2 L h => (pair_do_c (x := closeC fda) (core := 0) (fits_c) HKW.out HB0.out (by omega) h h13 rfl rfl hback).mono fun _ _ ⟨⟨a, b, c, d, lA, ln, lc, dt, h1⟩, h2⟩ => ⟨⟨_, _, a, b, c, d, lA, ln, lc, dt, h1⟩, h2⟩)
          have HD5 := zz (show ∀ W P2 Pt2 Pf2 L, MPair w.heap.size w P Pt Pf P2 Pt2 Pf2 (1 + 2 * k + 8) m m L W → Calls Tryz.prog 12 #[.pointer (some ⟨P, 0, none⟩), .int .i64 1, .agg #[.int .u8 9, .string s, .string ⟨#[]⟩, .int .i64 0, .int .i64 0, .int .u32 0, .string ⟨#[]⟩]] W fun e w' => (∃ (a b c d : Int) (lA : Option Addr) (ln lc : Nat) (dt : ByteArray), e = .returned (.agg #[.int .i64 0, .int .i64 fdb, .int .u32 io, .int .u32 a, .int .u8 b, .int .i64 c, .int .u32 d, .slice lA ln lc, .string dt])) ∧ MPair w.heap.size w P Pt Pf P2 Pt2 Pf2 (1 + 2 * k + 10) mb m L w' from fun W P2 Pt2 Pf2 L h => pair_do_c (x := callP 9 s) (core := 1) (fits_s (by decide) HS.out) HKW.out HB0.out (by omega) h hb9 hfdb hib e5)
          have HD6 := zz (show ∀ W P2 Pt2 Pf2 L, MPair w.heap.size w P Pt Pf P2 Pt2 Pf2 (1 + 2 * k + 10) mb m L W → Calls Tryz.prog 12 #[.pointer (some ⟨P, 0, none⟩), .int .i64 1, .agg #[.int .u8 10, .string s, .string ⟨#[]⟩, .int .i64 0, .int .i64 0, .int .u32 0, .string ⟨#[]⟩]] W fun e w' => (∃ (f i a b c d : Int) (lA : Option Addr) (ln lc : Nat) (dt : ByteArray), e = .returned (.agg #[.int .i64 0, .int .i64 f, .int .u32 i, .int .u32 a, .int .u8 b, .int .i64 c, .int .u32 d, .slice lA ln lc, .string dt])) ∧ MPair w.heap.size w P Pt Pf P2 Pt2 Pf2 (1 + 2 * k + 12) m m L w' from fun W P2 Pt2 Pf2 L h => (pair_do_c (x := callP 10 s) (core := 1) (fits_s (by decide) HS.out) HKW.out HB0.out (by omega) h h10 rfl rfl hback2).mono fun _ _ ⟨⟨a, b, c, d, lA, ln, lc, dt, h1⟩, h2⟩ => ⟨⟨_, _, a, b, c, d, lA, ln, lc, dt, h1⟩, h2⟩)
          clear hia hib h7 h13 hback hb9 h10 hback2 hrest ha hfda hfdb hio e1 e2 e3 e5 hm hm2 HA
          go_wp2_with (first
           | (go_at_call 11; (with_reducible refine HCP.out.mono ?_); rintro e w3 ⟨P2, Pt2, Pf2, rfl, hT⟩; have H3 := zz hT; clear hT)
           | (go_at_call 12; (with_reducible refine (HD1.out _ _ _ _ _ H3.out).mono ?_); rintro e w4 ⟨⟨a1, b1, c1, d1, lA1, ln1, lc1, dt1, rfl⟩, hT⟩
              have H4 := zz (hT.alloc (.cells #[.int .i64 0, .int .i64 fda, .int .u32 io, .int .u32 a1, .int .u8 b1, .int .i64 c1, .int .u32 d1, .slice lA1 ln1 lc1, .string dt1] 39))
              obtain ⟨q10, q11, q12⟩ := box_cells (H4.out.at_ (b := w4.heap.size) (List.mem_cons_self ..))
              clear hT)
           | (go_at_call 12; (with_reducible refine (HD2.out _ _ _ _ _ H4.out).mono ?_); rintro e w5 ⟨⟨v5, rfl⟩, hT⟩
              have H5 := zz hT
              obtain ⟨q20, q21, q22⟩ := box_cells (H5.out.at_ (b := w4.heap.size) (List.mem_cons_self ..))
              clear hT)
           | (go_at_call 12; (with_reducible refine (HD3.out _ _ _ _ _ H5.out).mono ?_); rintro e w6 ⟨⟨f6, i6, a6, b6, c6, d6, lA6, ln6, lc6, dt6, rfl⟩, hT⟩
              have H6 := zz hT
              obtain ⟨q30, q31, q32⟩ := box_cells (H6.out.at_ (b := w4.heap.size) (List.mem_cons_self ..))
              clear hT)
           | (go_at_call 12; (with_reducible refine (HD4.out _ _ _ _ _ H6.out).mono ?_); rintro e w7 ⟨⟨f7, i7, a7, b7, c7, d7, lA7, ln7, lc7, dt7, rfl⟩, hT⟩
              have H7 := zz hT
              obtain ⟨q40, q41, q42⟩ := box_cells (H7.out.at_ (b := w4.heap.size) (List.mem_cons_self ..))
              clear hT)
           | (go_at_call 20; (with_reducible refine (t_alike21 _ H7.out (by omega) (by rw [HN2.out]; decide)).mono ?_); rintro e w8 ⟨rfl, hb⟩
              have H8 := zz (H7.out.below hb)
              obtain ⟨q50, q51, q52⟩ := box_cells (H8.out.at_ (b := w4.heap.size) (List.mem_cons_self ..))
              clear hb)
           | (go_at_call 12; (with_reducible refine (HD5.out _ _ _ _ _ H8.out).mono ?_); rintro e w9 ⟨⟨a5, b5, c5, d5, lA5, ln5, lc5, dt5, rfl⟩, hT⟩
              have H9 := zz (hT.alloc (.cells #[.int .i64 0, .int .i64 fdb, .int .u32 io, .int .u32 a5, .int .u8 b5, .int .i64 c5, .int .u32 d5, .slice lA5 ln5 lc5, .string dt5] 39))
              obtain ⟨q60, q61, q62⟩ := box_cells (H9.out.at_ (b := w4.heap.size) (List.mem_cons_of_mem _ (List.mem_cons_self ..)))
              obtain ⟨q70, q71, q72⟩ := box_cells (H9.out.at_ (b := w9.heap.size) (List.mem_cons_self ..))
              clear hT)
           | (go_at_call 12; (with_reducible refine (HD6.out _ _ _ _ _ H9.out).mono ?_); rintro e w10 ⟨⟨f8, i8, a8, b8, c8, d8, lA8, ln8, lc8, dt8, rfl⟩, hT⟩
              have H10 := zz hT
              obtain ⟨q80, q81, q82⟩ := box_cells (H10.out.at_ (b := w4.heap.size) (List.mem_cons_of_mem _ (List.mem_cons_self ..)))
              obtain ⟨q90, q91, q92⟩ := box_cells (H10.out.at_ (b := w9.heap.size) (List.mem_cons_self ..))
              clear hT)
           | (go_at_call 20; (with_reducible refine (t_alike21 _ H10.out (by omega) (by rw [HN2.out]; decide)).mono ?_); rintro e w11 ⟨rfl, hb⟩
              have H11 := zz (H10.out.below hb)
              clear hb)
           | (go_at_call 9; (with_reducible refine (HAL.out _ H11.out.mem).mono ?_); rintro e w12 ⟨rfl, hb12⟩))
          go_ret
          exact ⟨rfl, ptrans H11.out.mem hb12⟩
        · obtain ⟨era, hera⟩ : ∃ x, (doM m 0 (callP 2 s)).1.err = x := ⟨_, rfl⟩
          obtain ⟨fda, hfda⟩ : ∃ x, (doM m 0 (callP 2 s)).1.fd = x := ⟨_, rfl⟩
          obtain ⟨ioa, hioa⟩ : ∃ x, (doM m 0 (callP 2 s)).1.ino = x := ⟨_, rfl⟩
          have e1 := (deed_do hm.ok 0 (callP 2 s) (show (0 : Int) ≤ 0 by decide)).2.2 ha
          have hne : ¬ era = 0 := by rw [← hera]; exact ha
          have HD1 := zz (show ∀ W P2 Pt2 Pf2 L, MPair w.heap.size w P Pt Pf P2 Pt2 Pf2 (1 + 2 * k) m m L W → Calls Tryz.prog 12 #[.pointer (some ⟨P, 0, none⟩), .int .i64 0, .agg #[.int .u8 2, .string s, .string ⟨#[]⟩, .int .i64 0, .int .i64 0, .int .u32 0, .string ⟨#[]⟩]] W fun e w' => (∃ (a b c d : Int) (lA : Option Addr) (ln lc : Nat) (dt : ByteArray), e = .returned (.agg #[.int .i64 era, .int .i64 fda, .int .u32 ioa, .int .u32 a, .int .u8 b, .int .i64 c, .int .u32 d, .slice lA ln lc, .string dt])) ∧ MPair w.heap.size w P Pt Pf P2 Pt2 Pf2 (1 + 2 * k + 2) m m L w' from fun W P2 Pt2 Pf2 L h => pair_do_c (x := callP 2 s) (core := 0) (fits_s (by decide) HS.out) HKW.out HB0.out (by omega) h hera hfda hioa e1)
          by_cases hb9 : (doM m 1 (callP 9 s)).1.err = 0
          · obtain ⟨-, h10, hback2⟩ := back_dir hm.ok (core := 1) (by omega) (by rw [hm2]; decide) s hb9
            obtain ⟨fdb, hfdb⟩ : ∃ x, (doM m 1 (callP 9 s)).1.fd = x := ⟨_, rfl⟩
            obtain ⟨iob, hiob⟩ : ∃ x, (doM m 1 (callP 9 s)).1.ino = x := ⟨_, rfl⟩
            obtain ⟨mb, e5⟩ : ∃ x, (doM m 1 (callP 9 s)).2 = x := ⟨_, rfl⟩
            rw [e5] at h10 hback2
            have HD5 := zz (show ∀ W P2 Pt2 Pf2 L, MPair w.heap.size w P Pt Pf P2 Pt2 Pf2 (1 + 2 * k + 2) m m L W → Calls Tryz.prog 12 #[.pointer (some ⟨P, 0, none⟩), .int .i64 1, .agg #[.int .u8 9, .string s, .string ⟨#[]⟩, .int .i64 0, .int .i64 0, .int .u32 0, .string ⟨#[]⟩]] W fun e w' => (∃ (a b c d : Int) (lA : Option Addr) (ln lc : Nat) (dt : ByteArray), e = .returned (.agg #[.int .i64 0, .int .i64 fdb, .int .u32 iob, .int .u32 a, .int .u8 b, .int .i64 c, .int .u32 d, .slice lA ln lc, .string dt])) ∧ MPair w.heap.size w P Pt Pf P2 Pt2 Pf2 (1 + 2 * k + 4) mb m L w' from fun W P2 Pt2 Pf2 L h => pair_do_c (x := callP 9 s) (core := 1) (fits_s (by decide) HS.out) HKW.out HB0.out (by omega) h hb9 hfdb hiob e5)
            have HD6 := zz (show ∀ W P2 Pt2 Pf2 L, MPair w.heap.size w P Pt Pf P2 Pt2 Pf2 (1 + 2 * k + 4) mb m L W → Calls Tryz.prog 12 #[.pointer (some ⟨P, 0, none⟩), .int .i64 1, .agg #[.int .u8 10, .string s, .string ⟨#[]⟩, .int .i64 0, .int .i64 0, .int .u32 0, .string ⟨#[]⟩]] W fun e w' => (∃ (f i a b c d : Int) (lA : Option Addr) (ln lc : Nat) (dt : ByteArray), e = .returned (.agg #[.int .i64 0, .int .i64 f, .int .u32 i, .int .u32 a, .int .u8 b, .int .i64 c, .int .u32 d, .slice lA ln lc, .string dt])) ∧ MPair w.heap.size w P Pt Pf P2 Pt2 Pf2 (1 + 2 * k + 6) m m L w' from fun W P2 Pt2 Pf2 L h => (pair_do_c (x := callP 10 s) (core := 1) (fits_s (by decide) HS.out) HKW.out HB0.out (by omega) h h10 rfl rfl hback2).mono fun _ _ ⟨⟨a, b, c, d, lA, ln, lc, dt, h1⟩, h2⟩ => ⟨⟨_, _, a, b, c, d, lA, ln, lc, dt, h1⟩, h2⟩)
            clear ha hb9 h10 hback2 hera hfda hfdb hioa hiob e1 e5 hm hm2 HA
            go_wp2_with (first
             | (go_at_call 11; (with_reducible refine HCP.out.mono ?_); rintro e w3 ⟨P2, Pt2, Pf2, rfl, hT⟩; have H3 := zz hT; clear hT)
             | (go_at_call 12; (with_reducible refine (HD1.out _ _ _ _ _ H3.out).mono ?_); rintro e w4 ⟨⟨a1, b1, c1, d1, lA1, ln1, lc1, dt1, rfl⟩, hT⟩
                have H4 := zz (hT.alloc (.cells #[.int .i64 era, .int .i64 fda, .int .u32 ioa, .int .u32 a1, .int .u8 b1, .int .i64 c1, .int .u32 d1, .slice lA1 ln1 lc1, .string dt1] 39))
                obtain ⟨q10, q11, q12⟩ := box_cells (H4.out.at_ (b := w4.heap.size) (List.mem_cons_self ..))
                clear hT)
             | (go_at_call 20; (with_reducible refine (t_alike21 _ H4.out (by omega) (by rw [HN2.out]; decide)).mono ?_); rintro e w8 ⟨rfl, hb⟩
                have H8 := zz (H4.out.below hb)
                obtain ⟨q20, q21, q22⟩ := box_cells (H8.out.at_ (b := w4.heap.size) (List.mem_cons_self ..))
                clear hb)
             | (go_at_call 12; (with_reducible refine (HD5.out _ _ _ _ _ H8.out).mono ?_); rintro e w9 ⟨⟨a5, b5, c5, d5, lA5, ln5, lc5, dt5, rfl⟩, hT⟩
                have H9 := zz (hT.alloc (.cells #[.int .i64 0, .int .i64 fdb, .int .u32 iob, .int .u32 a5, .int .u8 b5, .int .i64 c5, .int .u32 d5, .slice lA5 ln5 lc5, .string dt5] 39))
                obtain ⟨q30, q31, q32⟩ := box_cells (H9.out.at_ (b := w4.heap.size) (List.mem_cons_of_mem _ (List.mem_cons_self ..)))
                obtain ⟨q40, q41, q42⟩ := box_cells (H9.out.at_ (b := w9.heap.size) (List.mem_cons_self ..))
                clear hT)
             | (go_at_call 12; (with_reducible refine (HD6.out _ _ _ _ _ H9.out).mono ?_); rintro e w10 ⟨⟨f8, i8, a8, b8, c8, d8, lA8, ln8, lc8, dt8, rfl⟩, hT⟩
                have H10 := zz hT
                obtain ⟨q50, q51, q52⟩ := box_cells (H10.out.at_ (b := w4.heap.size) (List.mem_cons_of_mem _ (List.mem_cons_self ..)))
                obtain ⟨q60, q61, q62⟩ := box_cells (H10.out.at_ (b := w9.heap.size) (List.mem_cons_self ..))
                clear hT)
             | (go_at_call 20; (with_reducible refine (t_alike21 _ H10.out (by omega) (by rw [HN2.out]; decide)).mono ?_); rintro e w11 ⟨rfl, hb⟩
                have H11 := zz (H10.out.below hb)
                clear hb)
             | (go_at_call 9; (with_reducible refine (HAL.out _ H11.out.mem).mono ?_); rintro e w12 ⟨rfl, hb12⟩))
            go_ret
            exact ⟨rfl, ptrans H11.out.mem hb12⟩
          · obtain ⟨erb, herb⟩ : ∃ x, (doM m 1 (callP 9 s)).1.err = x := ⟨_, rfl⟩
            obtain ⟨fdb, hfdb⟩ : ∃ x, (doM m 1 (callP 9 s)).1.fd = x := ⟨_, rfl⟩
            obtain ⟨iob, hiob⟩ : ∃ x, (doM m 1 (callP 9 s)).1.ino = x := ⟨_, rfl⟩
            have e5 := (deed_do hm.ok 1 (callP 9 s) (show (0 : Int) ≤ 0 by decide)).2.2 hb9
            have hne2 : ¬ erb = 0 := by rw [← herb]; exact hb9
            have HD5 := zz (show ∀ W P2 Pt2 Pf2 L, MPair w.heap.size w P Pt Pf P2 Pt2 Pf2 (1 + 2 * k + 2) m m L W → Calls Tryz.prog 12 #[.pointer (some ⟨P, 0, none⟩), .int .i64 1, .agg #[.int .u8 9, .string s, .string ⟨#[]⟩, .int .i64 0, .int .i64 0, .int .u32 0, .string ⟨#[]⟩]] W fun e w' => (∃ (a b c d : Int) (lA : Option Addr) (ln lc : Nat) (dt : ByteArray), e = .returned (.agg #[.int .i64 erb, .int .i64 fdb, .int .u32 iob, .int .u32 a, .int .u8 b, .int .i64 c, .int .u32 d, .slice lA ln lc, .string dt])) ∧ MPair w.heap.size w P Pt Pf P2 Pt2 Pf2 (1 + 2 * k + 4) m m L w' from fun W P2 Pt2 Pf2 L h => pair_do_c (x := callP 9 s) (core := 1) (fits_s (by decide) HS.out) HKW.out HB0.out (by omega) h herb hfdb hiob e5)
            clear ha hb9 hera hfda hfdb hioa herb hiob e1 e5 hm hm2 HA
            go_wp2_with (first
             | (go_at_call 11; (with_reducible refine HCP.out.mono ?_); rintro e w3 ⟨P2, Pt2, Pf2, rfl, hT⟩; have H3 := zz hT; clear hT)
             | (go_at_call 12; (with_reducible refine (HD1.out _ _ _ _ _ H3.out).mono ?_); rintro e w4 ⟨⟨a1, b1, c1, d1, lA1, ln1, lc1, dt1, rfl⟩, hT⟩
                have H4 := zz (hT.alloc (.cells #[.int .i64 era, .int .i64 fda, .int .u32 ioa, .int .u32 a1, .int .u8 b1, .int .i64 c1, .int .u32 d1, .slice lA1 ln1 lc1, .string dt1] 39))
                obtain ⟨q10, q11, q12⟩ := box_cells (H4.out.at_ (b := w4.heap.size) (List.mem_cons_self ..))
                clear hT)
             | (go_at_call 20; (with_reducible refine (t_alike21 _ H4.out (by omega) (by rw [HN2.out]; decide)).mono ?_); rintro e w8 ⟨rfl, hb⟩
                have H8 := zz (H4.out.below hb)
                obtain ⟨q20, q21, q22⟩ := box_cells (H8.out.at_ (b := w4.heap.size) (List.mem_cons_self ..))
                clear hb)
             | (go_at_call 12; (with_reducible refine (HD5.out _ _ _ _ _ H8.out).mono ?_); rintro e w9 ⟨⟨a5, b5, c5, d5, lA5, ln5, lc5, dt5, rfl⟩, hT⟩
                have H9 := zz (hT.alloc (.cells #[.int .i64 erb, .int .i64 fdb, .int .u32 iob, .int .u32 a5, .int .u8 b5, .int .i64 c5, .int .u32 d5, .slice lA5 ln5 lc5, .string dt5] 39))
                obtain ⟨q30, q31, q32⟩ := box_cells (H9.out.at_ (b := w4.heap.size) (List.mem_cons_of_mem _ (List.mem_cons_self ..)))
                obtain ⟨q40, q41, q42⟩ := box_cells (H9.out.at_ (b := w9.heap.size) (List.mem_cons_self ..))
                clear hT)
             | (go_at_call 20; (with_reducible refine (t_alike21 _ H9.out (by omega) (by rw [HN2.out]; decide)).mono ?_); rintro e w11 ⟨rfl, hb⟩
                have H11 := zz (H9.out.below hb)
                clear hb)
             | (go_at_call 9; (with_reducible refine (HAL.out _ H11.out.mem).mono ?_); rintro e w12 ⟨rfl, hb12⟩))
            go_ret
            exact ⟨rfl, ptrans H11.out.mem hb12⟩
      · have hkn : k < n := by omega
        have h120 : n ≤ 120 := HB1.out trivial
        obtain ⟨s', hs'⟩ := s21_get (l := l) (k := k) (by rw [HN.out]; exact hkn)
        have HX := zz (HF.out s' (List.mem_of_getElem? hs'))
        obtain ⟨core, act, p1, p2, fd, pg, sz, dt⟩ := s'
        have HXF : Hid (Cx.Fits ⟨act, p1, p2, fd, pg, sz, dt⟩) := HX
        obtain ⟨m, hm, hm2⟩ := HA.out
        obtain ⟨b, o, rfl, hc⟩ := HL.out.get hs'
        have HC := zz hc
        have HDO := zz (show ∀ W, BkSt w P Pt Pf k m 0 W → Calls Tryz.prog 12 #[.pointer (some ⟨P, 0, none⟩), .int .i64 core, .agg #[.int .u8 act, .string p1, .string p2, .int .i64 fd, .int .i64 pg, .int .u32 sz, .string dt]] W fun e w' => (∃ v, e = .returned v) ∧ BkSt w P Pt Pf k m 1 w' from fun W h => (own_do ⟨act, p1, p2, fd, pg, sz, dt⟩ HXF.out core (show MOwn w.heap.size w P Pt Pf (1 + 2 * k) m [] W from h) HKW.out HB0.out (by omega)).mono fun e w' ⟨⟨v, h1, _⟩, h2⟩ => ⟨⟨v, h1⟩, ⟨_, by rw [show 1 + 2 * (k + 1) = 1 + 2 * k + 2 by omega]; exact h2, (do_n hm.ok HXF.out).trans hm2⟩⟩)
        have HM0 : Hid (BkSt w P Pt Pf k m 0 wr) := hm
        clear hc hs' hm hm2 HA HX HXF
        go_wp2
        refine wp_region_st (fun j W => BkSt w P Pt Pf k m j W) RelB (fun _ _ => True) [11] (phi [isV (.pointer (some ⟨P, 0, none⟩)), isV (.slice (some ⟨b, o, none⟩) n c), isV (.int .i64 (k : Int)), isV (.pointer (some ⟨b, o + k * 10, none⟩)), isV (.pointer (some ⟨b, o + k * 10, none⟩)), isV (.int .i64 core), isV (.slice (some ⟨b, o, none⟩) n c), isV (.int .i64 (k : Int)), isV (.pointer (some ⟨b, o + k * 10, none⟩)), isV (.pointer (some ⟨b, o + k * 10 + 1, none⟩)), isV (.agg #[.int .u8 act, .string p1, .string p2, .int .i64 fd, .int .i64 pg, .int .u32 sz, .string dt]), (fun _ _ => True)]) (by kernel_rfl) (by kernel_rfl) (by kernel_rfl) (by kernel_rfl) (by kernel_rfl) (BkSt.below HM0.out (below_drew _)) (fun _ _ _ h hb => BkSt.below h hb) (fun _ _ _ => trivial) ?_ ?_ ?_
        · refine stays_phiR ?_
          simp only [List.forall_mem_cons]
          exact ⟨kv, kv, kv, kv, kv, kv, kv, kv, kv, kv, kv, fun _ _ _ _ _ => trivial, fun _ h => absurd h (by simp)⟩
        · refine ⟨?_, ?_, ?_, ?_, ?_, ?_, ?_, ?_, ?_, ?_, ?_, ?_, trivial⟩
          · refine opS_mk rfl rfl fun aa W2 nJ hJ hp hq K hK => ?_
            have e7 : aa.tmps[7]?.getD undef = .pointer (some ⟨P, 0, none⟩) := hp 7 (by kernel_rfl)
            clear hp hq
            go_simp
            exact hK _ _ (RelB.refl _) rfl
          · refine opS_mk rfl rfl fun aa W2 nJ hJ hp hq K hK => ?_
            have e0 : aa.tmps[0]?.getD undef = .slice (some ⟨b, o, none⟩) n c := hp 0 (by kernel_rfl)
            clear hp hq
            go_simp
            exact hK _ _ (RelB.refl _) rfl
          · refine opS_mk rfl rfl fun aa W2 nJ hJ hp hq K hK => ?_
            have e9 : aa.tmps[9]?.getD undef = .int .i64 (k : Int) := hp 9 (by kernel_rfl)
            clear hp hq
            go_simp
            exact hK _ _ (RelB.refl _) rfl
          · refine opS_mk rfl rfl fun aa W2 nJ hJ hp hq K hK => ?_
            have e43 : aa.tmps[43]?.getD undef = .slice (some ⟨b, o, none⟩) n c := hq 1 _ (by kernel_rfl) rfl
            have e44 : aa.tmps[44]?.getD undef = .int .i64 (k : Int) := hq 2 _ (by kernel_rfl) rfl
            clear hp hq
            go_simp
            exact hK _ _ (RelB.refl _) rfl
          · refine opS_mk rfl rfl fun aa W2 nJ hJ hp hq K hK => ?_
            have e45 : aa.tmps[45]?.getD undef = .pointer (some ⟨b, o + k * 10, none⟩) := hq 3 _ (by kernel_rfl) rfl
            clear hp hq
            go_simp
            exact hK _ _ (RelB.refl _) rfl
          · refine opS_mk rfl rfl fun aa W2 nJ hJ hp hq K hK => ?_
            have e46 : aa.tmps[46]?.getD undef = .pointer (some ⟨b, o + k * 10, none⟩) := hq 4 _ (by kernel_rfl) rfl
            obtain ⟨hb, g0, f0, f1, f2, f3, f4, f5, f6⟩ := HC.out W2 (BkSt.mem hJ)
            clear hp hq
            go_simp
            exact hK _ _ (RelB.refl _) rfl
          · refine opS_mk rfl rfl fun aa W2 nJ hJ hp hq K hK => ?_
            have e0 : aa.tmps[0]?.getD undef = .slice (some ⟨b, o, none⟩) n c := hp 0 (by kernel_rfl)
            clear hp hq
            go_simp
            exact hK _ _ (RelB.refl _) rfl
          · refine opS_mk rfl rfl fun aa W2 nJ hJ hp hq K hK => ?_
            have e9 : aa.tmps[9]?.getD undef = .int .i64 (k : Int) := hp 9 (by kernel_rfl)
            clear hp hq
            go_simp
            exact hK _ _ (RelB.refl _) rfl
          · refine opS_mk rfl rfl fun aa W2 nJ hJ hp hq K hK => ?_
            have e48 : aa.tmps[48]?.getD undef = .slice (some ⟨b, o, none⟩) n c := hq 6 _ (by kernel_rfl) rfl
            have e49 : aa.tmps[49]?.getD undef = .int .i64 (k : Int) := hq 7 _ (by kernel_rfl) rfl
            clear hp hq
            go_simp
            exact hK _ _ (RelB.refl _) rfl
          · refine opS_mk rfl rfl fun aa W2 nJ hJ hp hq K hK => ?_
            have e50 : aa.tmps[50]?.getD undef = .pointer (some ⟨b, o + k * 10, none⟩) := hq 8 _ (by kernel_rfl) rfl
            clear hp hq
            go_simp
            exact hK _ _ (RelB.refl _) rfl
          · refine opS_mk rfl rfl fun aa W2 nJ hJ hp hq K hK => ?_
            have e51 : aa.tmps[51]?.getD undef = .pointer (some ⟨b, o + k * 10 + 1, none⟩) := hq 9 _ (by kernel_rfl) rfl
            obtain ⟨hb, g0, f0, f1, f2, f3, f4, f5, f6⟩ := HC.out W2 (BkSt.mem hJ)
            clear hp hq
            go_simp
            exact hK _ _ (RelB.refl _) rfl
          · refine opS_at (m := 0) rfl rfl fun aa W2 hJ hp hq K hK => ?_
            have e42 : aa.tmps[42]?.getD undef = .pointer (some ⟨P, 0, none⟩) := hq 0 _ (by kernel_rfl) rfl
            have e47 : aa.tmps[47]?.getD undef = .int .i64 core := hq 5 _ (by kernel_rfl) rfl
            have e52 : aa.tmps[52]?.getD undef = .agg #[.int .u8 act, .string p1, .string p2, .int .i64 fd, .int .i64 pg, .int .u32 sz, .string dt] := hq 10 _ (by kernel_rfl) rfl
            have HJ := zz hJ
            clear hp hq
            go_simp
            go_at_call 12
            (with_reducible refine (HDO.out W2 HJ.out).mono ?_)
            rintro e w5 ⟨⟨vr, rfl⟩, hT⟩
            exact hK _ _ trivial hT trivial
        · intro vs W9 hJ9 hv9 _
          have HT4 : Hid (BkAt w P Pt Pf (k + 1) W9) := hJ9
          clear hJ9 hv9
          simp only [putAll, Act.put, List.setIfInBounds_toArray, List.set_cons_succ, List.set_cons_zero, Nat.zero_add, Nat.reduceAdd]
          go_wp2
          go_roundw
          case rel => exact ⟨k + 1, by go_num, hkn, HT4⟩
          case measure => simp [intOf]; omega
   · go_ret
     exact ⟨rfl, ptrans H1.out hb9⟩
end

section
open Go.RowKit Go.Maps
def RelR (W W' : World) : Prop := ∀ (b : Nat) (cs : Array Value), W.heap[b]? = some (Obj.cells cs 39 (0, 0)) → W'.heap[b]? = some (Obj.cells cs 39 (0, 0))
section
variable {B P Pt Pf P2 Pt2 Pf2 N b : Nat} {y : Lay} {F : Nat → Prop} {w1 w w' : World} {m m2 : MD} {L : List (Nat × Obj)} {cs : Array Value}
theorem RelR.of_below (h : Below w.heap.size w w') : RelR w w' := fun b _ hb => (h.block b (Array.getElem?_eq_some_iff.1 hb).1).trans hb
theorem ModM.tight (h : ModM w F P Pt Pf N y m) : ModM w (Ft Pt y m.t) P Pt Pf N y m := mod_of h.tree h.tab h.head
theorem ModM.notR (h : ModM w F P Pt Pf N y m) (hb : w.heap[b]? = some (.cells cs 39 (0, 0))) : ¬ Fm (Ft Pt y m.t) P Pf b := by
 rintro (h1 | rfl | rfl)
 · exact Ft.not h.tree hb (by decide) (by decide) h1
 · rw [h.head] at hb
   cases hb
 · obtain ⟨cs', h1, _⟩ := h.tab.ex
   rw [h1] at hb
   cases hb
theorem Fm.sub (h : ModM w F P Pt Pf N y m) : ∀ b, Fm (Ft Pt y m.t) P Pf b → Fm F P Pf b := by
 rintro b (h1 | h1)
 · exact .inl (Ft.sub h.tree b h1)
 · exact .inr h1
theorem pair_do_r (x : Cx) (hx : x.Fits) (core : Int) (h : MPair B w1 P Pt Pf P2 Pt2 Pf2 N m m2 [] w) (hk : KindsAt w1) (hB0 : 0 < B) (hN : N ≤ 50000) :
  Calls Tryz.prog 12 #[.pointer (some ⟨P, 0, none⟩), .int .i64 core, callV x] w fun e w' => (∃ v, e = .returned v ∧ ResV m.t w.heap.size w' (doM m core x).1 v) ∧ MPair B w1 P Pt Pf P2 Pt2 Pf2 (N + 2) (doM m core x).2 m2 [] w' ∧ RelR w w' := by
 obtain ⟨y, F0, y2, F2, hM0, hM2, hO, hO2, hF0, hF2, hd0, hs, hB, _⟩ := h
 have hM := hM0.tight
 have hF := fun b hb => hF0 b (Fm.sub hM0 b hb)
 have hd := fun b hb => hd0 b (Fm.sub hM0 b hb)
 obtain ⟨a, ha, ha2⟩ := hx.act
 refine (t_doM w hM hO core x a ha ha2 hx.path hx.path2 hx.data hx.size hN (hk.below hB hB0)).mono fun e w' ⟨v, he, hv, y', F', hM', hU⟩ => ⟨⟨v, he, hv⟩, ⟨y', F', y2, F2, hM', (hM2.same (fun b hb => hU.block b (hM2.lt b hb) (fun h1 => hd b h1 hb)) hU.size).mono (by omega), (deed_do hO core x hx.size).1, hO2, fun b hb => ?_, hF2, fun b hb hb2 => ?_, Nat.le_trans hs hU.size, hB.trans (hU.below hF hs), KeptL.nil⟩, fun b cs hb => (hU.block b (Array.getElem?_eq_some_iff.1 hb).1 (hM0.notR hb)).trans hb⟩
 · rcases hU.foot b hb with h1 | h1
   · exact hF b h1
   · exact Nat.le_trans hs h1
 · rcases hU.foot b hb with h1 | h1
   · exact hd b h1 hb2
   · have := hM2.lt b hb2
     omega
theorem MPair.put (h : MPair B w1 P Pt Pf P2 Pt2 Pf2 N m m2 [] w) {R : Nat} {o : Obj} (hR : w.heap[R]? = some (.cells cs 39 (0, 0))) (hBR : B ≤ R) (h1 : w'.heap[R]? = some o) (hb : ∀ b, b ≠ R → w'.heap[b]? = w.heap[b]?) (hs : w'.heap.size = w.heap.size) (ho : w'.os = w.os) (ht : w'.tape = w.tape) (hu : w'.output = w.output) : MPair B w1 P Pt Pf P2 Pt2 Pf2 N m m2 [(R, o)] w' := by
 obtain ⟨y, F, y2, F2, hM0, hM20, hO, hO2, hF0, hF20, hd0, hsz, hB, _⟩ := h
 have n1 := hM0.notR hR
 have n2 := hM20.notR hR
 have hM := hM0.tight.same (w' := w') (fun b hf => hb b (fun e => n1 (e ▸ hf))) (Nat.le_of_eq hs.symm)
 have hM2 := hM20.tight.same (w' := w') (fun b hf => hb b (fun e => n2 (e ▸ hf))) (Nat.le_of_eq hs.symm)
 refine ⟨y, _, y2, _, hM, hM2, hO, hO2, fun b hf => hF0 b (Fm.sub hM0 b hf), fun b hf => hF20 b (Fm.sub hM20 b hf), fun b hf hf2 => hd0 b (Fm.sub hM0 b hf) (Fm.sub hM20 b hf2), hs ▸ hsz, ?_, fun p hp => ?_⟩
 · exact ⟨ho.trans hB.os, ht.trans hB.tape, hu.trans hB.output, hs ▸ hB.size, fun c hc => (hb c (by omega)).trans (hB.block c hc)⟩
 · obtain rfl := List.mem_singleton.1 hp
   exact ⟨h1, n1⟩
end
end
end Go.Proofs.YtpcnolkdnmolgaaGreatDoor
