/- law31.alive, plain: three histories. -/
import Derived.Test.YtpcnolkdnmolgaaGreatDoorPh20
import Derived.Test.YtpcnolkdnmolgaaGreatDoorPh23
import Derived.Test.YtpcnolkdnmolgaaGreatDoorPh28
import Derived.Great.BuildSlice
namespace Go.Proofs.YtpcnolkdnmolgaaGreatDoor
section
open Go.RowKit Go.Maps
def ev1 : Ev := { zEv with kind := 1, x := callP 2 sla }
def ev2 : Ev := { zEv with kind := 2 }
def ev3 (ino : Int) : Ev := { zEv with kind := 3, ino := ino }
def some31 (ino : Int) : List Ev := [ev1, ev2, ev3 ino]
def g1 : Go31 := ⟨callP 2 sla, false, zRp⟩
theorem step_b (l : List Ev) (i : Nat) : step31 1 l i (newR 8 1) ev1 = (0, (newR 8 1).put 0 (some g1)) := by
 unfold step31
 rw [if_neg (by decide), if_pos (show ev1.kind = 1 from rfl)]
 unfold begin31
 rw [if_neg]
 · rfl
 · rintro (h | h)
   · exact absurd h (by decide)
   · exact h check_ca
theorem ref_no (ino : Int) : refusedB (some31 ino) 1 0 2 = false := by
 unfold refusedB
 rw [show endOf (some31 ino) 1 0 = some (ev3 ino) from rfl]
 have : decide ((ev3 ino).rp = logRp) = false := by
  rw [decide_eq_false_iff_not]
  intro h
  have h2 : (0 : Int) = 270 := congrArg Rp.err h
  omega
 show (decide ((ev3 ino).rp = logRp) && _) = false
 rw [this]
 rfl
theorem step_c (ino : Int) : ∃ m1, step31 1 (some31 ino) 1 ((newR 8 1).put 0 (some g1)) ev2 = (0, (R31.mk m1 ((newR 8 1).put 0 (some g1)).c).put 0 (some ⟨callP 2 sla, true, (ev3 2).rp⟩)) := by
 obtain ⟨xd, y, t2, _, _, h3⟩ := new_create (r := 8) (n := 1) (by decide) (by decide) (by decide) (by decide) (core := 0) (by decide) (by decide) split_a names_a check_ca
 refine ⟨⟨t2, updT (fun _ => 0) ((0 : Int).toNat * 16) 2, 1⟩, ?_⟩
 unfold step31
 rw [if_neg (by decide), if_neg (by decide), if_pos (show ev2.kind = 2 from rfl)]
 unfold commit31
 rw [show ((newR 8 1).put 0 (some g1)).c ev2.core = some g1 from rfl]
 dsimp only
 rw [if_neg (by decide), if_neg (by rw [show refusedB (some31 ino) 1 ev2.core g1.x.act = false from ref_no ino]; decide)]
 rw [show doM ((newR 8 1).put 0 (some g1)).m ev2.core g1.x = (⟨0, 0, 2, stat0, none, ba0⟩, ⟨t2, updT (fun _ => 0) ((0 : Int).toNat * 16) 2, 1⟩) from h3]
 rfl
theorem run_some (ino : Int) : (run31 8 1 (some31 ino)).1 = (if ino = 2 then 3 else 2) ∧ (run31 8 1 (some31 ino)).2.1 = (if ino = 2 then 0 else 311) := by
 obtain ⟨m1, h1⟩ := step_c ino
 have h0 := step_b (some31 ino) 0
 have he : end31 ((R31.mk m1 ((newR 8 1).put 0 (some g1)).c).put 0 (some ⟨callP 2 sla, true, (ev3 2).rp⟩)) (ev3 ino) = if ino = 2 then (0, ((R31.mk m1 ((newR 8 1).put 0 (some g1)).c).put 0 (some ⟨callP 2 sla, true, (ev3 2).rp⟩)).put 0 none) else (311, (R31.mk m1 ((newR 8 1).put 0 (some g1)).c).put 0 (some ⟨callP 2 sla, true, (ev3 2).rp⟩)) := by
  unfold end31
  rw [show ((R31.mk m1 ((newR 8 1).put 0 (some g1)).c).put 0 (some ⟨callP 2 sla, true, (ev3 2).rp⟩)).c (ev3 ino).core = some ⟨callP 2 sla, true, (ev3 2).rp⟩ from rfl]
  dsimp only
  rw [if_neg (by decide)]
  have ha : askedR ⟨callP 2 sla, true, (ev3 2).rp⟩ (ev3 ino) = (ev3 ino).rp := by
   unfold askedR
   rw [if_neg]
   rintro ⟨h | h, _⟩
   · exact absurd h (by decide)
   · exact absurd h (by decide)
  rw [ha]
  by_cases c : ino = 2
  · rw [if_pos c, c, if_pos rfl]
    rfl
  · rw [if_neg c, if_neg]
    intro h
    exact c (congrArg Rp.ino h).symm
 have h2 : step31 1 (some31 ino) 2 ((R31.mk m1 ((newR 8 1).put 0 (some g1)).c).put 0 (some ⟨callP 2 sla, true, (ev3 2).rp⟩)) (ev3 ino) = end31 ((R31.mk m1 ((newR 8 1).put 0 (some g1)).c).put 0 (some ⟨callP 2 sla, true, (ev3 2).rp⟩)) (ev3 ino) := by
  unfold step31
  rw [if_neg (by simp [ev3, zEv]), if_neg (show ¬ (ev3 ino).kind = 1 from by show ¬ (3 : Int) = 1; decide), if_neg (show ¬ (ev3 ino).kind = 2 from by show ¬ (3 : Int) = 2; decide), if_pos (show (ev3 ino).kind = 3 from rfl)]
 unfold run31
 show (runFrom 1 (some31 ino) 0 (ev1 :: ev2 :: ev3 ino :: []) (newR 8 1)).1 = _ ∧ (runFrom 1 (some31 ino) 0 (ev1 :: ev2 :: ev3 ino :: []) (newR 8 1)).2.1 = _
 unfold runFrom
 rw [h0]
 dsimp only
 rw [if_neg (by decide)]
 unfold runFrom
 rw [h1]
 dsimp only
 rw [if_neg (by decide)]
 unfold runFrom
 rw [h2, he]
 by_cases c : ino = 2
 · rw [if_pos c, if_pos c, if_pos c]
   exact ⟨rfl, rfl⟩
 · rw [if_neg c, if_neg c, if_neg c]
   exact ⟨rfl, rfl⟩
theorem run_short : (run31 8 1 [ev1, ev3 2]).1 = 1 ∧ (run31 8 1 [ev1, ev3 2]).2.1 = 310 := by
 have h0 := step_b [ev1, ev3 2] 0
 have h2 : step31 1 [ev1, ev3 2] 1 ((newR 8 1).put 0 (some g1)) (ev3 2) = (310, (newR 8 1).put 0 (some g1)) := by
  unfold step31
  rw [if_neg (by decide), if_neg (by decide), if_neg (by decide), if_pos (show (ev3 2).kind = 3 from rfl)]
  unfold end31
  rw [show ((newR 8 1).put 0 (some g1)).c (ev3 2).core = some g1 from rfl]
  dsimp only
  rw [if_pos (show g1.com = false from rfl)]
 unfold run31 runFrom
 rw [h0]
 dsimp only
 rw [if_neg (by decide)]
 unfold runFrom
 rw [h2]
 exact ⟨rfl, rfl⟩
end

section
open Go.RowKit Go.Maps
theorem flat_get {f : Ev → List Value} (hf : ∀ e, (f e).length = 18) : ∀ (l : List Ev) (k j : Nat) (e : Ev), l[k]? = some e → j < 18 → (l.flatMap f)[k * 18 + j]? = (f e)[j]?
 | [], _, _, _, h, _ => by simp at h
 | a :: l, 0, j, e, h, hj => by
  rw [List.getElem?_cons_zero] at h
  cases h
  rw [List.flatMap_cons, List.getElem?_append_left (by rw [hf]; omega), Nat.zero_mul, Nat.zero_add]
 | a :: l, k + 1, j, e, h, hj => by
  rw [List.getElem?_cons_succ] at h
  rw [List.flatMap_cons, List.getElem?_append_right (by rw [hf]; omega), hf, show (k + 1) * 18 + j - 18 = k * 18 + j by omega]
  exact flat_get hf l k j e h hj
theorem evs_block {W : World} {b : Nat} {l : List Ev} (h : W.heap[b]? = some (.cells (l.flatMap Ev.cells).toArray 120 (0, 0))) : EvsAt W (some ⟨b, 0, none⟩) l := fun _ => by
 refine ⟨b, 0, rfl, (Array.getElem?_eq_some_iff.1 h).1, fun k e hk j v hv => ?_⟩
 have hj : j < 18 := by rw [← ev_len e]; exact (List.getElem?_eq_some_iff.1 hv).1
 have := flat_get ev_len l k j e hk hj
 rw [hv] at this
 simp only [World.cell?, h, Nat.zero_add]
 simpa using this
theorem zfits {k i : Int} {x : Cx} (hk : ∃ k' : Nat, k = k' ∧ k' ≤ 255) (hx : x.Fits) : Ev.Fits { zEv with kind := k, x := x, ino := i } := ⟨(show I64 0 from ⟨by decide, by decide⟩), hk, hx.act, hx.path, hx.path2, hx.data, hx.size, (show 0 ≤ maxLen by decide), (show (ByteArray.mk #[]).size ≤ maxLen by decide)⟩
theorem fits_zx : (zEv.x).Fits := ⟨⟨0, rfl, by decide⟩, by decide, by decide, by decide, by decide⟩
theorem fits1 : ev1.Fits := zfits (i := 0) ⟨1, rfl, by decide⟩ ⟨⟨2, rfl, by decide⟩, by decide, by decide, by decide, by decide⟩
theorem fits2 : ev2.Fits := zfits (i := 0) ⟨2, rfl, by decide⟩ fits_zx
theorem fits3 (i : Int) : (ev3 i).Fits := zfits ⟨3, rfl, by decide⟩ fits_zx
theorem erd_nil (w : World) (A : Option Addr) : ERd w A [] := fun h => absurd rfl h
theorem hist3 {W : World} {b : Nat} {i : Int} (h : W.heap[b]? = some (.cells ((some31 i).flatMap Ev.cells).toArray 120 (0, 0))) : Hist W (some ⟨b, 0, none⟩) 3 3 (some31 i) := by
 refine ⟨evs_block h, fun e he => ?_, rfl, by decide, by decide, by decide, fun e he => ?_⟩
 · simp only [some31, List.mem_cons, List.not_mem_nil, or_false] at he
   rcases he with rfl | rfl | rfl
   · exact ⟨rfl, erd_nil W _⟩
   · exact ⟨rfl, erd_nil W _⟩
   · exact ⟨rfl, erd_nil W _⟩
 · simp only [some31, List.mem_cons, List.not_mem_nil, or_false] at he
   rcases he with rfl | rfl | rfl
   · exact fits1
   · exact fits2
   · exact fits3 i
theorem hist2 {W : World} {b : Nat} (h : W.heap[b]? = some (.cells ([ev1, ev3 2].flatMap Ev.cells).toArray 120 (0, 0))) : Hist W (some ⟨b, 0, none⟩) 2 2 [ev1, ev3 2] := by
 refine ⟨evs_block h, fun e he => ?_, rfl, by decide, by decide, by decide, fun e he => ?_⟩
 · simp only [List.mem_cons, List.not_mem_nil, or_false] at he
   rcases he with rfl | rfl
   · exact ⟨rfl, erd_nil W _⟩
   · exact ⟨rfl, erd_nil W _⟩
 · simp only [List.mem_cons, List.not_mem_nil, or_false] at he
   rcases he with rfl | rfl
   · exact fits1
   · exact fits3 2
theorem order_some : thoseL 2 (kn (ckL (some31 2))) = [0] := by decide
set_option maxRecDepth 100000 in
set_option maxHeartbeats 4000000 in
theorem t_some31 (ino : Int) (w : World) :
  Calls Tryz.prog 54 #[.int .u32 ino] w fun e w' => ∃ b, e = .returned (.slice (some ⟨b, 0, none⟩) 3 3) ∧ w'.heap[b]? = some (.cells ((some31 ino).flatMap Ev.cells).toArray 120 (0, 0)) ∧ Below w.heap.size w w' := by
 go_enter Tryz.func54, Tryz.ntmps54
 go_wp2
 go_ret
 exact ⟨_, rfl, heap_alloc_new _ _, (Below.refl _ _).alloc (Nat.le_refl _) _⟩
set_option maxRecDepth 100000 in
set_option maxHeartbeats 2000000 in
theorem t_same0 (A B : Option Addr) (ca cb : Nat) (w : World) (ha : IReads w A [0]) (hb : IReads w B [0]) :
  Calls Tryz.prog 29 #[.slice A 1 ca, .slice B 1 cb] w fun e w' => e = .returned (.bool true) ∧ Below w.heap.size w w' := by
 obtain ⟨b1, o1, rfl, l1, h1⟩ := ha (by simp)
 obtain ⟨b2, o2, rfl, l2, h2⟩ := hb (by simp)
 have HC1 : Hid (∀ j : Nat, j < 1 → ∀ W, Below w.heap.size w W → W.cell? ⟨b1, o1 + j, none⟩ = some (.int .i64 0)) := fun j hj W hW => by
  obtain rfl : j = 0 := by omega
  exact (World.cell?_of_block (a := ⟨b1, _, none⟩) (hW.block b1 l1)).trans (h1 0 0 rfl)
 have HC2 : Hid (∀ j : Nat, j < 1 → ∀ W, Below w.heap.size w W → W.cell? ⟨b2, o2 + j, none⟩ = some (.int .i64 0)) := fun j hj W hW => by
  obtain rfl : j = 0 := by omega
  exact (World.cell?_of_block (a := ⟨b2, _, none⟩) (hW.block b2 l2)).trans (h2 0 0 rfl)
 clear h1 h2 ha hb l1 l2
 go_enter Tryz.func29, Tryz.ntmps29
 go_wp2
 go_loopw [5] (fun v W => ∃ j : Nat, v = .int .i64 (j : Int) ∧ j ≤ 1 ∧ Hid (Below w.heap.size w W)) (fun v _ => 1 - (intOf v).toNat)
 case atStart => exact ⟨0, rfl, Nat.zero_le _, Below.refl _ _⟩
 case round =>
  obtain ⟨j, rfl, hj, HW⟩ := hrel
  by_cases he : j = 1
  · subst he
    go_wp2
    go_ret
    exact ⟨rfl, HW.out⟩
  · have hj1 : j < 1 := by omega
    have c1 := HC1.out j hj1 wr HW.out
    have c2 := HC2.out j hj1 wr HW.out
    go_wp2
    go_quiet (fail)
    generalize hw2 : wr.drewN _ = w2
    have HB2 : Hid (Below w.heap.size w w2) := by rw [← hw2]; exact pbelow_drewN HW.out _
    clear hw2
    go_wp2
    go_roundw
    case rel => exact ⟨j + 1, rfl, by omega, HB2⟩
    case measure => simp only [intOf]; omega
theorem ireads_new (W : World) (x : Int) : IReads (W.alloc (.cells #[.int .i64 x] 3)) (some ⟨W.heap.size, 0, none⟩) [x] := fun _ => ⟨_, 0, rfl, by simp, fun k y hk => by
 match k, hk with
 | 0, hk =>
  have hy : x = y := by simpa using hk
  subst hy
  simp only [World.cell?, heap_alloc_new, Nat.zero_add]
  simp⟩
theorem below_a9 (w : World) (a : Obj) : Below w.heap.size w (w.alloc a) := (Below.refl _ _).alloc (Nat.le_refl _) _
def isTwo (L : List Value) : Ph := fun v W => ∃ b, v = .slice (some ⟨b, 0, none⟩) 2 2 ∧ W.heap[b]? = some (.cells L.toArray 120 (0, 0))
theorem isTwo.stay {L : List Value} : ∀ v W W', isTwo L v W → Below W.heap.size W W' → isTwo L v W' := fun _ _ _ ⟨b, h1, h2⟩ hb => ⟨b, h1, (hb.block b (Array.getElem?_eq_some_iff.1 h2).1).trans h2⟩
theorem al_c1 (w : World) (hK : KindsAt w) : ∀ (b : Nat) (W : World), W.heap[b]? = some (.cells ((some31 2).flatMap Ev.cells).toArray 120 (0, 0)) → Below w.heap.size w W → Calls Tryz.prog 23 #[.int .i64 8, .int .i64 1, .slice (some ⟨b, 0, none⟩) 3 3] W fun e w' => e = .returned (.tuple #[.int .i64 3, .int .i64 0]) ∧ Below W.heap.size W w' := fun b W h hb => by
 have h2 := t_check31 8 1 W _ 3 3 _ (hist3 h) (hK.below hb hK.pos) (by decide) (by decide) (by decide) (by decide)
 rw [(run_some 2).1, (run_some 2).2, if_pos rfl, if_pos rfl] at h2
 exact h2
theorem al_c2 (w : World) (hK : KindsAt w) : ∀ (b : Nat) (W : World), W.heap[b]? = some (.cells ((some31 3).flatMap Ev.cells).toArray 120 (0, 0)) → Below w.heap.size w W → Calls Tryz.prog 23 #[.int .i64 8, .int .i64 1, .slice (some ⟨b, 0, none⟩) 3 3] W fun e w' => e = .returned (.tuple #[.int .i64 2, .int .i64 311]) ∧ Below W.heap.size W w' := fun b W h hb => by
 have h2 := t_check31 8 1 W _ 3 3 _ (hist3 h) (hK.below hb hK.pos) (by decide) (by decide) (by decide) (by decide)
 rw [(run_some 3).1, (run_some 3).2, if_neg (by decide), if_neg (by decide)] at h2
 exact h2
theorem al_c3 (w : World) (hK : KindsAt w) : ∀ (b : Nat) (W : World), W.heap[b]? = some (.cells ([ev1, ev3 2].flatMap Ev.cells).toArray 120 (0, 0)) → Below w.heap.size w W → Calls Tryz.prog 23 #[.int .i64 8, .int .i64 1, .slice (some ⟨b, 0, none⟩) 2 2] W fun e w' => e = .returned (.tuple #[.int .i64 1, .int .i64 310]) ∧ Below W.heap.size W w' := fun b W h hb => by
 have h2 := t_check31 8 1 W _ 2 2 _ (hist2 h) (hK.below hb hK.pos) (by decide) (by decide) (by decide) (by decide)
 rw [run_short.1, run_short.2] at h2
 exact h2
theorem al_or : ∀ (b : Nat) (W : World), W.heap[b]? = some (.cells ((some31 2).flatMap Ev.cells).toArray 120 (0, 0)) → Calls Tryz.prog 25 #[.slice (some ⟨b, 0, none⟩) 3 3] W fun e w' => ∃ A c, e = .returned (.slice A 1 c) ∧ IReads w' A [0] ∧ Below W.heap.size W w' := fun b W h => by
 have hH := hist3 h
 refine (t_order31 _ 3 3 _ W hH.evs hH.len hH.small hH.fits).mono fun e w' ⟨v, h1, h2⟩ => ?_
 rw [order_some] at h2
 obtain ⟨A, c, h3, h4⟩ := h2.reads
 exact ⟨A, c, by rw [h1, h3]; rfl, h4, h2.2⟩
theorem ev_tmp {a : Act} {t : Nat} {v : Value} (h : a.tmps[t]?.getD undef = v) : a.eval (.tmp t) = v := by
 rw [← h]
 show a.tmps.getD t undef = _
 exact Array.getD_eq_getD_getElem?
theorem two_fill {L1 L3 : List Value} (h1 : L1.length = 18) (h3 : L3.length = 18) (f : Nat → Value) : Instr.fill (fun i => some (i * 18, 18)) ((Array.range (2 * 18)).map f) [(0, .agg L1.toArray), (1, .agg L3.toArray)] = some (L1 ++ L3).toArray := by
 refine (Great.fill_whole (s := 18) (by decide) [.agg L1.toArray, .agg L3.toArray] _ (fun v hv => ?_) (by simp)).trans ?_
 · simp only [List.mem_cons, List.not_mem_nil, or_false] at hv
   rcases hv with rfl | rfl <;> simp [Value.cells, h1, h3]
 · simp [Value.cells]
theorem infoEv2 : ∃ i, Tryz.prog.info? 120 = some i ∧ i.zero = some (.agg zEv.cells.toArray) ∧ i.size = 18 := by
 have h1 := infoEv
 have h2 : (Tryz.prog.info? 120).bind (·.zero) = some (.agg zEv.cells.toArray) := by kernel_rfl
 cases h : Tryz.prog.info? 120 with
 | none => rw [h] at h1; cases h1
 | some i =>
  rw [h] at h1 h2
  exact ⟨i, rfl, h2, by simpa using h1⟩
theorem al_pack (w : World) (hK : KindsAt w) : ∃ L1 L2 L3 : List Value, (L1.length = 18 ∧ L3.length = 18 ∧ L2 = L1 ++ L3) ∧
  (∀ (b : Nat) (W : World), W.heap[b]? = some (.cells L2.toArray 120 (0, 0)) → Below w.heap.size w W → Calls Tryz.prog 23 #[.int .i64 8, .int .i64 1, .slice (some ⟨b, 0, none⟩) 2 2] W fun e w' => e = .returned (.tuple #[.int .i64 1, .int .i64 310]) ∧ Below W.heap.size W w') ∧
  ∀ (w4 : World) (b1 : Nat), w4.heap[b1]? = some (.cells ((some31 2).flatMap Ev.cells).toArray 120 (0, 0)) → ∀ W, Below w4.heap.size w4 W → W.rangeAt b1 0 L1 ∧ W.rangeAt b1 36 L3 := by
 refine ⟨ev1.cells, [ev1, ev3 2].flatMap Ev.cells, (ev3 2).cells, ⟨rfl, rfl, by simp⟩, al_c3 w hK, fun w4 b1 h4 W hW => ⟨?_, ?_⟩⟩
 · obtain ⟨b, o, h, _, hr⟩ := (evs_block h4).get (k := 0) (e := ev1) rfl
   cases h
   simpa using hr W hW
 · obtain ⟨b, o, h, _, hr⟩ := (evs_block h4).get (k := 2) (e := ev3 2) rfl
   cases h
   simpa using hr W hW
set_option maxRecDepth 100000 in
set_option maxHeartbeats 8000000 in
theorem t_alive31 (w : World) (hK : KindsAt w) : Calls Tryz.prog 22 #[] w fun e w' => e = .returned (.bool true) ∧ Below w.heap.size w w' := by
 have HC1 := zz (al_c1 w hK)
 have HC2 := zz (al_c2 w hK)
 obtain ⟨L1, L2, L3, ⟨hl1, hl3, hl2⟩, hc3, hrd⟩ := al_pack w hK
 have HC3 := zz hc3
 have HRD := zz hrd
 have HL1 := zz hl1
 have HL3 := zz hl3
 have HL2 := zz hl2
 clear hl1 hl2 hl3 hc3 hrd
 have HOR := zz (al_or)
 have HC4 := zz (fun W => t_checkNo 1 W none 0 0 (by decide) (by decide))
 clear hK
 go_enter Tryz.func22, Tryz.ntmps22
 go_wp2_with (first
  | (go_at_call 54; (with_reducible refine (t_some31 2 _).mono ?_); rintro e w1 ⟨b1, rfl, h1, h2⟩; have H1 := zz h2; have HB1 := zz h1; clear h1 h2)
  | (go_at_call 23; (with_reducible refine (HC1.out _ _ HB1.out H1.out).mono ?_); rintro e w2 ⟨rfl, h2⟩; have H2 := zz (ptrans H1.out h2); have HB2 := zz ((h2.block _ (Array.getElem?_eq_some_iff.1 HB1.out).1).trans HB1.out); clear h2)
  | (go_at_call 54; (with_reducible refine (t_some31 3 _).mono ?_); rintro e w3 ⟨b3, rfl, h1, h2⟩; have H3 := zz (ptrans H2.out h2); have HB3 := zz ((h2.block _ (Array.getElem?_eq_some_iff.1 HB2.out).1).trans HB2.out); have HD3 := zz h1; clear h1 h2)
  | (go_at_call 23; (with_reducible refine (HC2.out _ _ HD3.out H3.out).mono ?_); rintro e w4 ⟨rfl, h2⟩; have H4 := zz (ptrans H3.out h2); have HB4 := zz ((h2.block _ (Array.getElem?_eq_some_iff.1 HB3.out).1).trans HB3.out); clear h2)
  | (go_at_call 23; (with_reducible refine (HC3.out _ _ ?_ ?_).mono ?_)))
 have HCL := zz (HRD.out w4 b1 HB4.out)
 refine wp_region_st (fun _ W => Below w4.heap.size w4 W) (fun W W2 => Below W.heap.size W W2) (fun W W2 => Below W.heap.size W W2) [] (phi [isV (.slice (some ⟨b1, 0, none⟩) 3 3), isV (.pointer (some ⟨b1, 0, none⟩)), isV (.agg L1.toArray), isV (.slice (some ⟨b1, 0, none⟩) 3 3), isV (.pointer (some ⟨b1, 36, none⟩)), isV (.agg L3.toArray), (isTwo L2), isV (.tuple #[.int .i64 1, .int .i64 310]), isV (.tuple #[.int .i64 1, .int .i64 310]), isV (.int .i64 1), isV (.int .i64 310), isV (.int .i64 1), isV (.int .i64 310)]) (by kernel_rfl) (by kernel_rfl) (by kernel_rfl) (by kernel_rfl) (by kernel_rfl) (below_drew _) (fun _ _ _ h hb => ptrans h hb) (fun _ _ h => h) ?_ ?_ ?_
 · refine stays_phiR ?_
   simp only [List.forall_mem_cons]
   exact ⟨kv, kv, kv, kv, kv, kv, isTwo.stay, kv, kv, kv, kv, kv, kv, fun _ h => absurd h (by simp)⟩
 · refine ⟨?_, ?_, ?_, ?_, ?_, ?_, ?_, ?_, ?_, ?_, ?_, ?_, ?_, trivial⟩
   · refine opS_mk rfl rfl fun aa W2 nJ hJ hp hq K hK => ?_
     have e1 : aa.tmps[1]?.getD undef = .slice (some ⟨b1, 0, none⟩) 3 3 := hp 1 (by kernel_rfl)
     clear hp hq
     go_simp
     exact hK _ _ (Below.refl _ _) rfl
   · refine opS_mk rfl rfl fun aa W2 nJ hJ hp hq K hK => ?_
     have e22 : aa.tmps[22]?.getD undef = .slice (some ⟨b1, 0, none⟩) 3 3 := hq 0 _ (by kernel_rfl) rfl
     clear hp hq
     go_simp
     exact hK _ _ (Below.refl _ _) rfl
   · refine opS_mk rfl rfl fun aa W2 nJ hJ hp hq K hK => ?_
     have e23 : aa.tmps[23]?.getD undef = .pointer (some ⟨b1, 0, none⟩) := hq 1 _ (by kernel_rfl) rfl
     clear hp hq
     refine wp_load_mid 120 _ rfl b1 0 (ev_tmp e23) L1 _ (HCL.out W2 hJ).1 Tryz.underlying120 rfl (by rw [HL1.out]; exact infoEv) ?_
     exact hK _ _ (Below.refl _ _) rfl
   · refine opS_mk rfl rfl fun aa W2 nJ hJ hp hq K hK => ?_
     have e1 : aa.tmps[1]?.getD undef = .slice (some ⟨b1, 0, none⟩) 3 3 := hp 1 (by kernel_rfl)
     clear hp hq
     go_simp
     exact hK _ _ (Below.refl _ _) rfl
   · refine opS_mk rfl rfl fun aa W2 nJ hJ hp hq K hK => ?_
     have e25 : aa.tmps[25]?.getD undef = .slice (some ⟨b1, 0, none⟩) 3 3 := hq 3 _ (by kernel_rfl) rfl
     clear hp hq
     go_simp
     exact hK _ _ (Below.refl _ _) rfl
   · refine opS_mk rfl rfl fun aa W2 nJ hJ hp hq K hK => ?_
     have e26 : aa.tmps[26]?.getD undef = .pointer (some ⟨b1, 36, none⟩) := hq 4 _ (by kernel_rfl) rfl
     clear hp hq
     refine wp_load_mid 120 _ rfl b1 36 (ev_tmp e26) L3 _ (HCL.out W2 hJ).2 Tryz.underlying120 rfl (by rw [HL3.out]; exact infoEv) ?_
     exact hK _ _ (Below.refl _ _) rfl
   · refine opS_mk rfl rfl fun aa W2 nJ hJ hp hq K hK => ?_
     have e24 : aa.tmps[24]?.getD undef = .agg L1.toArray := hq 2 _ (by kernel_rfl) rfl
     have e27 : aa.tmps[27]?.getD undef = .agg L3.toArray := hq 5 _ (by kernel_rfl) rfl
     clear hp hq
     obtain ⟨ie, hie, hz, hs⟩ := infoEv2
     refine wp_buildSlice 55 120 2 _ rfl L2.toArray ie _ Tryz.underlying55 hie hz (by rw [hs]; decide) (by rw [hs]; decide) ?_ (hK _ _ ((Below.refl _ _).alloc (Nat.le_refl _) _) ⟨_, rfl, heap_alloc_new _ _⟩)
     rw [hs, HL2.out]
     have e24' : aa.eval (.tmp 24) = .agg L1.toArray := ev_tmp e24
     have e27' : aa.eval (.tmp 27) = .agg L3.toArray := ev_tmp e27
     simp only [List.map_toArray, List.map_cons, List.map_nil, e24', e27']
     exact two_fill HL1.out HL3.out _
   · refine opS_mk rfl rfl fun aa W2 nJ hJ hp hq K hK => ?_
     obtain ⟨b5, e28, h5⟩ : isTwo L2 (aa.tmps[28]?.getD undef) W2 := hq 6 _ (by kernel_rfl) rfl
     have hB : Below w4.heap.size w4 W2 := hJ
     have H5 := zz (And.intro h5 hB)
     clear h5 hB hJ
     clear hp hq
     go_simp
     go_at_call 23
     (with_reducible refine (HC3.out _ _ H5.out.1 (ptrans H4.out H5.out.2)).mono ?_)
     rintro e5 w7 ⟨rfl, h7⟩
     exact hK _ _ h7 rfl
   · refine opS_mk rfl rfl fun aa W2 nJ hJ hp hq K hK => ?_
     have e29 : aa.tmps[29]?.getD undef = .tuple #[.int .i64 1, .int .i64 310] := hq 7 _ (by kernel_rfl) rfl
     clear hp hq
     go_simp
     exact hK _ _ (Below.refl _ _) rfl
   · refine opS_mk rfl rfl fun aa W2 nJ hJ hp hq K hK => ?_
     have e21 : aa.tmps[21]?.getD undef = .tuple #[.int .i64 1, .int .i64 310] := hq 8 _ (by kernel_rfl) rfl
     clear hp hq
     go_simp
     exact hK _ _ (Below.refl _ _) rfl
   · refine opS_mk rfl rfl fun aa W2 nJ hJ hp hq K hK => ?_
     have e21 : aa.tmps[21]?.getD undef = .tuple #[.int .i64 1, .int .i64 310] := hq 8 _ (by kernel_rfl) rfl
     clear hp hq
     go_simp
     exact hK _ _ (Below.refl _ _) rfl
   · refine opS_mk rfl rfl fun aa W2 nJ hJ hp hq K hK => ?_
     have e30 : aa.tmps[30]?.getD undef = .int .i64 1 := hq 9 _ (by kernel_rfl) rfl
     clear hp hq
     go_simp
     exact hK _ _ (Below.refl _ _) rfl
   · refine opS_mk rfl rfl fun aa W2 nJ hJ hp hq K hK => ?_
     have e31 : aa.tmps[31]?.getD undef = .int .i64 310 := hq 10 _ (by kernel_rfl) rfl
     clear hp hq
     go_simp
     exact hK _ _ (Below.refl _ _) rfl
 · intro vs W9 hJ9 hv9 _
   have v11 : vs 11 = .int .i64 1 := hv9 11 _ rfl rfl
   have v12 : vs 12 = .int .i64 310 := hv9 12 _ rfl rfl
   have H6 := zz (ptrans H4.out hJ9)
   have HB6 := zz ((hJ9.block _ (Array.getElem?_eq_some_iff.1 HB4.out).1).trans HB4.out)
   clear hJ9 hv9
   simp only [putAll, Act.put, List.setIfInBounds_toArray, List.set_cons_succ, List.set_cons_zero, Nat.zero_add, Nat.reduceAdd, v11, v12]
   go_wp2_with (first
    | (go_at_call 23; (with_reducible refine (HC4.out _).mono ?_); rintro e w7 ⟨rfl, h2⟩; have H7 := zz (ptrans H6.out h2); have HB7 := zz ((h2.block _ (Array.getElem?_eq_some_iff.1 HB6.out).1).trans HB6.out); clear h2)
    | (go_at_call 25; (with_reducible refine (HOR.out _ _ HB7.out).mono ?_); rintro e w8 ⟨A8, c8, rfl, h1, h2⟩; have H8 := zz (ptrans H7.out h2); have HR8 := zz h1; clear h1 h2)
    | (go_at_call 29; go_loud ((with_reducible refine (t_same0 A8 (some ⟨w8.heap.size, 0, none⟩) c8 1 _ (HR8.out.below (below_a9 w8 _)) (ireads_new w8 0)).mono ?_); rintro e w9 ⟨rfl, h2⟩; have H9 := zz (ptrans H8.out (ptrans (below_a9 w8 _) h2)); clear h2)))
   go_ret
   exact ⟨rfl, H9.out⟩
end

section
open Go.RowKit Go.Maps
theorem plc_mem {l : List Int} {x : Int} : 0 ≤ plc l x ↔ x ∈ l := by
 unfold plc
 by_cases h : placeL x l < l.length
 · rw [if_pos h]
   exact ⟨fun _ => place_lt.1 h, fun _ => by omega⟩
 · rw [if_neg h]
   exact ⟨fun h2 => by omega, fun h2 => absurd (place_lt.2 h2) h⟩
theorem plc_of {l : List Int} {x : Int} (h : x ∈ l) : plc l x = (placeL x l : Int) := if_pos (place_lt.2 h)
structure PFacts (p : Int → Int → Bool) (O Wt : List Int) : Prop where
 irr : ∀ x, p x x = false
 asym : ∀ x y, p x y = true → p y x = false
 trans : ∀ x y z, p x y = true → p y z = true → p x z = true
 order : ∀ x y, p x y = true → 0 ≤ plc O x → 0 ≤ plc O y → plc O x < plc O y
 wait : ∀ x y, p x y = true → plc Wt x < 0
theorem prec_facts (l : List (Int × Int)) : PFacts (fun a b => precL a b l) (thoseL 2 (kn l)) (pendL (kn l)) := by
 have hk := kn_ok l
 refine ⟨fun x => ?_, fun x y h => ?_, fun x y z h1 h2 => ?_, fun x y h h1 h2 => ?_, fun x y h => ?_⟩
 · exact Bool.eq_false_iff.2 fun h => prec_irr hk ((precL_iff _ _ _).1 h)
 · exact Bool.eq_false_iff.2 fun h2 => prec_asym hk ((precL_iff _ _ _).1 h) ((precL_iff _ _ _).1 h2)
 · exact (precL_iff _ _ _).2 (prec_trans hk ((precL_iff _ _ _).1 h1) ((precL_iff _ _ _).1 h2))
 · have m1 := plc_mem.1 h1
   have m2 := plc_mem.1 h2
   rw [plc_of m1, plc_of m2]
   exact_mod_cast order_place hk ((precL_iff _ _ _).1 h) m1 m2
 · refine Int.not_le.1 fun h2 => pend_prec (plc_mem.1 h2) ((precL_iff _ _ _).1 h)
theorem those_le (k : Int) (l : List Ev) (n : Nat) (h : l.length = n) : (thoseL k (kn (ckL l))).length ≤ n := Nat.le_trans (those_len _ _) (by rw [kn_len, h]; exact Nat.le_refl _)
theorem pend_le (l : List Ev) (n : Nat) (h : l.length = n) : (pendL (kn (ckL l))).length ≤ n := Nat.le_trans (List.length_filter_le _ _) (those_le 1 l n h)
set_option maxRecDepth 100000 in
set_option maxHeartbeats 8000000 in
theorem t_strict31 (i0 c0 : Nat) (hi0 : i0 ≤ 255) (hc0 : c0 ≤ 255) (x y z : Int) (A : Option Addr) (n c : Nat) (l : List Ev) (w : World) (hl : EvsAt w A l) (hL : EvsL w l) (hn : l.length = n) (hn2 : n ≤ maxLen) (hc : n ≤ c) (hc2 : c ≤ maxLen) (hf : ∀ e ∈ l, Ev.Fits e) (hK : KindsAt w) :
  Calls Tryz.prog 6 #[.int .u8 i0, .int .u8 c0, .slice A n c, .int .i64 x, .int .i64 y, .int .i64 z] w fun e w' => e = .returned (.bool true) ∧ Below w.heap.size w w' := by
 have HLG := zz (t_long31 A n c l w hl hn hn2)
 have HAL := zz (show ∀ W, Below w.heap.size w W → Calls Tryz.prog 22 #[] W fun e w' => e = .returned (.bool true) ∧ Below W.heap.size W w' from fun W hb => t_alive31 W (hK.below hb hK.pos))
 have HH := zz (show n ≤ 150 → ∀ W, Below w.heap.size w W → Hist W A n c l from fun h W hb => ⟨hl.below hb, hL.below hb, hn, by omega, hc, hc2, hf⟩)
 have HKW := zz (show ∀ W, Below w.heap.size w W → KindsAt W from fun W hb => hK.below hb hK.pos)
 have hn150 : n ≤ 150 → n ≤ 1000 := fun h => by omega
 have HPF0 := prec_facts (ckL l)
 have ho1 := those_le 2 l n hn
 have ho2 := pend_le l n hn
 have HOR := zz (show n ≤ 150 → ∀ W, Below w.heap.size w W → Calls Tryz.prog 25 #[.slice A n c] W fun e w' => ∃ v, e = .returned v ∧ IntR W w' v (thoseL 2 (kn (ckL l))) from fun h W hb => t_order31 A n c l W (hl.below hb) hn (hn150 h) hf)
 have HPE := zz (show n ≤ 150 → ∀ W, Below w.heap.size w W → Calls Tryz.prog 26 #[.slice A n c] W fun e w' => ∃ v, e = .returned v ∧ IntR W w' v (pendL (kn (ckL l))) from fun h W hb => t_pending31 A n c l W (hl.below hb) hn (hn150 h) hf)
 have HPR := zz (show n ≤ 150 → ∀ a b W, Below w.heap.size w W → Calls Tryz.prog 24 #[.int .i64 a, .int .i64 b, .slice A n c] W fun e w' => e = .returned (.bool (precL a b (ckL l))) ∧ Below W.heap.size W w' from fun h a b W hb => t_prec31 a b A n c l W (hl.below hb) hn (hn150 h) hf)
 have HLN1 := zz ho1
 have HLN2 := zz ho2
 clear ho1 ho2 hn150
 generalize thoseL 2 (kn (ckL l)) = O at HPF0 HOR HLN1
 generalize pendL (kn (ckL l)) = Wt at HPF0 HPE HLN2
 obtain ⟨p, hp⟩ : ∃ p : Int → Int → Bool, (fun a b => precL a b (ckL l)) = p := ⟨_, rfl⟩
 rw [hp] at HPF0
 simp only [show ∀ a b, precL a b (ckL l) = p a b from fun a b => congrFun (congrFun hp a) b] at HPR
 have HXX := zz (HPF0.irr x)
 obtain ⟨q, hq⟩ : ∃ q : Nat, (q : Int) = 1 + (c0 : Int) % 8 := ⟨1 + c0 % 8, by omega⟩
 obtain ⟨r, hr⟩ : ∃ r : Int, r = 2 + (i0 : Int) % 20 := ⟨_, rfl⟩
 have hq1 : 1 ≤ q := by omega
 have hq8 : q ≤ 8 := by omega
 have hr1 : 2 ≤ r := by omega
 have hr2 : r ≤ 256 := by omega
 have HQ := zz hq.symm
 have HR := zz hr.symm
 obtain ⟨u, hu⟩ : ∃ u, plc O x = u := ⟨_, rfl⟩
 obtain ⟨v, hv⟩ : ∃ v, plc O y = v := ⟨_, rfl⟩
 obtain ⟨m, hm⟩ : ∃ m, plc Wt x = m := ⟨_, rfl⟩
 have ho := HPF0.order x y
 have hwt := HPF0.wait x y
 have has := HPF0.asym x y
 have htr := HPF0.trans x y z
 rw [hu, hv] at ho
 rw [hm] at hwt
 have HU := zz hu
 have HV := zz hv
 have HM := zz hm
 clear hl hL hn hn2 hc hc2 hf hK hp hq hr HPF0 hu hv hm
 go_enter Tryz.func6, Tryz.ntmps6
 go_wp2_with (first
  | (go_at_call 21; (with_reducible refine HLG.out.mono ?_); rintro e w1 hlg
     obtain ⟨bb, rfl, hb1, hB1⟩ := hlg.get
     have H1 := zz hB1
     have HB1 := zz hb1
     clear hlg hb1 hB1
     cases bb)
  | (go_at_call 22; (with_reducible refine (HAL.out _ H1.out).mono ?_); rintro e w9 ⟨rfl, hb9⟩)
  | (go_at_call 23; rw [HQ.out, HR.out]; (with_reducible refine (t_check31 r q _ A n c l (HH.out (HB1.out trivial) _ H1.out) (HKW.out _ H1.out) hr1 hr2 hq1 hq8).mono ?_); rintro e w2 ⟨rfl, hb⟩
     have H2 := zz (ptrans H1.out hb)
     clear hb
     generalize (run31 r q l).1 = o1
     generalize (run31 r q l).2.1 = o2))
 · go_at_call 22
   (with_reducible refine (HAL.out _ H2.out).mono ?_)
   rintro e w9 ⟨rfl, hb9⟩
   go_wp2
   go_ret
   exact ⟨rfl, ptrans H2.out hb9⟩
 · cases hxy : p x y
   · go_wp2_with (first
      | (go_at_call 24; (with_reducible refine (HPR.out (HB1.out trivial) _ _ _ H2.out).mono ?_); rintro e w3 ⟨rfl, hb⟩
         (try simp only [HXX.out, hxy])
         have H2 := zz (ptrans H2.out hb)
         (try have HO := zz (HO.out.below hb))
         (try have HW := zz (HW.out.below hb))
         clear hb)
      | (go_at_call 25; (with_reducible refine (HOR.out (HB1.out trivial) _ H2.out).mono ?_); rintro e w4 ⟨v4, rfl, h4⟩
         obtain ⟨A4, c4, rfl, h5⟩ := h4.reads
         have H2 := zz (ptrans H2.out h4.2)
         have HO := zz h5
         clear h4 h5)
      | (go_at_call 26; (with_reducible refine (HPE.out (HB1.out trivial) _ H2.out).mono ?_); rintro e w5 ⟨v5, rfl, h4⟩
         obtain ⟨A5, c5, rfl, h5⟩ := h4.reads
         have H2 := zz (ptrans H2.out h4.2)
         have HO := zz (HO.out.below h4.2)
         have HW := zz h5
         clear h4 h5)
      | (go_at_call 27; (with_reducible refine (t_place31 _ _ _ O _ _ rfl (Nat.le_trans HLN1.out (Nat.le_trans (HB1.out trivial) (by decide))) HO.out).mono ?_); rintro e w6 ⟨rfl, rfl⟩; simp only [HU.out, HV.out])
      | (go_at_call 27; (with_reducible refine (t_place31 _ _ _ Wt _ _ rfl (Nat.le_trans HLN2.out (Nat.le_trans (HB1.out trivial) (by decide))) HW.out).mono ?_); rintro e w6 ⟨rfl, rfl⟩; simp only [HM.out])
      | (go_at_call 22; (with_reducible refine (HAL.out _ H2.out).mono ?_); rintro e w9 ⟨rfl, hb9⟩))
     all_goals go_ret
     all_goals exact ⟨rfl, ptrans H2.out hb9⟩
   · have hyx := has hxy
     have hm0 := hwt hxy
     have hlt := ho hxy
     cases hyz : p y z
     · go_wp2_with (first
        | (go_at_call 24; (with_reducible refine (HPR.out (HB1.out trivial) _ _ _ H2.out).mono ?_); rintro e w3 ⟨rfl, hb⟩
           (try simp only [HXX.out, hxy, hyx, hyz])
           have H2 := zz (ptrans H2.out hb)
           (try have HO := zz (HO.out.below hb))
           (try have HW := zz (HW.out.below hb))
           clear hb)
        | (go_at_call 25; (with_reducible refine (HOR.out (HB1.out trivial) _ H2.out).mono ?_); rintro e w4 ⟨v4, rfl, h4⟩
           obtain ⟨A4, c4, rfl, h5⟩ := h4.reads
           have H2 := zz (ptrans H2.out h4.2)
           have HO := zz h5
           clear h4 h5)
        | (go_at_call 26; (with_reducible refine (HPE.out (HB1.out trivial) _ H2.out).mono ?_); rintro e w5 ⟨v5, rfl, h4⟩
           obtain ⟨A5, c5, rfl, h5⟩ := h4.reads
           have H2 := zz (ptrans H2.out h4.2)
           have HO := zz (HO.out.below h4.2)
           have HW := zz h5
           clear h4 h5)
        | (go_at_call 27; (with_reducible refine (t_place31 _ _ _ O _ _ rfl (Nat.le_trans HLN1.out (Nat.le_trans (HB1.out trivial) (by decide))) HO.out).mono ?_); rintro e w6 ⟨rfl, rfl⟩; simp only [HU.out, HV.out])
        | (go_at_call 27; (with_reducible refine (t_place31 _ _ _ Wt _ _ rfl (Nat.le_trans HLN2.out (Nat.le_trans (HB1.out trivial) (by decide))) HW.out).mono ?_); rintro e w6 ⟨rfl, rfl⟩; simp only [HM.out])
        | (go_at_call 22; (with_reducible refine (HAL.out _ H2.out).mono ?_); rintro e w9 ⟨rfl, hb9⟩))
       all_goals go_ret
       all_goals exact ⟨rfl, ptrans H2.out hb9⟩
     · have hxz := htr hxy hyz
       go_wp2_with (first
        | (go_at_call 24; (with_reducible refine (HPR.out (HB1.out trivial) _ _ _ H2.out).mono ?_); rintro e w3 ⟨rfl, hb⟩
           (try simp only [HXX.out, hxy, hyx, hyz, hxz])
           have H2 := zz (ptrans H2.out hb)
           (try have HO := zz (HO.out.below hb))
           (try have HW := zz (HW.out.below hb))
           clear hb)
        | (go_at_call 25; (with_reducible refine (HOR.out (HB1.out trivial) _ H2.out).mono ?_); rintro e w4 ⟨v4, rfl, h4⟩
           obtain ⟨A4, c4, rfl, h5⟩ := h4.reads
           have H2 := zz (ptrans H2.out h4.2)
           have HO := zz h5
           clear h4 h5)
        | (go_at_call 26; (with_reducible refine (HPE.out (HB1.out trivial) _ H2.out).mono ?_); rintro e w5 ⟨v5, rfl, h4⟩
           obtain ⟨A5, c5, rfl, h5⟩ := h4.reads
           have H2 := zz (ptrans H2.out h4.2)
           have HO := zz (HO.out.below h4.2)
           have HW := zz h5
           clear h4 h5)
        | (go_at_call 27; (with_reducible refine (t_place31 _ _ _ O _ _ rfl (Nat.le_trans HLN1.out (Nat.le_trans (HB1.out trivial) (by decide))) HO.out).mono ?_); rintro e w6 ⟨rfl, rfl⟩; simp only [HU.out, HV.out])
        | (go_at_call 27; (with_reducible refine (t_place31 _ _ _ Wt _ _ rfl (Nat.le_trans HLN2.out (Nat.le_trans (HB1.out trivial) (by decide))) HW.out).mono ?_); rintro e w6 ⟨rfl, rfl⟩; simp only [HM.out])
        | (go_at_call 22; (with_reducible refine (HAL.out _ H2.out).mono ?_); rintro e w9 ⟨rfl, hb9⟩))
       all_goals go_ret
       all_goals exact ⟨rfl, ptrans H2.out hb9⟩
 · go_ret
   exact ⟨rfl, ptrans H1.out hb9⟩
end

section
open Go.ChangeShapes Go.WideShapes Go.ChangeAt Go.RowKit
theorem cells_event : Tryz.prog.cellsOf 120 = 18 := by kernel_rfl
theorem cells_result : Tryz.prog.cellsOf 39 = 9 := by kernel_rfl
theorem cells_stat : Tryz.prog.cellsOf 36 = 4 := by kernel_rfl
theorem cells_entry : Tryz.prog.cellsOf 100 = 2 := by kernel_rfl
theorem cells_sEntry : Tryz.prog.cellsOf 37 = 1 := by kernel_rfl
theorem cells7_errno : Tryz.prog.cellsOf 26 = 1 := by kernel_rfl
theorem i64_wf {x : Int} (w : (Lit.int .i64 x).wf = true) : I64 x := by
 have : -9223372036854775808 ≤ x ∧ x ≤ 9223372036854775807 := by simpa [Lit.wf, IntKind.min, IntKind.max, IntKind.signed, IntKind.bits] using w
 exact this
theorem u8_wf {x : Int} (w : (Lit.int .u8 x).wf = true) : ∃ k : Nat, x = k ∧ k ≤ 255 := by
 have : 0 ≤ x ∧ x ≤ 255 := by simpa [Lit.wf, IntKind.min, IntKind.max, IntKind.signed, IntKind.bits] using w
 exact ⟨x.toNat, by omega, by omega⟩
set_option maxRecDepth 100000 in
theorem entry_trod31 {H : Type} {enc : TypeId × Value → H} {w : World} {base n : Nat} {spare : Nat → Bool} {held : Bool} {cs : List Value} {x : DataW H × List MemPlace} (hf : DataW.trod enc Tryz.prog w base spare held n 100 cs = some x) :
  ∃ r : E, cs = [.string r.1, .int .u32 r.2] := by
 obtain ⟨xs, m, _, _, hl, hlen, hk⟩ := DataW.trod_struct Tryz.underlying100 hf
 rw [cells_entry] at hl
 match cs, hl with
 | [c0, c1], _ =>
  obtain ⟨y0, t0⟩ := at_cell7 (cs := [c0, c1]) cells7_s (hk 0 _ rfl) c0 rfl (by rw [hlen]; decide)
  obtain ⟨y1, t1⟩ := at_cell7 (cs := [c0, c1]) cells7_u32 (hk 1 _ rfl) c1 rfl (by rw [hlen]; decide)
  obtain ⟨x0, e0, _, w0⟩ := DataW.trod_string Tryz.underlying9 t0
  obtain ⟨x1, e1, _, w1⟩ := DataW.trod_int Tryz.underlying29 t1
  simp only [List.cons.injEq, and_true] at e0 e1
  subst e0; subst e1
  exact ⟨(x0, x1), rfl⟩
theorem addr_flat {W : World} {a : Addr} {v : Value} (h : W.cell? a = some v) : ∃ b o, a = ⟨b, o, none⟩ ∧ b < W.heap.size := by
 obtain ⟨ab, ao, asp⟩ := a
 have hsn : asp = none := by
  cases asp with
  | none => rfl
  | some s =>
   exfalso
   simp [World.cell?] at h
   split at h <;> cases h
 subst hsn
 exact ⟨ab, ao, rfl, World.block_lt_of_cell? W _ h⟩
set_option maxRecDepth 100000 in
theorem ents_trod31 {H : Type} {enc : TypeId × Value → H} {W : World} {base n : Nat} {sp : Nat → Bool} {held : Bool} {v : Value} {y : DataW H × List MemPlace} (hf : DataW.trod enc Tryz.prog W base sp held n 37 [v] = some y) :
  ∃ (A : Option Addr) (n c : Nat) (l : List E), v = .slice A n c ∧ n ≤ maxLen ∧ l.length = n ∧ ERd W A l := by
 rcases Go.Deep.open_slice Tryz.underlying37 hf with ⟨h0, _⟩ | ⟨a, len, cap, m, n, D, Pl, h0, _, hl, hm, hmm, _, hi⟩
 · simp only [List.cons.injEq, and_true] at h0
   subst h0
   exact ⟨none, 0, 0, [], rfl, Nat.zero_le _, rfl, fun h => absurd rfl h⟩
 · simp only [List.cons.injEq, and_true] at h0
   subst h0
   have hall : ∀ i, i < len → ∃ s : E, W.cell? (a.add (i * 2)) = some (.string s.1) ∧ W.cell? (a.add (i * 2 + 1)) = some (.int .u32 s.2) := by
    intro i hlt
    obtain ⟨cs', hc, ht'⟩ := hi i (by rw [hmm]; split <;> omega)
    rw [cells_entry] at hc
    obtain ⟨s, hs⟩ := entry_trod31 ht'
    obtain ⟨_, hlen, hat⟩ := World.cells?_some hc
    have hcell : ∀ j, j < 2 → W.cell? (a.add (i * 2 + j)) = cs'[j]? := fun j hj => by
     have := hat j hj
     rw [Go.Deep.add_add] at this
     exact this
    refine ⟨s, ?_, ?_⟩
    · have := hcell 0 (by omega)
      rw [Nat.add_zero] at this
      rw [this, hs]
      rfl
    · rw [hcell 1 (by omega), hs]
      rfl
   let f : Nat → E := fun i => if h : i < len then Classical.choose (hall i h) else (.empty, 0)
   have hspec : ∀ i, (h : i < len) → W.cell? (a.add (i * 2)) = some (.string (f i).1) ∧ W.cell? (a.add (i * 2 + 1)) = some (.int .u32 (f i).2) := by
    intro i h
    have := Classical.choose_spec (hall i h)
    simp only [f, dif_pos h]
    exact this
   refine ⟨_, _, _, (List.range len).map f, rfl, Nat.le_trans hl hm, by simp, fun hpos => ?_⟩
   have hlen : 0 < len := by
    rcases Nat.eq_zero_or_pos len with h | h
    · subst h
      exact absurd rfl hpos
    · exact h
   have h0 := (hspec 0 hlen).1
   have hb : ∃ b o, a = ⟨b, o, none⟩ ∧ b < W.heap.size := by
    obtain ⟨b, o, h1, h2⟩ := addr_flat h0
    obtain ⟨ab, ao, asp⟩ := a
    simp only [Addr.add] at h1
    obtain ⟨rfl, _, rfl⟩ := h1
    exact ⟨_, _, rfl, h2⟩
   obtain ⟨b, o, rfl, hlt⟩ := hb
   refine ⟨b, o, rfl, hlt, fun k s hk => ?_⟩
   rw [List.getElem?_map] at hk
   have hkl : k < len := by
    by_cases h : k < len
    · exact h
    · rw [List.getElem?_eq_none (by simpa using h)] at hk; cases hk
   rw [List.getElem?_range hkl] at hk
   simp only [Option.map_some, Option.some.injEq] at hk
   subst hk
   have := hspec k hkl
   simp only [add_flat, ← Nat.add_assoc] at this
   exact this
set_option maxRecDepth 100000 in
theorem event_trod {H : Type} {enc : TypeId × Value → H} {w : World} {base n : Nat} {spare : Nat → Bool} {held : Bool} {cs : List Value} {x : DataW H × List MemPlace} (hf : DataW.trod enc Tryz.prog w base spare held n 120 cs = some x) :
  ∃ e : Ev, cs = e.cells ∧ e.Fits ∧ e.lst.length = e.ln ∧ ERd w e.la e.lst := by
 obtain ⟨xs, m, _, _, hl, hlen, hk⟩ := DataW.trod_struct Tryz.underlying120 hf
 rw [cells_event] at hl
 match cs, hl with
 | [a0, a1, c0, c1, c2, c3, c4, c5, c6, r0, r1, r2, s0, s1, s2, s3, r4, r5], _ =>
  obtain ⟨y0, t0⟩ := at_cell7 (cs := [a0, a1, c0, c1, c2, c3, c4, c5, c6, r0, r1, r2, s0, s1, s2, s3, r4, r5]) cells7_int (hk 0 _ rfl) a0 rfl (by rw [hlen]; decide)
  obtain ⟨y1, t1⟩ := at_cell7 (cs := [a0, a1, c0, c1, c2, c3, c4, c5, c6, r0, r1, r2, s0, s1, s2, s3, r4, r5]) cells7_u8 (hk 1 _ rfl) a1 rfl (by rw [hlen]; decide)
  have h2 : DataW.trod enc Tryz.prog w base spare held m 31 [c0, c1, c2, c3, c4, c5, c6] = xs[2]? := by
   rw [← hk 2 _ rfl]
   show _ = DataW.trod enc Tryz.prog w base spare held m 31 (([a0, a1, c0, c1, c2, c3, c4, c5, c6, r0, r1, r2, s0, s1, s2, s3, r4, r5].drop 2).take (Tryz.prog.cellsOf 31))
   rw [cells_call]
   rfl
  rw [List.getElem?_eq_getElem (by rw [hlen]; decide)] at h2
  obtain ⟨X, hX, Xok⟩ := call_trod h2
  have h3 : DataW.trod enc Tryz.prog w base spare held m 39 [r0, r1, r2, s0, s1, s2, s3, r4, r5] = xs[3]? := by
   rw [← hk 3 _ rfl]
   show _ = DataW.trod enc Tryz.prog w base spare held m 39 (([a0, a1, c0, c1, c2, c3, c4, c5, c6, r0, r1, r2, s0, s1, s2, s3, r4, r5].drop 9).take (Tryz.prog.cellsOf 39))
   rw [cells_result]
   rfl
  rw [List.getElem?_eq_getElem (by rw [hlen]; decide)] at h3
  obtain ⟨xs3, m3, _, _, _, hlen3, hk3⟩ := DataW.trod_struct Tryz.underlying39 h3
  obtain ⟨z0, u0⟩ := at_cell7 (cs := [r0, r1, r2, s0, s1, s2, s3, r4, r5]) cells7_errno (hk3 0 _ rfl) r0 rfl (by rw [hlen3]; decide)
  obtain ⟨z1, u1⟩ := at_cell7 (cs := [r0, r1, r2, s0, s1, s2, s3, r4, r5]) cells7_int (hk3 1 _ rfl) r1 rfl (by rw [hlen3]; decide)
  obtain ⟨z2, u2⟩ := at_cell7 (cs := [r0, r1, r2, s0, s1, s2, s3, r4, r5]) cells7_u32 (hk3 2 _ rfl) r2 rfl (by rw [hlen3]; decide)
  have u4 := at_cell_in (cs := [r0, r1, r2, s0, s1, s2, s3, r4, r5]) cells_sEntry (hk3 4 _ rfl) r4 rfl (by rw [hlen3]; decide)
  have u5 := at_cell_in (cs := [r0, r1, r2, s0, s1, s2, s3, r4, r5]) cells7_s (hk3 5 _ rfl) r5 rfl (by rw [hlen3]; decide)
  have h5 : DataW.trod enc Tryz.prog w base spare held m3 36 [s0, s1, s2, s3] = xs3[3]? := by
   rw [← hk3 3 _ rfl]
   show _ = DataW.trod enc Tryz.prog w base spare held m3 36 (([r0, r1, r2, s0, s1, s2, s3, r4, r5].drop 3).take (Tryz.prog.cellsOf 36))
   rw [cells_stat]
   rfl
  rw [List.getElem?_eq_getElem (by rw [hlen3]; decide)] at h5
  obtain ⟨xs5, m5, _, _, _, hlen5, hk5⟩ := DataW.trod_struct Tryz.underlying36 h5
  obtain ⟨p0, q0⟩ := at_cell7 (cs := [s0, s1, s2, s3]) cells7_u32 (hk5 0 _ rfl) s0 rfl (by rw [hlen5]; decide)
  obtain ⟨p1, q1⟩ := at_cell7 (cs := [s0, s1, s2, s3]) cells7_u8 (hk5 1 _ rfl) s1 rfl (by rw [hlen5]; decide)
  obtain ⟨p2, q2⟩ := at_cell7 (cs := [s0, s1, s2, s3]) cells7_int (hk5 2 _ rfl) s2 rfl (by rw [hlen5]; decide)
  obtain ⟨p3, q3⟩ := at_cell7 (cs := [s0, s1, s2, s3]) cells7_u32 (hk5 3 _ rfl) s3 rfl (by rw [hlen5]; decide)
  obtain ⟨x0, e0, _, w0⟩ := DataW.trod_int Tryz.underlying3 t0
  obtain ⟨x1, e1, _, w1⟩ := DataW.trod_int Tryz.underlying5 t1
  obtain ⟨g0, f0, _, _⟩ := DataW.trod_int Tryz.underlying26 u0
  obtain ⟨g1, f1, _, _⟩ := DataW.trod_int Tryz.underlying3 u1
  obtain ⟨g2, f2, _, _⟩ := DataW.trod_int Tryz.underlying29 u2
  obtain ⟨k0, l0, _, _⟩ := DataW.trod_int Tryz.underlying29 q0
  obtain ⟨k1, l1, _, _⟩ := DataW.trod_int Tryz.underlying5 q1
  obtain ⟨k2, l2, _, _⟩ := DataW.trod_int Tryz.underlying3 q2
  obtain ⟨k3, l3, _, _⟩ := DataW.trod_int Tryz.underlying29 q3
  obtain ⟨A, ln, lc, L, rfl, hln, hL, hE⟩ := ents_trod31 u4
  obtain ⟨dt, f5, _, wd⟩ := DataW.trod_string Tryz.underlying9 u5
  simp only [List.cons.injEq, and_true] at e0 e1 f0 f1 f2 f5 l0 l1 l2 l3
  subst e0; subst e1; subst f0; subst f1; subst f2; subst f5; subst l0; subst l1; subst l2; subst l3
  simp only [callCells, List.cons.injEq, and_true] at hX
  obtain ⟨rfl, rfl, rfl, rfl, rfl, rfl, rfl⟩ := hX
  exact ⟨⟨x0, x1, X, g0, g1, g2, k0, k1, k2, k3, A, ln, lc, dt, L⟩, rfl, ⟨i64_wf w0, u8_wf w1, Xok.act, Xok.path, Xok.path2, Xok.data, Xok.size, hln, wd⟩, hL, hE⟩
set_option maxRecDepth 100000 in
theorem events_of {H : Type} {enc : TypeId × Value → H} {W : World} {sp : Nat → Bool} {held : Bool} {v : Value} {d : DataW H} {p : List MemPlace} (hv : ∃ a len cap, v = .slice a len cap) (h : DataW.Trod enc Tryz.prog W 0 sp held 55 v d p) :
  ∃ (A : Option Addr) (n c : Nat) (l : List Ev), v = .slice A n c ∧ n ≤ c ∧ c ≤ maxLen ∧ l.length = n ∧ EvsAt W A l ∧ EvsL W l ∧ ∀ e ∈ l, Ev.Fits e := by
 obtain ⟨a0, len, cap, rfl⟩ := hv
 obtain ⟨fuel, hf⟩ := h
 rcases Go.Deep.open_slice Tryz.underlying55 hf with ⟨h0, _⟩ | ⟨a, len', cap', m, n, D, Pl, h0, _, hl, hm, hmm, _, hi⟩
 · simp [Value.cells] at h0
   obtain ⟨rfl, rfl, rfl⟩ := h0
   exact ⟨none, 0, 0, [], rfl, Nat.le_refl _, Nat.zero_le _, rfl, fun h => absurd rfl h, fun s hs => by simp at hs, fun s hs => by simp at hs⟩
 · simp [Value.cells] at h0
   obtain ⟨rfl, rfl, rfl⟩ := h0
   have hall : ∀ i, i < len → ∃ e : Ev, (∀ j v, e.cells[j]? = some v → W.cell? (a.add (i * 18 + j)) = some v) ∧ e.Fits ∧ e.lst.length = e.ln ∧ ERd W e.la e.lst := by
    intro i hlt
    obtain ⟨cs', hc, ht'⟩ := hi i (by rw [hmm]; split <;> omega)
    rw [cells_event] at hc
    obtain ⟨e, he, h1, h2, h3⟩ := event_trod ht'
    obtain ⟨_, hlen, hat⟩ := World.cells?_some hc
    refine ⟨e, fun j v hv => ?_, h1, h2, h3⟩
    have hj : j < 18 := (List.getElem?_eq_some_iff.1 hv).1
    have := hat j hj
    rw [Go.Deep.add_add] at this
    rw [this, he, hv]
   let f : Nat → Ev := fun i => if h : i < len then Classical.choose (hall i h) else zEv
   have hspec : ∀ i, (h : i < len) → (∀ j v, (f i).cells[j]? = some v → W.cell? (a.add (i * 18 + j)) = some v) ∧ (f i).Fits ∧ (f i).lst.length = (f i).ln ∧ ERd W (f i).la (f i).lst := by
    intro i h
    have := Classical.choose_spec (hall i h)
    simp only [f, dif_pos h]
    exact this
   refine ⟨_, _, _, (List.range len).map f, rfl, hl, hm, by simp, fun hpos => ?_, fun e he => ?_, fun e he => ?_⟩
   · have hlen : 0 < len := by
      rcases Nat.eq_zero_or_pos len with h | h
      · subst h
        exact absurd rfl hpos
      · exact h
     have h0 := (hspec 0 hlen).1 0 _ rfl
     have hb : ∃ b o, a = ⟨b, o, none⟩ ∧ b < W.heap.size := by
      obtain ⟨b, o, h1, h2⟩ := addr_flat h0
      obtain ⟨ab, ao, asp⟩ := a
      simp only [Addr.add] at h1
      obtain ⟨rfl, _, rfl⟩ := h1
      exact ⟨_, _, rfl, h2⟩
     obtain ⟨b, o, rfl, hlt⟩ := hb
     refine ⟨b, o, rfl, hlt, fun k s hk j v hv => ?_⟩
     rw [List.getElem?_map] at hk
     have hkl : k < len := by
      by_cases h : k < len
      · exact h
      · rw [List.getElem?_eq_none (by simpa using h)] at hk; cases hk
     rw [List.getElem?_range hkl] at hk
     simp only [Option.map_some, Option.some.injEq] at hk
     subst hk
     have := (hspec k hkl).1 j v hv
     simp only [add_flat, ← Nat.add_assoc] at this
     exact this
   · obtain ⟨i, hi, rfl⟩ := List.mem_map.1 he
     exact (hspec i (by simpa using hi)).2.2
   · obtain ⟨i, hi, rfl⟩ := List.mem_map.1 he
     exact (hspec i (by simpa using hi)).2.1
end
end Go.Proofs.YtpcnolkdnmolgaaGreatDoor
