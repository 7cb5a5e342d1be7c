/- A step, of both trees, walked. -/
import Derived.Test.YtpcjbfhgmcioaaaGreatTA
namespace Go.Proofs.YtpcjbfhgmcioaaaGreat
open Go.RowKit Go.Maps

theorem D.t_Hold (P G : Nat) (t : D.Tr) (ino : Int) (w : World) (h : D.TreeAt w P G t) (h0 : 0 ≤ ino) (hh : 0 ≤ (D.ndAt t ino).held ∧ (D.ndAt t ino).held ≤ 1000000) (r : Int) (t' : D.Tr) (hr : D.holdR t ino = (r, t')) :
    Calls Tryz.prog 59 #[.pointer (some ⟨P, 0, none⟩), .int .u32 ino] w fun e w' => e = .returned (.int .i64 r) ∧ D.TreeAt w' P G t' ∧ w.grownBy w' (some G) := by
  unfold D.holdR at hr
  by_cases hf : D.fileE t ino = 0
  · rw [if_neg (by omega)] at hr
    injection hr with e1 e2
    subst e1
    subst e2
    exact D.t_hold_ok P G t ino w h h0 hf hh
  · rw [if_pos hf] at hr
    injection hr with e1 e2
    subst e2
    refine (D.t_hold_no P G t ino r w h h0 e1 (by rw [← e1]; simpa using hf)).mono ?_
    rintro e w' ⟨rfl, rfl⟩
    exact ⟨rfl, h, D.grown_of_below (Below.refl _ _)⟩
section
variable {k : Nat} {t : PT} {r : D.Tr} {w W : World} {P N P2 G2 : Nat}
theorem Sim.least (h : Sim t r) (hw : WellP t) {m : Int} (hm : Least t m) : 1 ≤ m ∧ D.thereB r m = false ∧ ∀ j : Int, 1 ≤ j → j < m → D.thereB r j = true :=
  ⟨hm.1, by rw [h.there hw, hm.2.2.1]; rfl, fun j h1 h2 => by rw [h.there hw]; exact hm.2.2.2 j h1 h2⟩
def DoesPost (w : World) (P N P2 G2 : Nat) (t : PT) (r : D.Tr) (s : PStep) (e : Ending) (w' : World) : Prop := e = .returned (.bool true) ∧ Mem w w' P (N + 2) P2 G2 (playP t s).2 (playD r s (leastI t)).2
def jT (t t' : PT) : Nat → PT
  | 0 => t
  | _ + 1 => t'
def jR (r r' : D.Tr) : Nat → D.Tr
  | 0 => r
  | 1 => r
  | _ + 2 => r'
def jN (N : Nat) : Nat → Nat
  | 0 => N
  | _ + 1 => N + 2
set_option maxRecDepth 100000 in
set_option maxHeartbeats 8000000 in
theorem t_does0 (s : PStep) (hs : s.what = 0) (hf : StepFits s) (h : Mem w W P N P2 G2 t r) (hp : Pl k t r) (hk : k ≤ 1000) (hN : N < 900000) :
    Calls Tryz.prog 16 #[.pointer (some ⟨P, 0, none⟩), .pointer (some ⟨P2, 0, none⟩), stepV s] W (DoesPost w P N P2 G2 t r s) := by
  have hM := h.below (u_alloc1 W (.cells (stepO s) 33))
  have hST : (W.alloc (.cells (stepO s) 33)).heap[W.heap.size]? = some (.cells (stepO s) 33 (0, 0)) := World.alloc_heap_new W _
  obtain ⟨⟨⟨a, b⟩, t2⟩, hq⟩ : ∃ q, makeP t s.dir s.name s.kind (leastI t) = q := ⟨_, rfl⟩
  obtain ⟨⟨⟨a2, b2⟩, r2⟩, hq2⟩ : ∃ q, D.makeD r s.dir s.name s.kind (leastI t) = q := ⟨_, rfl⟩
  have hsim := (hp.sim.make hp.well s.dir s.name s.kind hp.well.leastI_).1
  rw [hq, hq2] at hsim
  obtain ⟨rfl, rfl⟩ : a2 = a ∧ b2 = b := by simpa using hsim
  obtain ⟨m1, m2, m3⟩ := hp.sim.least hp.well hp.well.leastI_
  clear hsim
  have HE : Hid ((playP t s).2 = t2 ∧ (playD r s (leastI t)).2 = r2) := by
    constructor
    · unfold playP
      simp [hs, hq]
    · unfold playD
      simp [hs, hq2]
  have HC1 := Lib.hid (hM.P_ (N' := N + 2) (t' := t2) (Q := fun e => e = .returned (.tuple #[.int .u32 a2, .int .i64 b2])) fun y F hT => t_makeP s.dir s.name s.kind (leastI t) a2 b2 t2 hp.well.leastI_ hq _ hT hN hf.dir hf.name)
  have HC2 : Hid (∀ W2, Mem w W2 P (N + 2) P2 G2 t2 r → Calls Tryz.prog 51 #[.pointer (some ⟨P2, 0, none⟩), .int .u32 s.dir, .string s.name, .int .u8 s.kind] W2 fun e w' => e = .returned (.tuple #[.int .u32 a2, .int .i64 b2]) ∧ Mem w w' P (N + 2) P2 G2 t2 r2 ∧ Kept W2 w') := fun W2 hM2 => hM2.D_ (r' := r2) (Q := fun e => e = .returned (.tuple #[.int .u32 a2, .int .i64 b2])) fun hD => D.t_Make P2 G2 r s.dir s.name s.kind (leastI t) W2 hD hf.dir.1 hf.name (hp.small (by omega)) m1 m2 m3 a2 b2 r2 hq2
  have HST := Lib.hid hST
  have e0 := hs
  unfold stepV stepO at *
  rw [hs] at HC1 HST ⊢
  clear hq hq2 hM hST h hp hf hs e0
  go_enter Tryz.func16, Tryz.ntmps16
  go_wp2_with (first
    | (go_at_call 12; (with_reducible refine HC1.out.mono ?_); rintro e w1 ⟨rfl, hm, hkp⟩; have HM1 := Lib.hid hm; have H1 := Lib.hid (step_kept hkp HST.out); have k1 := cell_of (j := 1) (v := .int .u32 s.dir) H1.out rfl; have k3 := cell_of (j := 3) (v := .string s.name) H1.out rfl; have k5 := cell_of (j := 5) (v := .int .u8 s.kind) H1.out rfl; clear hm hkp)
    | (go_at_call 51; (with_reducible refine (HC2.out _ HM1.out).mono ?_); rintro e w2 ⟨rfl, hm, hkp⟩; have HM2 := Lib.hid hm; clear hm hkp))
  go_ret
  exact ⟨rfl, by rw [HE.out.1, HE.out.2]; exact HM2.out⟩
set_option maxRecDepth 100000 in
set_option maxHeartbeats 8000000 in
theorem t_does1 (s : PStep) (hs : s.what = 1) (hf : StepFits s) (h : Mem w W P N P2 G2 t r) (hp : Pl k t r) (hk : k ≤ 1000) (hN : N < 900000) :
    Calls Tryz.prog 16 #[.pointer (some ⟨P, 0, none⟩), .pointer (some ⟨P2, 0, none⟩), stepV s] W (DoesPost w P N P2 G2 t r s) := by
  have hM := h.below (u_alloc1 W (.cells (stepO s) 33))
  have hST : (W.alloc (.cells (stepO s) 33)).heap[W.heap.size]? = some (.cells (stepO s) 33 (0, 0)) := World.alloc_heap_new W _
  obtain ⟨⟨a, t2⟩, hq⟩ : ∃ q, makeAtP t s.dir s.name s.kind s.ino = q := ⟨_, rfl⟩
  obtain ⟨⟨a2, r2⟩, hq2⟩ : ∃ q, D.makeR r s.dir s.name s.kind s.ino = q := ⟨_, rfl⟩
  have hsim := hp.sim.makeAt hp.well s.dir s.name s.kind s.ino
  rw [hq, hq2] at hsim
  obtain rfl : a2 = a := hsim.1
  clear hsim
  have HE : Hid ((playP t s).2 = t2 ∧ (playD r s (leastI t)).2 = r2) := by
    constructor
    · unfold playP
      simp [hs, hq]
    · unfold playD
      simp [hs, hq2]
  have HC1 : Hid (∀ W2, Mem w W2 P N P2 G2 t r → Calls Tryz.prog 30 #[.pointer (some ⟨P, 0, none⟩), .int .u32 s.dir, .string s.name, .int .u8 s.kind, .int .u32 s.ino] W2 fun e w' => e = .returned (.int .i64 a2) ∧ Mem w w' P (N + 2) P2 G2 t2 r ∧ Kept W2 w') := fun W2 hM2 => hM2.P_ (N' := N + 2) (t' := t2) (Q := fun e => e = .returned (.int .i64 a2)) fun y F hT => t_makeAt s.dir s.name s.kind s.ino a2 t2 hq _ hT hN hf.dir hf.ino hf.name
  have HC2 : Hid (∀ W2, Mem w W2 P (N + 2) P2 G2 t2 r → Calls Tryz.prog 52 #[.pointer (some ⟨P2, 0, none⟩), .int .u32 s.dir, .string s.name, .int .u8 s.kind, .int .u32 s.ino] W2 fun e w' => e = .returned (.int .i64 a2) ∧ Mem w w' P (N + 2) P2 G2 t2 r2 ∧ Kept W2 w') := fun W2 hM2 => hM2.D_ (r' := r2) (Q := fun e => e = .returned (.int .i64 a2)) fun hD => D.t_make P2 G2 r s.dir s.name s.kind s.ino W2 hD hf.dir.1 hf.name (hp.small (by omega)) a2 r2 hq2
  have HST := Lib.hid hST
  have HM := Lib.hid hM
  have HS := Lib.hid hs
  unfold stepV stepO at *
  rw [hs] at HST HM ⊢
  clear hq hq2 hM hST h hp hf hs
  go_enter Tryz.func16, Tryz.ntmps16
  go_wp2
  refine wp_region_st (fun n W' => Mem w W' P (jN N n) P2 G2 (jT t t2 n) (jR r r2 n) ∧ W'.heap[W.heap.size]? = some (.cells #[.int .i64 1, .int .u32 s.dir, .int .u32 s.ino, .string s.name, .string s.toN, .int .u8 s.kind, .int .i64 s.n, .string s.data] 33 (0, 0))) RelB (fun _ _ => True) [9, 19] (phi [isV (.pointer (some ⟨P, 0, none⟩)), isV (.pointer (some ⟨W.heap.size, 1, none⟩)), isV (.int .u32 s.dir), isV (.pointer (some ⟨W.heap.size, 3, none⟩)), isV (.string s.name), isV (.pointer (some ⟨W.heap.size, 5, none⟩)), isV (.int .u8 s.kind), isV (.pointer (some ⟨W.heap.size, 2, none⟩)), isV (.int .u32 s.ino), isV (.int .i64 a2), isV (.pointer (some ⟨P2, 0, none⟩)), isV (.pointer (some ⟨W.heap.size, 1, none⟩)), isV (.int .u32 s.dir), isV (.pointer (some ⟨W.heap.size, 3, none⟩)), isV (.string s.name), isV (.pointer (some ⟨W.heap.size, 5, none⟩)), isV (.int .u8 s.kind), isV (.pointer (some ⟨W.heap.size, 2, none⟩)), isV (.int .u32 s.ino), isV (.int .i64 a2), isV (.bool true), isV (.bool true)]) (by kernel_rfl) (by kernel_rfl) (by kernel_rfl) (by kernel_rfl) (by kernel_rfl) ⟨HM.out.below (below_drew _), step_kept (Kept.below (below_drew _)) HST.out⟩ (fun k W W' hj hb => ⟨hj.1.below hb, step_kept (Kept.below hb) hj.2⟩) (fun _ _ _ => trivial) ?_ ?_ ?_
  · refine stays_phiR ?_
    simp only [List.forall_mem_cons]
    exact ⟨fun _ _ _ h _ => h, fun _ _ _ h _ => h, fun _ _ _ h _ => h, fun _ _ _ h _ => h, fun _ _ _ h _ => h, fun _ _ _ h _ => h, fun _ _ _ h _ => h, fun _ _ _ h _ => h, fun _ _ _ h _ => h, fun _ _ _ h _ => h, fun _ _ _ h _ => h, fun _ _ _ h _ => h, fun _ _ _ h _ => h, fun _ _ _ h _ => h, fun _ _ _ h _ => h, fun _ _ _ h _ => h, fun _ _ _ h _ => h, fun _ _ _ h _ => h, fun _ _ _ h _ => h, fun _ _ _ h _ => h, fun _ _ _ h _ => h, fun _ _ _ h _ => h, fun _ h => absurd h (by simp)⟩
  · refine ⟨?_, ?_, ?_, ?_, ?_, ?_, ?_, ?_, ?_, ?_, ?_, ?_, ?_, ?_, ?_, ?_, ?_, ?_, ?_, ?_, ?_, ?_, trivial⟩
    · refine opS_mk rfl rfl fun aa W2 nJ hJ hp hq K hK => ?_
      have e0 : aa.tmps[0]?.getD undef = .pointer (some ⟨P, 0, none⟩) := hp 0 (by kernel_rfl)
      clear hp hq
      clear hJ
      go_simp
      exact hK _ _ (RelB.refl _) rfl
    · refine opS_mk rfl rfl fun aa W2 nJ hJ hp hq K hK => ?_
      have e5 : aa.tmps[5]?.getD undef = .pointer (some ⟨W.heap.size, 0, none⟩) := hp 5 (by kernel_rfl)
      clear hp hq
      clear hJ
      go_simp
      exact hK _ _ (RelB.refl _) rfl
    · refine opS_mk rfl rfl fun aa W2 nJ hJ hp hq K hK => ?_
      have e56 : aa.tmps[56]?.getD undef = .pointer (some ⟨W.heap.size, 1, none⟩) := hq 1 _ (by kernel_rfl) rfl
      have cc := cell_of (j := 1) (v := .int .u32 s.dir) hJ.2 rfl
      clear hp hq
      clear hJ
      go_simp
      exact hK _ _ (RelB.refl _) rfl
    · refine opS_mk rfl rfl fun aa W2 nJ hJ hp hq K hK => ?_
      have e5 : aa.tmps[5]?.getD undef = .pointer (some ⟨W.heap.size, 0, none⟩) := hp 5 (by kernel_rfl)
      clear hp hq
      clear hJ
      go_simp
      exact hK _ _ (RelB.refl _) rfl
    · refine opS_mk rfl rfl fun aa W2 nJ hJ hp hq K hK => ?_
      have e58 : aa.tmps[58]?.getD undef = .pointer (some ⟨W.heap.size, 3, none⟩) := hq 3 _ (by kernel_rfl) rfl
      have cc := cell_of (j := 3) (v := .string s.name) hJ.2 rfl
      clear hp hq
      clear hJ
      go_simp
      exact hK _ _ (RelB.refl _) rfl
    · refine opS_mk rfl rfl fun aa W2 nJ hJ hp hq K hK => ?_
      have e5 : aa.tmps[5]?.getD undef = .pointer (some ⟨W.heap.size, 0, none⟩) := hp 5 (by kernel_rfl)
      clear hp hq
      clear hJ
      go_simp
      exact hK _ _ (RelB.refl _) rfl
    · refine opS_mk rfl rfl fun aa W2 nJ hJ hp hq K hK => ?_
      have e60 : aa.tmps[60]?.getD undef = .pointer (some ⟨W.heap.size, 5, none⟩) := hq 5 _ (by kernel_rfl) rfl
      have cc := cell_of (j := 5) (v := .int .u8 s.kind) hJ.2 rfl
      clear hp hq
      clear hJ
      go_simp
      exact hK _ _ (RelB.refl _) rfl
    · refine opS_mk rfl rfl fun aa W2 nJ hJ hp hq K hK => ?_
      have e5 : aa.tmps[5]?.getD undef = .pointer (some ⟨W.heap.size, 0, none⟩) := hp 5 (by kernel_rfl)
      clear hp hq
      clear hJ
      go_simp
      exact hK _ _ (RelB.refl _) rfl
    · refine opS_mk rfl rfl fun aa W2 nJ hJ hp hq K hK => ?_
      have e62 : aa.tmps[62]?.getD undef = .pointer (some ⟨W.heap.size, 2, none⟩) := hq 7 _ (by kernel_rfl) rfl
      have cc := cell_of (j := 2) (v := .int .u32 s.ino) hJ.2 rfl
      clear hp hq
      clear hJ
      go_simp
      exact hK _ _ (RelB.refl _) rfl
    · refine opS_at (m := 0) rfl rfl fun aa W2 hJ hp hq K hK => ?_
      have e55 : aa.tmps[55]?.getD undef = .pointer (some ⟨P, 0, none⟩) := hq 0 _ (by kernel_rfl) rfl
      have e57 : aa.tmps[57]?.getD undef = .int .u32 s.dir := hq 2 _ (by kernel_rfl) rfl
      have e59 : aa.tmps[59]?.getD undef = .string s.name := hq 4 _ (by kernel_rfl) rfl
      have e61 : aa.tmps[61]?.getD undef = .int .u8 s.kind := hq 6 _ (by kernel_rfl) rfl
      have e63 : aa.tmps[63]?.getD undef = .int .u32 s.ino := hq 8 _ (by kernel_rfl) rfl
      have HJ := Lib.hid hJ
      clear hJ
      clear hp hq
      go_simp
      refine (HC1.out W2 HJ.out.1).mono ?_
      rintro e w3 ⟨rfl, h3, h4⟩
      exact hK _ _ trivial ⟨h3, step_kept h4 HJ.out.2⟩ rfl
    · refine opS_mk rfl rfl fun aa W2 nJ hJ hp hq K hK => ?_
      have e1 : aa.tmps[1]?.getD undef = .pointer (some ⟨P2, 0, none⟩) := hp 1 (by kernel_rfl)
      clear hp hq
      clear hJ
      go_simp
      exact hK _ _ (RelB.refl _) rfl
    · refine opS_mk rfl rfl fun aa W2 nJ hJ hp hq K hK => ?_
      have e5 : aa.tmps[5]?.getD undef = .pointer (some ⟨W.heap.size, 0, none⟩) := hp 5 (by kernel_rfl)
      clear hp hq
      clear hJ
      go_simp
      exact hK _ _ (RelB.refl _) rfl
    · refine opS_mk rfl rfl fun aa W2 nJ hJ hp hq K hK => ?_
      have e66 : aa.tmps[66]?.getD undef = .pointer (some ⟨W.heap.size, 1, none⟩) := hq 11 _ (by kernel_rfl) rfl
      have cc := cell_of (j := 1) (v := .int .u32 s.dir) hJ.2 rfl
      clear hp hq
      clear hJ
      go_simp
      exact hK _ _ (RelB.refl _) rfl
    · refine opS_mk rfl rfl fun aa W2 nJ hJ hp hq K hK => ?_
      have e5 : aa.tmps[5]?.getD undef = .pointer (some ⟨W.heap.size, 0, none⟩) := hp 5 (by kernel_rfl)
      clear hp hq
      clear hJ
      go_simp
      exact hK _ _ (RelB.refl _) rfl
    · refine opS_mk rfl rfl fun aa W2 nJ hJ hp hq K hK => ?_
      have e68 : aa.tmps[68]?.getD undef = .pointer (some ⟨W.heap.size, 3, none⟩) := hq 13 _ (by kernel_rfl) rfl
      have cc := cell_of (j := 3) (v := .string s.name) hJ.2 rfl
      clear hp hq
      clear hJ
      go_simp
      exact hK _ _ (RelB.refl _) rfl
    · refine opS_mk rfl rfl fun aa W2 nJ hJ hp hq K hK => ?_
      have e5 : aa.tmps[5]?.getD undef = .pointer (some ⟨W.heap.size, 0, none⟩) := hp 5 (by kernel_rfl)
      clear hp hq
      clear hJ
      go_simp
      exact hK _ _ (RelB.refl _) rfl
    · refine opS_mk rfl rfl fun aa W2 nJ hJ hp hq K hK => ?_
      have e70 : aa.tmps[70]?.getD undef = .pointer (some ⟨W.heap.size, 5, none⟩) := hq 15 _ (by kernel_rfl) rfl
      have cc := cell_of (j := 5) (v := .int .u8 s.kind) hJ.2 rfl
      clear hp hq
      clear hJ
      go_simp
      exact hK _ _ (RelB.refl _) rfl
    · refine opS_mk rfl rfl fun aa W2 nJ hJ hp hq K hK => ?_
      have e5 : aa.tmps[5]?.getD undef = .pointer (some ⟨W.heap.size, 0, none⟩) := hp 5 (by kernel_rfl)
      clear hp hq
      clear hJ
      go_simp
      exact hK _ _ (RelB.refl _) rfl
    · refine opS_mk rfl rfl fun aa W2 nJ hJ hp hq K hK => ?_
      have e72 : aa.tmps[72]?.getD undef = .pointer (some ⟨W.heap.size, 2, none⟩) := hq 17 _ (by kernel_rfl) rfl
      have cc := cell_of (j := 2) (v := .int .u32 s.ino) hJ.2 rfl
      clear hp hq
      clear hJ
      go_simp
      exact hK _ _ (RelB.refl _) rfl
    · refine opS_at (m := 1) rfl rfl fun aa W2 hJ hp hq K hK => ?_
      have e65 : aa.tmps[65]?.getD undef = .pointer (some ⟨P2, 0, none⟩) := hq 10 _ (by kernel_rfl) rfl
      have e67 : aa.tmps[67]?.getD undef = .int .u32 s.dir := hq 12 _ (by kernel_rfl) rfl
      have e69 : aa.tmps[69]?.getD undef = .string s.name := hq 14 _ (by kernel_rfl) rfl
      have e71 : aa.tmps[71]?.getD undef = .int .u8 s.kind := hq 16 _ (by kernel_rfl) rfl
      have e73 : aa.tmps[73]?.getD undef = .int .u32 s.ino := hq 18 _ (by kernel_rfl) rfl
      have HJ := Lib.hid hJ
      clear hJ
      clear hp hq
      go_simp
      refine (HC2.out W2 HJ.out.1).mono ?_
      rintro e w3 ⟨rfl, h3, h4⟩
      exact hK _ _ trivial ⟨h3, step_kept h4 HJ.out.2⟩ rfl
    · refine opS_mk rfl rfl fun aa W2 nJ hJ hp hq K hK => ?_
      have e64 : aa.tmps[64]?.getD undef = .int .i64 a2 := hq 9 _ (by kernel_rfl) rfl
      have e74 : aa.tmps[74]?.getD undef = .int .i64 a2 := hq 19 _ (by kernel_rfl) rfl
      clear hp hq
      clear hJ
      go_simp
      exact hK _ _ (RelB.refl _) (by first | rfl | exact congrArg Value.bool (decide_eq_true rfl))
    · refine opS_mk rfl rfl fun aa W2 nJ hJ hp hq K hK => ?_
      have e75 : aa.tmps[75]?.getD undef = .bool true := hq 20 _ (by kernel_rfl) rfl
      clear hp hq
      clear hJ
      go_simp
      exact hK _ _ (RelB.refl _) rfl
  · intro vs W9 hJ9 hv9 _
    have HM2 : Hid (Mem w W9 P (N + 2) P2 G2 t2 r2) := hJ9.1
    have v21 : vs 21 = .bool true := hv9 21 _ rfl rfl
    clear hJ9 hv9
    simp only [putAll, Act.put, List.setIfInBounds_toArray, List.set_cons_succ, List.set_cons_zero, Nat.zero_add, Nat.reduceAdd, v21]
    go_wp2
    go_ret
    exact ⟨rfl, by rw [HE.out.1, HE.out.2]; exact HM2.out⟩
set_option maxRecDepth 100000 in
set_option maxHeartbeats 8000000 in
theorem t_does2 (s : PStep) (hs : s.what = 2) (hf : StepFits s) (h : Mem w W P N P2 G2 t r) (hp : Pl k t r) (hk : k ≤ 1000) (hN : N < 900000) :
    Calls Tryz.prog 16 #[.pointer (some ⟨P, 0, none⟩), .pointer (some ⟨P2, 0, none⟩), stepV s] W (DoesPost w P N P2 G2 t r s) := by
  have hM := h.below (u_alloc1 W (.cells (stepO s) 33))
  have hST : (W.alloc (.cells (stepO s) 33)).heap[W.heap.size]? = some (.cells (stepO s) 33 (0, 0)) := World.alloc_heap_new W _
  obtain ⟨⟨a, t2⟩, hq⟩ : ∃ q, linkP t s.dir s.name s.ino = q := ⟨_, rfl⟩
  obtain ⟨⟨a2, r2⟩, hq2⟩ : ∃ q, D.linkR r s.dir s.name s.ino = q := ⟨_, rfl⟩
  have hsim := hp.sim.link hp.well s.dir s.name s.ino
  rw [hq, hq2] at hsim
  obtain rfl : a2 = a := hsim.1
  clear hsim
  have HE : Hid ((playP t s).2 = t2 ∧ (playD r s (leastI t)).2 = r2) := by
    constructor
    · unfold playP
      simp [hs, hq]
    · unfold playD
      simp [hs, hq2]
  have HC1 : Hid (∀ W2, Mem w W2 P N P2 G2 t r → Calls Tryz.prog 25 #[.pointer (some ⟨P, 0, none⟩), .int .u32 s.dir, .string s.name, .int .u32 s.ino] W2 fun e w' => e = .returned (.int .i64 a2) ∧ Mem w w' P (N + 2) P2 G2 t2 r ∧ Kept W2 w') := fun W2 hM2 => hM2.P_ (N' := N + 2) (t' := t2) (Q := fun e => e = .returned (.int .i64 a2)) fun y F hT => (t_linkP s.dir s.name s.ino a2 t2 hq _ hT hN hf.dir hf.ino hf.name hp.well.most).mono fun e w' hh => ⟨hh.1, hh.2.mono (by omega)⟩
  have HC2 : Hid (∀ W2, Mem w W2 P (N + 2) P2 G2 t2 r → Calls Tryz.prog 53 #[.pointer (some ⟨P2, 0, none⟩), .int .u32 s.dir, .string s.name, .int .u32 s.ino] W2 fun e w' => e = .returned (.int .i64 a2) ∧ Mem w w' P (N + 2) P2 G2 t2 r2 ∧ Kept W2 w') := fun W2 hM2 => hM2.D_ (r' := r2) (Q := fun e => e = .returned (.int .i64 a2)) fun hD => D.t_link P2 G2 r s.dir s.name s.ino W2 hD hf.dir.1 hf.ino.1 hf.name (hp.small (by omega)) a2 r2 hq2
  have HST := Lib.hid hST
  have HM := Lib.hid hM
  have HS := Lib.hid hs
  unfold stepV stepO at *
  rw [hs] at HST HM ⊢
  clear hq hq2 hM hST h hp hf hs
  go_enter Tryz.func16, Tryz.ntmps16
  go_wp2
  refine wp_region_st (fun n W' => Mem w W' P (jN N n) P2 G2 (jT t t2 n) (jR r r2 n) ∧ W'.heap[W.heap.size]? = some (.cells #[.int .i64 2, .int .u32 s.dir, .int .u32 s.ino, .string s.name, .string s.toN, .int .u8 s.kind, .int .i64 s.n, .string s.data] 33 (0, 0))) RelB (fun _ _ => True) [7, 15] (phi [isV (.pointer (some ⟨P, 0, none⟩)), isV (.pointer (some ⟨W.heap.size, 1, none⟩)), isV (.int .u32 s.dir), isV (.pointer (some ⟨W.heap.size, 3, none⟩)), isV (.string s.name), isV (.pointer (some ⟨W.heap.size, 2, none⟩)), isV (.int .u32 s.ino), isV (.int .i64 a2), isV (.pointer (some ⟨P2, 0, none⟩)), isV (.pointer (some ⟨W.heap.size, 1, none⟩)), isV (.int .u32 s.dir), isV (.pointer (some ⟨W.heap.size, 3, none⟩)), isV (.string s.name), isV (.pointer (some ⟨W.heap.size, 2, none⟩)), isV (.int .u32 s.ino), isV (.int .i64 a2), isV (.bool true), isV (.bool true)]) (by kernel_rfl) (by kernel_rfl) (by kernel_rfl) (by kernel_rfl) (by kernel_rfl) ⟨HM.out.below (below_drew _), step_kept (Kept.below (below_drew _)) HST.out⟩ (fun k W W' hj hb => ⟨hj.1.below hb, step_kept (Kept.below hb) hj.2⟩) (fun _ _ _ => trivial) ?_ ?_ ?_
  · refine stays_phiR ?_
    simp only [List.forall_mem_cons]
    exact ⟨fun _ _ _ h _ => h, fun _ _ _ h _ => h, fun _ _ _ h _ => h, fun _ _ _ h _ => h, fun _ _ _ h _ => h, fun _ _ _ h _ => h, fun _ _ _ h _ => h, fun _ _ _ h _ => h, fun _ _ _ h _ => h, fun _ _ _ h _ => h, fun _ _ _ h _ => h, fun _ _ _ h _ => h, fun _ _ _ h _ => h, fun _ _ _ h _ => h, fun _ _ _ h _ => h, fun _ _ _ h _ => h, fun _ _ _ h _ => h, fun _ _ _ h _ => h, fun _ h => absurd h (by simp)⟩
  · refine ⟨?_, ?_, ?_, ?_, ?_, ?_, ?_, ?_, ?_, ?_, ?_, ?_, ?_, ?_, ?_, ?_, ?_, ?_, trivial⟩
    · refine opS_mk rfl rfl fun aa W2 nJ hJ hp hq K hK => ?_
      have e0 : aa.tmps[0]?.getD undef = .pointer (some ⟨P, 0, none⟩) := hp 0 (by kernel_rfl)
      clear hp hq
      clear hJ
      go_simp
      exact hK _ _ (RelB.refl _) rfl
    · refine opS_mk rfl rfl fun aa W2 nJ hJ hp hq K hK => ?_
      have e5 : aa.tmps[5]?.getD undef = .pointer (some ⟨W.heap.size, 0, none⟩) := hp 5 (by kernel_rfl)
      clear hp hq
      clear hJ
      go_simp
      exact hK _ _ (RelB.refl _) rfl
    · refine opS_mk rfl rfl fun aa W2 nJ hJ hp hq K hK => ?_
      have e79 : aa.tmps[79]?.getD undef = .pointer (some ⟨W.heap.size, 1, none⟩) := hq 1 _ (by kernel_rfl) rfl
      have cc := cell_of (j := 1) (v := .int .u32 s.dir) hJ.2 rfl
      clear hp hq
      clear hJ
      go_simp
      exact hK _ _ (RelB.refl _) rfl
    · refine opS_mk rfl rfl fun aa W2 nJ hJ hp hq K hK => ?_
      have e5 : aa.tmps[5]?.getD undef = .pointer (some ⟨W.heap.size, 0, none⟩) := hp 5 (by kernel_rfl)
      clear hp hq
      clear hJ
      go_simp
      exact hK _ _ (RelB.refl _) rfl
    · refine opS_mk rfl rfl fun aa W2 nJ hJ hp hq K hK => ?_
      have e81 : aa.tmps[81]?.getD undef = .pointer (some ⟨W.heap.size, 3, none⟩) := hq 3 _ (by kernel_rfl) rfl
      have cc := cell_of (j := 3) (v := .string s.name) hJ.2 rfl
      clear hp hq
      clear hJ
      go_simp
      exact hK _ _ (RelB.refl _) rfl
    · refine opS_mk rfl rfl fun aa W2 nJ hJ hp hq K hK => ?_
      have e5 : aa.tmps[5]?.getD undef = .pointer (some ⟨W.heap.size, 0, none⟩) := hp 5 (by kernel_rfl)
      clear hp hq
      clear hJ
      go_simp
      exact hK _ _ (RelB.refl _) rfl
    · refine opS_mk rfl rfl fun aa W2 nJ hJ hp hq K hK => ?_
      have e83 : aa.tmps[83]?.getD undef = .pointer (some ⟨W.heap.size, 2, none⟩) := hq 5 _ (by kernel_rfl) rfl
      have cc := cell_of (j := 2) (v := .int .u32 s.ino) hJ.2 rfl
      clear hp hq
      clear hJ
      go_simp
      exact hK _ _ (RelB.refl _) rfl
    · refine opS_at (m := 0) rfl rfl fun aa W2 hJ hp hq K hK => ?_
      have e78 : aa.tmps[78]?.getD undef = .pointer (some ⟨P, 0, none⟩) := hq 0 _ (by kernel_rfl) rfl
      have e80 : aa.tmps[80]?.getD undef = .int .u32 s.dir := hq 2 _ (by kernel_rfl) rfl
      have e82 : aa.tmps[82]?.getD undef = .string s.name := hq 4 _ (by kernel_rfl) rfl
      have e84 : aa.tmps[84]?.getD undef = .int .u32 s.ino := hq 6 _ (by kernel_rfl) rfl
      have HJ := Lib.hid hJ
      clear hJ
      clear hp hq
      go_simp
      refine (HC1.out W2 HJ.out.1).mono ?_
      rintro e w3 ⟨rfl, h3, h4⟩
      exact hK _ _ trivial ⟨h3, step_kept h4 HJ.out.2⟩ rfl
    · refine opS_mk rfl rfl fun aa W2 nJ hJ hp hq K hK => ?_
      have e1 : aa.tmps[1]?.getD undef = .pointer (some ⟨P2, 0, none⟩) := hp 1 (by kernel_rfl)
      clear hp hq
      clear hJ
      go_simp
      exact hK _ _ (RelB.refl _) rfl
    · refine opS_mk rfl rfl fun aa W2 nJ hJ hp hq K hK => ?_
      have e5 : aa.tmps[5]?.getD undef = .pointer (some ⟨W.heap.size, 0, none⟩) := hp 5 (by kernel_rfl)
      clear hp hq
      clear hJ
      go_simp
      exact hK _ _ (RelB.refl _) rfl
    · refine opS_mk rfl rfl fun aa W2 nJ hJ hp hq K hK => ?_
      have e87 : aa.tmps[87]?.getD undef = .pointer (some ⟨W.heap.size, 1, none⟩) := hq 9 _ (by kernel_rfl) rfl
      have cc := cell_of (j := 1) (v := .int .u32 s.dir) hJ.2 rfl
      clear hp hq
      clear hJ
      go_simp
      exact hK _ _ (RelB.refl _) rfl
    · refine opS_mk rfl rfl fun aa W2 nJ hJ hp hq K hK => ?_
      have e5 : aa.tmps[5]?.getD undef = .pointer (some ⟨W.heap.size, 0, none⟩) := hp 5 (by kernel_rfl)
      clear hp hq
      clear hJ
      go_simp
      exact hK _ _ (RelB.refl _) rfl
    · refine opS_mk rfl rfl fun aa W2 nJ hJ hp hq K hK => ?_
      have e89 : aa.tmps[89]?.getD undef = .pointer (some ⟨W.heap.size, 3, none⟩) := hq 11 _ (by kernel_rfl) rfl
      have cc := cell_of (j := 3) (v := .string s.name) hJ.2 rfl
      clear hp hq
      clear hJ
      go_simp
      exact hK _ _ (RelB.refl _) rfl
    · refine opS_mk rfl rfl fun aa W2 nJ hJ hp hq K hK => ?_
      have e5 : aa.tmps[5]?.getD undef = .pointer (some ⟨W.heap.size, 0, none⟩) := hp 5 (by kernel_rfl)
      clear hp hq
      clear hJ
      go_simp
      exact hK _ _ (RelB.refl _) rfl
    · refine opS_mk rfl rfl fun aa W2 nJ hJ hp hq K hK => ?_
      have e91 : aa.tmps[91]?.getD undef = .pointer (some ⟨W.heap.size, 2, none⟩) := hq 13 _ (by kernel_rfl) rfl
      have cc := cell_of (j := 2) (v := .int .u32 s.ino) hJ.2 rfl
      clear hp hq
      clear hJ
      go_simp
      exact hK _ _ (RelB.refl _) rfl
    · refine opS_at (m := 1) rfl rfl fun aa W2 hJ hp hq K hK => ?_
      have e86 : aa.tmps[86]?.getD undef = .pointer (some ⟨P2, 0, none⟩) := hq 8 _ (by kernel_rfl) rfl
      have e88 : aa.tmps[88]?.getD undef = .int .u32 s.dir := hq 10 _ (by kernel_rfl) rfl
      have e90 : aa.tmps[90]?.getD undef = .string s.name := hq 12 _ (by kernel_rfl) rfl
      have e92 : aa.tmps[92]?.getD undef = .int .u32 s.ino := hq 14 _ (by kernel_rfl) rfl
      have HJ := Lib.hid hJ
      clear hJ
      clear hp hq
      go_simp
      refine (HC2.out W2 HJ.out.1).mono ?_
      rintro e w3 ⟨rfl, h3, h4⟩
      exact hK _ _ trivial ⟨h3, step_kept h4 HJ.out.2⟩ rfl
    · refine opS_mk rfl rfl fun aa W2 nJ hJ hp hq K hK => ?_
      have e85 : aa.tmps[85]?.getD undef = .int .i64 a2 := hq 7 _ (by kernel_rfl) rfl
      have e93 : aa.tmps[93]?.getD undef = .int .i64 a2 := hq 15 _ (by kernel_rfl) rfl
      clear hp hq
      clear hJ
      go_simp
      exact hK _ _ (RelB.refl _) (by first | rfl | exact congrArg Value.bool (decide_eq_true rfl))
    · refine opS_mk rfl rfl fun aa W2 nJ hJ hp hq K hK => ?_
      have e94 : aa.tmps[94]?.getD undef = .bool true := hq 16 _ (by kernel_rfl) rfl
      clear hp hq
      clear hJ
      go_simp
      exact hK _ _ (RelB.refl _) rfl
  · intro vs W9 hJ9 hv9 _
    have HM2 : Hid (Mem w W9 P (N + 2) P2 G2 t2 r2) := hJ9.1
    have v17 : vs 17 = .bool true := hv9 17 _ rfl rfl
    clear hJ9 hv9
    simp only [putAll, Act.put, List.setIfInBounds_toArray, List.set_cons_succ, List.set_cons_zero, Nat.zero_add, Nat.reduceAdd, v17]
    go_wp2
    go_ret
    exact ⟨rfl, by rw [HE.out.1, HE.out.2]; exact HM2.out⟩
set_option maxRecDepth 100000 in
set_option maxHeartbeats 8000000 in
theorem t_does3 (s : PStep) (hs : s.what = 3) (hf : StepFits s) (h : Mem w W P N P2 G2 t r) (hp : Pl k t r) (hk : k ≤ 1000) (_hN : N < 900000) :
    Calls Tryz.prog 16 #[.pointer (some ⟨P, 0, none⟩), .pointer (some ⟨P2, 0, none⟩), stepV s] W (DoesPost w P N P2 G2 t r s) := by
  have hM := h.below (u_alloc1 W (.cells (stepO s) 33))
  have hST : (W.alloc (.cells (stepO s) 33)).heap[W.heap.size]? = some (.cells (stepO s) 33 (0, 0)) := World.alloc_heap_new W _
  obtain ⟨⟨⟨a, b⟩, t2⟩, hq⟩ : ∃ q, dropP t s.dir s.name unlinkE = q := ⟨_, rfl⟩
  obtain ⟨⟨a2, b2, r2⟩, hq2⟩ : ∃ q, D.unlinkR r s.dir s.name = q := ⟨_, rfl⟩
  have hsim := hp.sim.unlink hp.well s.dir s.name
  rw [hq, hq2] at hsim
  obtain ⟨rfl, rfl⟩ : a2 = a ∧ b2 = b := ⟨hsim.1, hsim.2.1⟩
  clear hsim
  have HE : Hid ((playP t s).2 = t2 ∧ (playD r s (leastI t)).2 = r2) := by
    constructor
    · unfold playP
      simp [hs, hq]
    · unfold playD
      simp [hs, hq2]
  have HC1 := Lib.hid (hM.P_ (N' := N + 2) (t' := t2) (Q := fun e => e = .returned (.tuple #[.int .u32 a2, .int .i64 b2])) fun y F hT => (t_unlinkP s.dir s.name a2 b2 t2 hq _ hT hp.well.good hf.dir hf.name).mono fun e w' hh => ⟨hh.1, hh.2.mono (Nat.le_add_right _ _)⟩)
  have HC2 : Hid (∀ W2, Mem w W2 P (N + 2) P2 G2 t2 r → Calls Tryz.prog 54 #[.pointer (some ⟨P2, 0, none⟩), .int .u32 s.dir, .string s.name] W2 fun e w' => e = .returned (.tuple #[.int .u32 a2, .int .i64 b2]) ∧ Mem w w' P (N + 2) P2 G2 t2 r2 ∧ Kept W2 w') := fun W2 hM2 => hM2.D_ (r' := r2) (Q := fun e => e = .returned (.tuple #[.int .u32 a2, .int .i64 b2])) fun hD => D.t_unlink P2 G2 r s.dir s.name W2 hD hf.dir.1 hf.name (hp.small (by omega)) hp.wr.good a2 b2 r2 hq2
  have HST := Lib.hid hST
  have e0 := hs
  unfold stepV stepO at *
  rw [hs] at HC1 HST ⊢
  clear hq hq2 hM hST h hp hf hs e0
  go_enter Tryz.func16, Tryz.ntmps16
  go_wp2_with (first
    | (go_at_call 13; (with_reducible refine HC1.out.mono ?_); rintro e w1 ⟨rfl, hm, hkp⟩; have HM1 := Lib.hid hm; have H1 := Lib.hid (step_kept hkp HST.out); have k1 := cell_of (j := 1) (v := .int .u32 s.dir) H1.out rfl; have k3 := cell_of (j := 3) (v := .string s.name) H1.out rfl; clear hm hkp)
    | (go_at_call 54; (with_reducible refine (HC2.out _ HM1.out).mono ?_); rintro e w2 ⟨rfl, hm, hkp⟩; have HM2 := Lib.hid hm; clear hm hkp))
  go_ret
  exact ⟨rfl, by rw [HE.out.1, HE.out.2]; exact HM2.out⟩
set_option maxRecDepth 100000 in
set_option maxHeartbeats 8000000 in
theorem t_does4 (s : PStep) (hs : s.what = 4) (hf : StepFits s) (h : Mem w W P N P2 G2 t r) (hp : Pl k t r) (hk : k ≤ 1000) (_hN : N < 900000) :
    Calls Tryz.prog 16 #[.pointer (some ⟨P, 0, none⟩), .pointer (some ⟨P2, 0, none⟩), stepV s] W (DoesPost w P N P2 G2 t r s) := by
  have hM := h.below (u_alloc1 W (.cells (stepO s) 33))
  have hST : (W.alloc (.cells (stepO s) 33)).heap[W.heap.size]? = some (.cells (stepO s) 33 (0, 0)) := World.alloc_heap_new W _
  obtain ⟨⟨⟨a, b⟩, t2⟩, hq⟩ : ∃ q, dropP t s.dir s.name rmdirE = q := ⟨_, rfl⟩
  obtain ⟨⟨a2, b2, r2⟩, hq2⟩ : ∃ q, D.rmdirR r s.dir s.name = q := ⟨_, rfl⟩
  have hsim := hp.sim.rmdir hp.well s.dir s.name
  rw [hq, hq2] at hsim
  obtain ⟨rfl, rfl⟩ : a2 = a ∧ b2 = b := ⟨hsim.1, hsim.2.1⟩
  clear hsim
  have HE : Hid ((playP t s).2 = t2 ∧ (playD r s (leastI t)).2 = r2) := by
    constructor
    · unfold playP
      simp [hs, hq]
    · unfold playD
      simp [hs, hq2]
  have HC1 := Lib.hid (hM.P_ (N' := N + 2) (t' := t2) (Q := fun e => e = .returned (.tuple #[.int .u32 a2, .int .i64 b2])) fun y F hT => (t_rmdirP s.dir s.name a2 b2 t2 hq _ hT hp.well.good hf.dir hf.name).mono fun e w' hh => ⟨hh.1, hh.2.mono (Nat.le_add_right _ _)⟩)
  have HC2 : Hid (∀ W2, Mem w W2 P (N + 2) P2 G2 t2 r → Calls Tryz.prog 55 #[.pointer (some ⟨P2, 0, none⟩), .int .u32 s.dir, .string s.name] W2 fun e w' => e = .returned (.tuple #[.int .u32 a2, .int .i64 b2]) ∧ Mem w w' P (N + 2) P2 G2 t2 r2 ∧ Kept W2 w') := fun W2 hM2 => hM2.D_ (r' := r2) (Q := fun e => e = .returned (.tuple #[.int .u32 a2, .int .i64 b2])) fun hD => D.t_rmdir P2 G2 r s.dir s.name W2 hD hf.dir.1 hf.name (hp.small (by omega)) hp.wr.good a2 b2 r2 hq2
  have HST := Lib.hid hST
  have e0 := hs
  unfold stepV stepO at *
  rw [hs] at HC1 HST ⊢
  clear hq hq2 hM hST h hp hf hs e0
  go_enter Tryz.func16, Tryz.ntmps16
  go_wp2_with (first
    | (go_at_call 27; (with_reducible refine HC1.out.mono ?_); rintro e w1 ⟨rfl, hm, hkp⟩; have HM1 := Lib.hid hm; have H1 := Lib.hid (step_kept hkp HST.out); have k1 := cell_of (j := 1) (v := .int .u32 s.dir) H1.out rfl; have k3 := cell_of (j := 3) (v := .string s.name) H1.out rfl; clear hm hkp)
    | (go_at_call 55; (with_reducible refine (HC2.out _ HM1.out).mono ?_); rintro e w2 ⟨rfl, hm, hkp⟩; have HM2 := Lib.hid hm; clear hm hkp))
  go_ret
  exact ⟨rfl, by rw [HE.out.1, HE.out.2]; exact HM2.out⟩
set_option maxRecDepth 100000 in
set_option maxHeartbeats 8000000 in
theorem t_does5 (s : PStep) (hs : s.what = 5) (hf : StepFits s) (h : Mem w W P N P2 G2 t r) (hp : Pl k t r) (hk : k ≤ 1000) (hN : N < 900000) :
    Calls Tryz.prog 16 #[.pointer (some ⟨P, 0, none⟩), .pointer (some ⟨P2, 0, none⟩), stepV s] W (DoesPost w P N P2 G2 t r s) := by
  have hM := h.below (u_alloc1 W (.cells (stepO s) 33))
  have hST : (W.alloc (.cells (stepO s) 33)).heap[W.heap.size]? = some (.cells (stepO s) 33 (0, 0)) := World.alloc_heap_new W _
  obtain ⟨⟨a, t2⟩, hq⟩ : ∃ q, renameP t s.dir s.name s.ino s.toN = q := ⟨_, rfl⟩
  obtain ⟨⟨a2, r2⟩, hq2⟩ : ∃ q, D.renameR r s.dir s.name s.ino s.toN = q := ⟨_, rfl⟩
  have hsim := hp.sim.rename hp.well s.dir s.name s.ino s.toN
  rw [hq, hq2] at hsim
  obtain rfl : a2 = a := hsim.1
  clear hsim
  have HE : Hid ((playP t s).2 = t2 ∧ (playD r s (leastI t)).2 = r2) := by
    constructor
    · unfold playP
      simp [hs, hq]
    · unfold playD
      simp [hs, hq2]
  have HC1 : Hid (∀ W2, Mem w W2 P N P2 G2 t r → Calls Tryz.prog 24 #[.pointer (some ⟨P, 0, none⟩), .int .u32 s.dir, .string s.name, .int .u32 s.ino, .string s.toN] W2 fun e w' => e = .returned (.int .i64 a2) ∧ Mem w w' P (N + 2) P2 G2 t2 r ∧ Kept W2 w') := fun W2 hM2 => hM2.P_ (N' := N + 2) (t' := t2) (Q := fun e => e = .returned (.int .i64 a2)) fun y F hT => (t_renameP s.dir s.name s.ino s.toN a2 t2 hq _ hT hp.well hf.dir hf.ino hf.name hf.toN hN).mono fun e w' hh => ⟨hh.1, hh.2.mono (by omega)⟩
  have HC2 : Hid (∀ W2, Mem w W2 P (N + 2) P2 G2 t2 r → Calls Tryz.prog 56 #[.pointer (some ⟨P2, 0, none⟩), .int .u32 s.dir, .string s.name, .int .u32 s.ino, .string s.toN] W2 fun e w' => e = .returned (.int .i64 a2) ∧ Mem w w' P (N + 2) P2 G2 t2 r2 ∧ Kept W2 w') := fun W2 hM2 => hM2.D_ (r' := r2) (Q := fun e => e = .returned (.int .i64 a2)) fun hD => D.t_rename P2 G2 r s.dir s.name s.ino s.toN W2 hD hf.dir.1 hf.ino.1 hf.name hf.toN (hp.small (by omega)) hp.wr.good hp.wr.acc a2 r2 hq2
  have HST := Lib.hid hST
  have HM := Lib.hid hM
  have HS := Lib.hid hs
  unfold stepV stepO at *
  rw [hs] at HST HM ⊢
  clear hq hq2 hM hST h hp hf hs
  go_enter Tryz.func16, Tryz.ntmps16
  go_wp2
  refine wp_region_st (fun n W' => Mem w W' P (jN N n) P2 G2 (jT t t2 n) (jR r r2 n) ∧ W'.heap[W.heap.size]? = some (.cells #[.int .i64 5, .int .u32 s.dir, .int .u32 s.ino, .string s.name, .string s.toN, .int .u8 s.kind, .int .i64 s.n, .string s.data] 33 (0, 0))) RelB (fun _ _ => True) [9, 19] (phi [isV (.pointer (some ⟨P, 0, none⟩)), isV (.pointer (some ⟨W.heap.size, 1, none⟩)), isV (.int .u32 s.dir), isV (.pointer (some ⟨W.heap.size, 3, none⟩)), isV (.string s.name), isV (.pointer (some ⟨W.heap.size, 2, none⟩)), isV (.int .u32 s.ino), isV (.pointer (some ⟨W.heap.size, 4, none⟩)), isV (.string s.toN), isV (.int .i64 a2), isV (.pointer (some ⟨P2, 0, none⟩)), isV (.pointer (some ⟨W.heap.size, 1, none⟩)), isV (.int .u32 s.dir), isV (.pointer (some ⟨W.heap.size, 3, none⟩)), isV (.string s.name), isV (.pointer (some ⟨W.heap.size, 2, none⟩)), isV (.int .u32 s.ino), isV (.pointer (some ⟨W.heap.size, 4, none⟩)), isV (.string s.toN), isV (.int .i64 a2), isV (.bool true), isV (.bool true)]) (by kernel_rfl) (by kernel_rfl) (by kernel_rfl) (by kernel_rfl) (by kernel_rfl) ⟨HM.out.below (below_drew _), step_kept (Kept.below (below_drew _)) HST.out⟩ (fun k W W' hj hb => ⟨hj.1.below hb, step_kept (Kept.below hb) hj.2⟩) (fun _ _ _ => trivial) ?_ ?_ ?_
  · refine stays_phiR ?_
    simp only [List.forall_mem_cons]
    exact ⟨fun _ _ _ h _ => h, fun _ _ _ h _ => h, fun _ _ _ h _ => h, fun _ _ _ h _ => h, fun _ _ _ h _ => h, fun _ _ _ h _ => h, fun _ _ _ h _ => h, fun _ _ _ h _ => h, fun _ _ _ h _ => h, fun _ _ _ h _ => h, fun _ _ _ h _ => h, fun _ _ _ h _ => h, fun _ _ _ h _ => h, fun _ _ _ h _ => h, fun _ _ _ h _ => h, fun _ _ _ h _ => h, fun _ _ _ h _ => h, fun _ _ _ h _ => h, fun _ _ _ h _ => h, fun _ _ _ h _ => h, fun _ _ _ h _ => h, fun _ _ _ h _ => h, fun _ h => absurd h (by simp)⟩
  · refine ⟨?_, ?_, ?_, ?_, ?_, ?_, ?_, ?_, ?_, ?_, ?_, ?_, ?_, ?_, ?_, ?_, ?_, ?_, ?_, ?_, ?_, ?_, trivial⟩
    · refine opS_mk rfl rfl fun aa W2 nJ hJ hp hq K hK => ?_
      have e0 : aa.tmps[0]?.getD undef = .pointer (some ⟨P, 0, none⟩) := hp 0 (by kernel_rfl)
      clear hp hq
      clear hJ
      go_simp
      exact hK _ _ (RelB.refl _) rfl
    · refine opS_mk rfl rfl fun aa W2 nJ hJ hp hq K hK => ?_
      have e5 : aa.tmps[5]?.getD undef = .pointer (some ⟨W.heap.size, 0, none⟩) := hp 5 (by kernel_rfl)
      clear hp hq
      clear hJ
      go_simp
      exact hK _ _ (RelB.refl _) rfl
    · refine opS_mk rfl rfl fun aa W2 nJ hJ hp hq K hK => ?_
      have e154 : aa.tmps[154]?.getD undef = .pointer (some ⟨W.heap.size, 1, none⟩) := hq 1 _ (by kernel_rfl) rfl
      have cc := cell_of (j := 1) (v := .int .u32 s.dir) hJ.2 rfl
      clear hp hq
      clear hJ
      go_simp
      exact hK _ _ (RelB.refl _) rfl
    · refine opS_mk rfl rfl fun aa W2 nJ hJ hp hq K hK => ?_
      have e5 : aa.tmps[5]?.getD undef = .pointer (some ⟨W.heap.size, 0, none⟩) := hp 5 (by kernel_rfl)
      clear hp hq
      clear hJ
      go_simp
      exact hK _ _ (RelB.refl _) rfl
    · refine opS_mk rfl rfl fun aa W2 nJ hJ hp hq K hK => ?_
      have e156 : aa.tmps[156]?.getD undef = .pointer (some ⟨W.heap.size, 3, none⟩) := hq 3 _ (by kernel_rfl) rfl
      have cc := cell_of (j := 3) (v := .string s.name) hJ.2 rfl
      clear hp hq
      clear hJ
      go_simp
      exact hK _ _ (RelB.refl _) rfl
    · refine opS_mk rfl rfl fun aa W2 nJ hJ hp hq K hK => ?_
      have e5 : aa.tmps[5]?.getD undef = .pointer (some ⟨W.heap.size, 0, none⟩) := hp 5 (by kernel_rfl)
      clear hp hq
      clear hJ
      go_simp
      exact hK _ _ (RelB.refl _) rfl
    · refine opS_mk rfl rfl fun aa W2 nJ hJ hp hq K hK => ?_
      have e158 : aa.tmps[158]?.getD undef = .pointer (some ⟨W.heap.size, 2, none⟩) := hq 5 _ (by kernel_rfl) rfl
      have cc := cell_of (j := 2) (v := .int .u32 s.ino) hJ.2 rfl
      clear hp hq
      clear hJ
      go_simp
      exact hK _ _ (RelB.refl _) rfl
    · refine opS_mk rfl rfl fun aa W2 nJ hJ hp hq K hK => ?_
      have e5 : aa.tmps[5]?.getD undef = .pointer (some ⟨W.heap.size, 0, none⟩) := hp 5 (by kernel_rfl)
      clear hp hq
      clear hJ
      go_simp
      exact hK _ _ (RelB.refl _) rfl
    · refine opS_mk rfl rfl fun aa W2 nJ hJ hp hq K hK => ?_
      have e160 : aa.tmps[160]?.getD undef = .pointer (some ⟨W.heap.size, 4, none⟩) := hq 7 _ (by kernel_rfl) rfl
      have cc := cell_of (j := 4) (v := .string s.toN) hJ.2 rfl
      clear hp hq
      clear hJ
      go_simp
      exact hK _ _ (RelB.refl _) rfl
    · refine opS_at (m := 0) rfl rfl fun aa W2 hJ hp hq K hK => ?_
      have e153 : aa.tmps[153]?.getD undef = .pointer (some ⟨P, 0, none⟩) := hq 0 _ (by kernel_rfl) rfl
      have e155 : aa.tmps[155]?.getD undef = .int .u32 s.dir := hq 2 _ (by kernel_rfl) rfl
      have e157 : aa.tmps[157]?.getD undef = .string s.name := hq 4 _ (by kernel_rfl) rfl
      have e159 : aa.tmps[159]?.getD undef = .int .u32 s.ino := hq 6 _ (by kernel_rfl) rfl
      have e161 : aa.tmps[161]?.getD undef = .string s.toN := hq 8 _ (by kernel_rfl) rfl
      have HJ := Lib.hid hJ
      clear hJ
      clear hp hq
      go_simp
      refine (HC1.out W2 HJ.out.1).mono ?_
      rintro e w3 ⟨rfl, h3, h4⟩
      exact hK _ _ trivial ⟨h3, step_kept h4 HJ.out.2⟩ rfl
    · refine opS_mk rfl rfl fun aa W2 nJ hJ hp hq K hK => ?_
      have e1 : aa.tmps[1]?.getD undef = .pointer (some ⟨P2, 0, none⟩) := hp 1 (by kernel_rfl)
      clear hp hq
      clear hJ
      go_simp
      exact hK _ _ (RelB.refl _) rfl
    · refine opS_mk rfl rfl fun aa W2 nJ hJ hp hq K hK => ?_
      have e5 : aa.tmps[5]?.getD undef = .pointer (some ⟨W.heap.size, 0, none⟩) := hp 5 (by kernel_rfl)
      clear hp hq
      clear hJ
      go_simp
      exact hK _ _ (RelB.refl _) rfl
    · refine opS_mk rfl rfl fun aa W2 nJ hJ hp hq K hK => ?_
      have e164 : aa.tmps[164]?.getD undef = .pointer (some ⟨W.heap.size, 1, none⟩) := hq 11 _ (by kernel_rfl) rfl
      have cc := cell_of (j := 1) (v := .int .u32 s.dir) hJ.2 rfl
      clear hp hq
      clear hJ
      go_simp
      exact hK _ _ (RelB.refl _) rfl
    · refine opS_mk rfl rfl fun aa W2 nJ hJ hp hq K hK => ?_
      have e5 : aa.tmps[5]?.getD undef = .pointer (some ⟨W.heap.size, 0, none⟩) := hp 5 (by kernel_rfl)
      clear hp hq
      clear hJ
      go_simp
      exact hK _ _ (RelB.refl _) rfl
    · refine opS_mk rfl rfl fun aa W2 nJ hJ hp hq K hK => ?_
      have e166 : aa.tmps[166]?.getD undef = .pointer (some ⟨W.heap.size, 3, none⟩) := hq 13 _ (by kernel_rfl) rfl
      have cc := cell_of (j := 3) (v := .string s.name) hJ.2 rfl
      clear hp hq
      clear hJ
      go_simp
      exact hK _ _ (RelB.refl _) rfl
    · refine opS_mk rfl rfl fun aa W2 nJ hJ hp hq K hK => ?_
      have e5 : aa.tmps[5]?.getD undef = .pointer (some ⟨W.heap.size, 0, none⟩) := hp 5 (by kernel_rfl)
      clear hp hq
      clear hJ
      go_simp
      exact hK _ _ (RelB.refl _) rfl
    · refine opS_mk rfl rfl fun aa W2 nJ hJ hp hq K hK => ?_
      have e168 : aa.tmps[168]?.getD undef = .pointer (some ⟨W.heap.size, 2, none⟩) := hq 15 _ (by kernel_rfl) rfl
      have cc := cell_of (j := 2) (v := .int .u32 s.ino) hJ.2 rfl
      clear hp hq
      clear hJ
      go_simp
      exact hK _ _ (RelB.refl _) rfl
    · refine opS_mk rfl rfl fun aa W2 nJ hJ hp hq K hK => ?_
      have e5 : aa.tmps[5]?.getD undef = .pointer (some ⟨W.heap.size, 0, none⟩) := hp 5 (by kernel_rfl)
      clear hp hq
      clear hJ
      go_simp
      exact hK _ _ (RelB.refl _) rfl
    · refine opS_mk rfl rfl fun aa W2 nJ hJ hp hq K hK => ?_
      have e170 : aa.tmps[170]?.getD undef = .pointer (some ⟨W.heap.size, 4, none⟩) := hq 17 _ (by kernel_rfl) rfl
      have cc := cell_of (j := 4) (v := .string s.toN) hJ.2 rfl
      clear hp hq
      clear hJ
      go_simp
      exact hK _ _ (RelB.refl _) rfl
    · refine opS_at (m := 1) rfl rfl fun aa W2 hJ hp hq K hK => ?_
      have e163 : aa.tmps[163]?.getD undef = .pointer (some ⟨P2, 0, none⟩) := hq 10 _ (by kernel_rfl) rfl
      have e165 : aa.tmps[165]?.getD undef = .int .u32 s.dir := hq 12 _ (by kernel_rfl) rfl
      have e167 : aa.tmps[167]?.getD undef = .string s.name := hq 14 _ (by kernel_rfl) rfl
      have e169 : aa.tmps[169]?.getD undef = .int .u32 s.ino := hq 16 _ (by kernel_rfl) rfl
      have e171 : aa.tmps[171]?.getD undef = .string s.toN := hq 18 _ (by kernel_rfl) rfl
      have HJ := Lib.hid hJ
      clear hJ
      clear hp hq
      go_simp
      refine (HC2.out W2 HJ.out.1).mono ?_
      rintro e w3 ⟨rfl, h3, h4⟩
      exact hK _ _ trivial ⟨h3, step_kept h4 HJ.out.2⟩ rfl
    · refine opS_mk rfl rfl fun aa W2 nJ hJ hp hq K hK => ?_
      have e162 : aa.tmps[162]?.getD undef = .int .i64 a2 := hq 9 _ (by kernel_rfl) rfl
      have e172 : aa.tmps[172]?.getD undef = .int .i64 a2 := hq 19 _ (by kernel_rfl) rfl
      clear hp hq
      clear hJ
      go_simp
      exact hK _ _ (RelB.refl _) (by first | rfl | exact congrArg Value.bool (decide_eq_true rfl))
    · refine opS_mk rfl rfl fun aa W2 nJ hJ hp hq K hK => ?_
      have e173 : aa.tmps[173]?.getD undef = .bool true := hq 20 _ (by kernel_rfl) rfl
      clear hp hq
      clear hJ
      go_simp
      exact hK _ _ (RelB.refl _) rfl
  · intro vs W9 hJ9 hv9 _
    have HM2 : Hid (Mem w W9 P (N + 2) P2 G2 t2 r2) := hJ9.1
    have v21 : vs 21 = .bool true := hv9 21 _ rfl rfl
    clear hJ9 hv9
    simp only [putAll, Act.put, List.setIfInBounds_toArray, List.set_cons_succ, List.set_cons_zero, Nat.zero_add, Nat.reduceAdd, v21]
    go_wp2
    go_ret
    exact ⟨rfl, by rw [HE.out.1, HE.out.2]; exact HM2.out⟩
set_option maxRecDepth 100000 in
set_option maxHeartbeats 8000000 in
theorem t_does6 (s : PStep) (hs : s.what = 6) (hf : StepFits s) (h : Mem w W P N P2 G2 t r) (hp : Pl k t r) (_hk : k ≤ 1000) (hN : N < 900000) :
    Calls Tryz.prog 16 #[.pointer (some ⟨P, 0, none⟩), .pointer (some ⟨P2, 0, none⟩), stepV s] W (DoesPost w P N P2 G2 t r s) := by
  have hM := h.below (u_alloc1 W (.cells (stepO s) 33))
  have hST : (W.alloc (.cells (stepO s) 33)).heap[W.heap.size]? = some (.cells (stepO s) 33 (0, 0)) := World.alloc_heap_new W _
  obtain ⟨⟨a, t2⟩, hq⟩ : ∃ q, resizeP t s.ino (s.n % 4294967296) = q := ⟨_, rfl⟩
  obtain ⟨⟨a2, r2⟩, hq2⟩ : ∃ q, D.resizeR r s.ino (s.n % 4294967296) = q := ⟨_, rfl⟩
  have hsim := hp.sim.resize hp.well s.ino (n := s.n % 4294967296) (by omega)
  rw [hq, hq2] at hsim
  obtain rfl : a2 = a := hsim.1
  clear hsim
  have HE : Hid ((playP t s).2 = t2 ∧ (playD r s (leastI t)).2 = r2) := by
    constructor
    · unfold playP
      simp [hs, hq]
    · unfold playD
      simp [hs, hq2]
  have HC1 : Hid (∀ W2, Mem w W2 P N P2 G2 t r → Calls Tryz.prog 31 #[.pointer (some ⟨P, 0, none⟩), .int .u32 s.ino, .int .u32 (s.n % 4294967296)] W2 fun e w' => e = .returned (.int .i64 a2) ∧ Mem w w' P (N + 2) P2 G2 t2 r ∧ Kept W2 w') := fun W2 hM2 => hM2.P_ (N' := N + 2) (t' := t2) (Q := fun e => e = .returned (.int .i64 a2)) fun y F hT => (t_resizeP s.ino (s.n % 4294967296) a2 t2 hq _ hT hN hf.ino (by omega) (fun x hx => hp.well.pages _ x hx)).mono fun e w' hh => ⟨hh.1, _, _, hh.2.1.mono (by omega), hh.2.2⟩
  have HC2 : Hid (∀ W2, Mem w W2 P (N + 2) P2 G2 t2 r → Calls Tryz.prog 57 #[.pointer (some ⟨P2, 0, none⟩), .int .u32 s.ino, .int .u32 (s.n % 4294967296)] W2 fun e w' => e = .returned (.int .i64 a2) ∧ Mem w w' P (N + 2) P2 G2 t2 r2 ∧ Kept W2 w') := fun W2 hM2 => hM2.D_ (r' := r2) (Q := fun e => e = .returned (.int .i64 a2)) fun hD => D.t_resize P2 G2 r s.ino (s.n % 4294967296) W2 hD hf.ino.1 (by omega) (by omega) (hp.wr.at_data _) a2 r2 hq2
  have HST := Lib.hid hST
  have HM := Lib.hid hM
  have HS := Lib.hid hs
  unfold stepV stepO at *
  rw [hs] at HST HM ⊢
  clear hq hq2 hM hST h hp hf hs
  go_enter Tryz.func16, Tryz.ntmps16
  go_wp2
  refine wp_region_st (fun n W' => Mem w W' P (jN N n) P2 G2 (jT t t2 n) (jR r r2 n) ∧ W'.heap[W.heap.size]? = some (.cells #[.int .i64 6, .int .u32 s.dir, .int .u32 s.ino, .string s.name, .string s.toN, .int .u8 s.kind, .int .i64 s.n, .string s.data] 33 (0, 0))) RelB (fun _ _ => True) [6, 13] (phi [isV (.pointer (some ⟨P, 0, none⟩)), isV (.pointer (some ⟨W.heap.size, 2, none⟩)), isV (.int .u32 s.ino), isV (.pointer (some ⟨W.heap.size, 6, none⟩)), isV (.int .i64 s.n), isV (.int .u32 (s.n % 4294967296)), isV (.int .i64 a2), isV (.pointer (some ⟨P2, 0, none⟩)), isV (.pointer (some ⟨W.heap.size, 2, none⟩)), isV (.int .u32 s.ino), isV (.pointer (some ⟨W.heap.size, 6, none⟩)), isV (.int .i64 s.n), isV (.int .u32 (s.n % 4294967296)), isV (.int .i64 a2), isV (.bool true), isV (.bool true)]) (by kernel_rfl) (by kernel_rfl) (by kernel_rfl) (by kernel_rfl) (by kernel_rfl) ⟨HM.out.below (below_drew _), step_kept (Kept.below (below_drew _)) HST.out⟩ (fun k W W' hj hb => ⟨hj.1.below hb, step_kept (Kept.below hb) hj.2⟩) (fun _ _ _ => trivial) ?_ ?_ ?_
  · refine stays_phiR ?_
    simp only [List.forall_mem_cons]
    exact ⟨fun _ _ _ h _ => h, fun _ _ _ h _ => h, fun _ _ _ h _ => h, fun _ _ _ h _ => h, fun _ _ _ h _ => h, fun _ _ _ h _ => h, fun _ _ _ h _ => h, fun _ _ _ h _ => h, fun _ _ _ h _ => h, fun _ _ _ h _ => h, fun _ _ _ h _ => h, fun _ _ _ h _ => h, fun _ _ _ h _ => h, fun _ _ _ h _ => h, fun _ _ _ h _ => h, fun _ _ _ h _ => h, fun _ h => absurd h (by simp)⟩
  · refine ⟨?_, ?_, ?_, ?_, ?_, ?_, ?_, ?_, ?_, ?_, ?_, ?_, ?_, ?_, ?_, ?_, trivial⟩
    · refine opS_mk rfl rfl fun aa W2 nJ hJ hp hq K hK => ?_
      have e0 : aa.tmps[0]?.getD undef = .pointer (some ⟨P, 0, none⟩) := hp 0 (by kernel_rfl)
      clear hp hq
      clear hJ
      go_simp
      exact hK _ _ (RelB.refl _) rfl
    · refine opS_mk rfl rfl fun aa W2 nJ hJ hp hq K hK => ?_
      have e5 : aa.tmps[5]?.getD undef = .pointer (some ⟨W.heap.size, 0, none⟩) := hp 5 (by kernel_rfl)
      clear hp hq
      clear hJ
      go_simp
      exact hK _ _ (RelB.refl _) rfl
    · refine opS_mk rfl rfl fun aa W2 nJ hJ hp hq K hK => ?_
      have e177 : aa.tmps[177]?.getD undef = .pointer (some ⟨W.heap.size, 2, none⟩) := hq 1 _ (by kernel_rfl) rfl
      have cc := cell_of (j := 2) (v := .int .u32 s.ino) hJ.2 rfl
      clear hp hq
      clear hJ
      go_simp
      exact hK _ _ (RelB.refl _) rfl
    · refine opS_mk rfl rfl fun aa W2 nJ hJ hp hq K hK => ?_
      have e5 : aa.tmps[5]?.getD undef = .pointer (some ⟨W.heap.size, 0, none⟩) := hp 5 (by kernel_rfl)
      clear hp hq
      clear hJ
      go_simp
      exact hK _ _ (RelB.refl _) rfl
    · refine opS_mk rfl rfl fun aa W2 nJ hJ hp hq K hK => ?_
      have e179 : aa.tmps[179]?.getD undef = .pointer (some ⟨W.heap.size, 6, none⟩) := hq 3 _ (by kernel_rfl) rfl
      have cc := cell_of (j := 6) (v := .int .i64 s.n) hJ.2 rfl
      clear hp hq
      clear hJ
      go_simp
      exact hK _ _ (RelB.refl _) rfl
    · refine opS_mk rfl rfl fun aa W2 nJ hJ hp hq K hK => ?_
      have e180 : aa.tmps[180]?.getD undef = .int .i64 s.n := hq 4 _ (by kernel_rfl) rfl
      clear hp hq
      clear hJ
      go_simp
      exact hK _ _ (RelB.refl _) (by first | rfl | exact congrArg (Value.int .u32) (wrap_u32 _))
    · refine opS_at (m := 0) rfl rfl fun aa W2 hJ hp hq K hK => ?_
      have e176 : aa.tmps[176]?.getD undef = .pointer (some ⟨P, 0, none⟩) := hq 0 _ (by kernel_rfl) rfl
      have e178 : aa.tmps[178]?.getD undef = .int .u32 s.ino := hq 2 _ (by kernel_rfl) rfl
      have e181 : aa.tmps[181]?.getD undef = .int .u32 (s.n % 4294967296) := hq 5 _ (by kernel_rfl) rfl
      have HJ := Lib.hid hJ
      clear hJ
      clear hp hq
      go_simp
      refine (HC1.out W2 HJ.out.1).mono ?_
      rintro e w3 ⟨rfl, h3, h4⟩
      exact hK _ _ trivial ⟨h3, step_kept h4 HJ.out.2⟩ rfl
    · refine opS_mk rfl rfl fun aa W2 nJ hJ hp hq K hK => ?_
      have e1 : aa.tmps[1]?.getD undef = .pointer (some ⟨P2, 0, none⟩) := hp 1 (by kernel_rfl)
      clear hp hq
      clear hJ
      go_simp
      exact hK _ _ (RelB.refl _) rfl
    · refine opS_mk rfl rfl fun aa W2 nJ hJ hp hq K hK => ?_
      have e5 : aa.tmps[5]?.getD undef = .pointer (some ⟨W.heap.size, 0, none⟩) := hp 5 (by kernel_rfl)
      clear hp hq
      clear hJ
      go_simp
      exact hK _ _ (RelB.refl _) rfl
    · refine opS_mk rfl rfl fun aa W2 nJ hJ hp hq K hK => ?_
      have e184 : aa.tmps[184]?.getD undef = .pointer (some ⟨W.heap.size, 2, none⟩) := hq 8 _ (by kernel_rfl) rfl
      have cc := cell_of (j := 2) (v := .int .u32 s.ino) hJ.2 rfl
      clear hp hq
      clear hJ
      go_simp
      exact hK _ _ (RelB.refl _) rfl
    · refine opS_mk rfl rfl fun aa W2 nJ hJ hp hq K hK => ?_
      have e5 : aa.tmps[5]?.getD undef = .pointer (some ⟨W.heap.size, 0, none⟩) := hp 5 (by kernel_rfl)
      clear hp hq
      clear hJ
      go_simp
      exact hK _ _ (RelB.refl _) rfl
    · refine opS_mk rfl rfl fun aa W2 nJ hJ hp hq K hK => ?_
      have e186 : aa.tmps[186]?.getD undef = .pointer (some ⟨W.heap.size, 6, none⟩) := hq 10 _ (by kernel_rfl) rfl
      have cc := cell_of (j := 6) (v := .int .i64 s.n) hJ.2 rfl
      clear hp hq
      clear hJ
      go_simp
      exact hK _ _ (RelB.refl _) rfl
    · refine opS_mk rfl rfl fun aa W2 nJ hJ hp hq K hK => ?_
      have e187 : aa.tmps[187]?.getD undef = .int .i64 s.n := hq 11 _ (by kernel_rfl) rfl
      clear hp hq
      clear hJ
      go_simp
      exact hK _ _ (RelB.refl _) (by first | rfl | exact congrArg (Value.int .u32) (wrap_u32 _))
    · refine opS_at (m := 1) rfl rfl fun aa W2 hJ hp hq K hK => ?_
      have e183 : aa.tmps[183]?.getD undef = .pointer (some ⟨P2, 0, none⟩) := hq 7 _ (by kernel_rfl) rfl
      have e185 : aa.tmps[185]?.getD undef = .int .u32 s.ino := hq 9 _ (by kernel_rfl) rfl
      have e188 : aa.tmps[188]?.getD undef = .int .u32 (s.n % 4294967296) := hq 12 _ (by kernel_rfl) rfl
      have HJ := Lib.hid hJ
      clear hJ
      clear hp hq
      go_simp
      refine (HC2.out W2 HJ.out.1).mono ?_
      rintro e w3 ⟨rfl, h3, h4⟩
      exact hK _ _ trivial ⟨h3, step_kept h4 HJ.out.2⟩ rfl
    · refine opS_mk rfl rfl fun aa W2 nJ hJ hp hq K hK => ?_
      have e182 : aa.tmps[182]?.getD undef = .int .i64 a2 := hq 6 _ (by kernel_rfl) rfl
      have e189 : aa.tmps[189]?.getD undef = .int .i64 a2 := hq 13 _ (by kernel_rfl) rfl
      clear hp hq
      clear hJ
      go_simp
      exact hK _ _ (RelB.refl _) (by first | rfl | exact congrArg Value.bool (decide_eq_true rfl))
    · refine opS_mk rfl rfl fun aa W2 nJ hJ hp hq K hK => ?_
      have e190 : aa.tmps[190]?.getD undef = .bool true := hq 14 _ (by kernel_rfl) rfl
      clear hp hq
      clear hJ
      go_simp
      exact hK _ _ (RelB.refl _) rfl
  · intro vs W9 hJ9 hv9 _
    have HM2 : Hid (Mem w W9 P (N + 2) P2 G2 t2 r2) := hJ9.1
    have v15 : vs 15 = .bool true := hv9 15 _ rfl rfl
    clear hJ9 hv9
    simp only [putAll, Act.put, List.setIfInBounds_toArray, List.set_cons_succ, List.set_cons_zero, Nat.zero_add, Nat.reduceAdd, v15]
    go_wp2
    go_ret
    exact ⟨rfl, by rw [HE.out.1, HE.out.2]; exact HM2.out⟩
set_option maxRecDepth 100000 in
set_option maxHeartbeats 8000000 in
theorem t_does7 (s : PStep) (hs : s.what = 7) (hf : StepFits s) (h : Mem w W P N P2 G2 t r) (hp : Pl k t r) (_hk : k ≤ 1000) (hN : N < 900000) :
    Calls Tryz.prog 16 #[.pointer (some ⟨P, 0, none⟩), .pointer (some ⟨P2, 0, none⟩), stepV s] W (DoesPost w P N P2 G2 t r s) := by
  have hM := h.below (u_alloc1 W (.cells (stepO s) 33))
  have hST : (W.alloc (.cells (stepO s) 33)).heap[W.heap.size]? = some (.cells (stepO s) 33 (0, 0)) := World.alloc_heap_new W _
  obtain ⟨⟨a, t2⟩, hq⟩ : ∃ q, writeP t s.ino s.n s.data = q := ⟨_, rfl⟩
  obtain ⟨⟨a2, r2⟩, hq2⟩ : ∃ q, D.writeR r s.ino s.n s.data = q := ⟨_, rfl⟩
  have hsim := hp.sim.write hp.well s.ino s.n s.data
  rw [hq, hq2] at hsim
  obtain rfl : a2 = a := hsim.1
  clear hsim
  have HE : Hid ((playP t s).2 = t2 ∧ (playD r s (leastI t)).2 = r2) := by
    constructor
    · unfold playP
      simp [hs, hq]
    · unfold playD
      simp [hs, hq2]
  have HC1 : Hid (∀ W2, Mem w W2 P N P2 G2 t r → Calls Tryz.prog 14 #[.pointer (some ⟨P, 0, none⟩), .int .u32 s.ino, .int .i64 s.n, .string s.data] W2 fun e w' => e = .returned (.int .i64 a2) ∧ Mem w w' P (N + 2) P2 G2 t2 r ∧ Kept W2 w') := fun W2 hM2 => hM2.P_ (N' := N + 2) (t' := t2) (Q := fun e => e = .returned (.int .i64 a2)) fun y F hT => (t_writeP s.ino s.n s.data a2 t2 hq _ hT hN hf.ino hf.data (fun x hx => hp.well.pages _ x hx)).mono fun e w' hh => ⟨hh.1, _, _, hh.2.1.mono (by omega), hh.2.2⟩
  have HC2 : Hid (∀ W2, Mem w W2 P (N + 2) P2 G2 t2 r → Calls Tryz.prog 58 #[.pointer (some ⟨P2, 0, none⟩), .int .u32 s.ino, .int .i64 s.n, .string s.data] W2 fun e w' => e = .returned (.int .i64 a2) ∧ Mem w w' P (N + 2) P2 G2 t2 r2 ∧ Kept W2 w') := fun W2 hM2 => hM2.D_ (r' := r2) (Q := fun e => e = .returned (.int .i64 a2)) fun hD => D.t_write P2 G2 r s.ino s.n s.data W2 hD hf.ino.1 hf.data (hp.wr.at_data _) a2 r2 hq2
  have HST := Lib.hid hST
  have HM := Lib.hid hM
  have HS := Lib.hid hs
  unfold stepV stepO at *
  rw [hs] at HST HM ⊢
  clear hq hq2 hM hST h hp hf hs
  go_enter Tryz.func16, Tryz.ntmps16
  go_wp2
  refine wp_region_st (fun n W' => Mem w W' P (jN N n) P2 G2 (jT t t2 n) (jR r r2 n) ∧ W'.heap[W.heap.size]? = some (.cells #[.int .i64 7, .int .u32 s.dir, .int .u32 s.ino, .string s.name, .string s.toN, .int .u8 s.kind, .int .i64 s.n, .string s.data] 33 (0, 0))) RelB (fun _ _ => True) [7, 15] (phi [isV (.pointer (some ⟨P, 0, none⟩)), isV (.pointer (some ⟨W.heap.size, 2, none⟩)), isV (.int .u32 s.ino), isV (.pointer (some ⟨W.heap.size, 6, none⟩)), isV (.int .i64 s.n), isV (.pointer (some ⟨W.heap.size, 7, none⟩)), isV (.string s.data), isV (.int .i64 a2), isV (.pointer (some ⟨P2, 0, none⟩)), isV (.pointer (some ⟨W.heap.size, 2, none⟩)), isV (.int .u32 s.ino), isV (.pointer (some ⟨W.heap.size, 6, none⟩)), isV (.int .i64 s.n), isV (.pointer (some ⟨W.heap.size, 7, none⟩)), isV (.string s.data), isV (.int .i64 a2), isV (.bool true), isV (.bool true)]) (by kernel_rfl) (by kernel_rfl) (by kernel_rfl) (by kernel_rfl) (by kernel_rfl) ⟨HM.out.below (below_drew _), step_kept (Kept.below (below_drew _)) HST.out⟩ (fun k W W' hj hb => ⟨hj.1.below hb, step_kept (Kept.below hb) hj.2⟩) (fun _ _ _ => trivial) ?_ ?_ ?_
  · refine stays_phiR ?_
    simp only [List.forall_mem_cons]
    exact ⟨fun _ _ _ h _ => h, fun _ _ _ h _ => h, fun _ _ _ h _ => h, fun _ _ _ h _ => h, fun _ _ _ h _ => h, fun _ _ _ h _ => h, fun _ _ _ h _ => h, fun _ _ _ h _ => h, fun _ _ _ h _ => h, fun _ _ _ h _ => h, fun _ _ _ h _ => h, fun _ _ _ h _ => h, fun _ _ _ h _ => h, fun _ _ _ h _ => h, fun _ _ _ h _ => h, fun _ _ _ h _ => h, fun _ _ _ h _ => h, fun _ _ _ h _ => h, fun _ h => absurd h (by simp)⟩
  · refine ⟨?_, ?_, ?_, ?_, ?_, ?_, ?_, ?_, ?_, ?_, ?_, ?_, ?_, ?_, ?_, ?_, ?_, ?_, trivial⟩
    · refine opS_mk rfl rfl fun aa W2 nJ hJ hp hq K hK => ?_
      have e0 : aa.tmps[0]?.getD undef = .pointer (some ⟨P, 0, none⟩) := hp 0 (by kernel_rfl)
      clear hp hq
      clear hJ
      go_simp
      exact hK _ _ (RelB.refl _) rfl
    · refine opS_mk rfl rfl fun aa W2 nJ hJ hp hq K hK => ?_
      have e5 : aa.tmps[5]?.getD undef = .pointer (some ⟨W.heap.size, 0, none⟩) := hp 5 (by kernel_rfl)
      clear hp hq
      clear hJ
      go_simp
      exact hK _ _ (RelB.refl _) rfl
    · refine opS_mk rfl rfl fun aa W2 nJ hJ hp hq K hK => ?_
      have e194 : aa.tmps[194]?.getD undef = .pointer (some ⟨W.heap.size, 2, none⟩) := hq 1 _ (by kernel_rfl) rfl
      have cc := cell_of (j := 2) (v := .int .u32 s.ino) hJ.2 rfl
      clear hp hq
      clear hJ
      go_simp
      exact hK _ _ (RelB.refl _) rfl
    · refine opS_mk rfl rfl fun aa W2 nJ hJ hp hq K hK => ?_
      have e5 : aa.tmps[5]?.getD undef = .pointer (some ⟨W.heap.size, 0, none⟩) := hp 5 (by kernel_rfl)
      clear hp hq
      clear hJ
      go_simp
      exact hK _ _ (RelB.refl _) rfl
    · refine opS_mk rfl rfl fun aa W2 nJ hJ hp hq K hK => ?_
      have e196 : aa.tmps[196]?.getD undef = .pointer (some ⟨W.heap.size, 6, none⟩) := hq 3 _ (by kernel_rfl) rfl
      have cc := cell_of (j := 6) (v := .int .i64 s.n) hJ.2 rfl
      clear hp hq
      clear hJ
      go_simp
      exact hK _ _ (RelB.refl _) rfl
    · refine opS_mk rfl rfl fun aa W2 nJ hJ hp hq K hK => ?_
      have e5 : aa.tmps[5]?.getD undef = .pointer (some ⟨W.heap.size, 0, none⟩) := hp 5 (by kernel_rfl)
      clear hp hq
      clear hJ
      go_simp
      exact hK _ _ (RelB.refl _) rfl
    · refine opS_mk rfl rfl fun aa W2 nJ hJ hp hq K hK => ?_
      have e198 : aa.tmps[198]?.getD undef = .pointer (some ⟨W.heap.size, 7, none⟩) := hq 5 _ (by kernel_rfl) rfl
      have cc := cell_of (j := 7) (v := .string s.data) hJ.2 rfl
      clear hp hq
      clear hJ
      go_simp
      exact hK _ _ (RelB.refl _) rfl
    · refine opS_at (m := 0) rfl rfl fun aa W2 hJ hp hq K hK => ?_
      have e193 : aa.tmps[193]?.getD undef = .pointer (some ⟨P, 0, none⟩) := hq 0 _ (by kernel_rfl) rfl
      have e195 : aa.tmps[195]?.getD undef = .int .u32 s.ino := hq 2 _ (by kernel_rfl) rfl
      have e197 : aa.tmps[197]?.getD undef = .int .i64 s.n := hq 4 _ (by kernel_rfl) rfl
      have e199 : aa.tmps[199]?.getD undef = .string s.data := hq 6 _ (by kernel_rfl) rfl
      have HJ := Lib.hid hJ
      clear hJ
      clear hp hq
      go_simp
      refine (HC1.out W2 HJ.out.1).mono ?_
      rintro e w3 ⟨rfl, h3, h4⟩
      exact hK _ _ trivial ⟨h3, step_kept h4 HJ.out.2⟩ rfl
    · refine opS_mk rfl rfl fun aa W2 nJ hJ hp hq K hK => ?_
      have e1 : aa.tmps[1]?.getD undef = .pointer (some ⟨P2, 0, none⟩) := hp 1 (by kernel_rfl)
      clear hp hq
      clear hJ
      go_simp
      exact hK _ _ (RelB.refl _) rfl
    · refine opS_mk rfl rfl fun aa W2 nJ hJ hp hq K hK => ?_
      have e5 : aa.tmps[5]?.getD undef = .pointer (some ⟨W.heap.size, 0, none⟩) := hp 5 (by kernel_rfl)
      clear hp hq
      clear hJ
      go_simp
      exact hK _ _ (RelB.refl _) rfl
    · refine opS_mk rfl rfl fun aa W2 nJ hJ hp hq K hK => ?_
      have e202 : aa.tmps[202]?.getD undef = .pointer (some ⟨W.heap.size, 2, none⟩) := hq 9 _ (by kernel_rfl) rfl
      have cc := cell_of (j := 2) (v := .int .u32 s.ino) hJ.2 rfl
      clear hp hq
      clear hJ
      go_simp
      exact hK _ _ (RelB.refl _) rfl
    · refine opS_mk rfl rfl fun aa W2 nJ hJ hp hq K hK => ?_
      have e5 : aa.tmps[5]?.getD undef = .pointer (some ⟨W.heap.size, 0, none⟩) := hp 5 (by kernel_rfl)
      clear hp hq
      clear hJ
      go_simp
      exact hK _ _ (RelB.refl _) rfl
    · refine opS_mk rfl rfl fun aa W2 nJ hJ hp hq K hK => ?_
      have e204 : aa.tmps[204]?.getD undef = .pointer (some ⟨W.heap.size, 6, none⟩) := hq 11 _ (by kernel_rfl) rfl
      have cc := cell_of (j := 6) (v := .int .i64 s.n) hJ.2 rfl
      clear hp hq
      clear hJ
      go_simp
      exact hK _ _ (RelB.refl _) rfl
    · refine opS_mk rfl rfl fun aa W2 nJ hJ hp hq K hK => ?_
      have e5 : aa.tmps[5]?.getD undef = .pointer (some ⟨W.heap.size, 0, none⟩) := hp 5 (by kernel_rfl)
      clear hp hq
      clear hJ
      go_simp
      exact hK _ _ (RelB.refl _) rfl
    · refine opS_mk rfl rfl fun aa W2 nJ hJ hp hq K hK => ?_
      have e206 : aa.tmps[206]?.getD undef = .pointer (some ⟨W.heap.size, 7, none⟩) := hq 13 _ (by kernel_rfl) rfl
      have cc := cell_of (j := 7) (v := .string s.data) hJ.2 rfl
      clear hp hq
      clear hJ
      go_simp
      exact hK _ _ (RelB.refl _) rfl
    · refine opS_at (m := 1) rfl rfl fun aa W2 hJ hp hq K hK => ?_
      have e201 : aa.tmps[201]?.getD undef = .pointer (some ⟨P2, 0, none⟩) := hq 8 _ (by kernel_rfl) rfl
      have e203 : aa.tmps[203]?.getD undef = .int .u32 s.ino := hq 10 _ (by kernel_rfl) rfl
      have e205 : aa.tmps[205]?.getD undef = .int .i64 s.n := hq 12 _ (by kernel_rfl) rfl
      have e207 : aa.tmps[207]?.getD undef = .string s.data := hq 14 _ (by kernel_rfl) rfl
      have HJ := Lib.hid hJ
      clear hJ
      clear hp hq
      go_simp
      refine (HC2.out W2 HJ.out.1).mono ?_
      rintro e w3 ⟨rfl, h3, h4⟩
      exact hK _ _ trivial ⟨h3, step_kept h4 HJ.out.2⟩ rfl
    · refine opS_mk rfl rfl fun aa W2 nJ hJ hp hq K hK => ?_
      have e200 : aa.tmps[200]?.getD undef = .int .i64 a2 := hq 7 _ (by kernel_rfl) rfl
      have e208 : aa.tmps[208]?.getD undef = .int .i64 a2 := hq 15 _ (by kernel_rfl) rfl
      clear hp hq
      clear hJ
      go_simp
      exact hK _ _ (RelB.refl _) (by first | rfl | exact congrArg Value.bool (decide_eq_true rfl))
    · refine opS_mk rfl rfl fun aa W2 nJ hJ hp hq K hK => ?_
      have e209 : aa.tmps[209]?.getD undef = .bool true := hq 16 _ (by kernel_rfl) rfl
      clear hp hq
      clear hJ
      go_simp
      exact hK _ _ (RelB.refl _) rfl
  · intro vs W9 hJ9 hv9 _
    have HM2 : Hid (Mem w W9 P (N + 2) P2 G2 t2 r2) := hJ9.1
    have v17 : vs 17 = .bool true := hv9 17 _ rfl rfl
    clear hJ9 hv9
    simp only [putAll, Act.put, List.setIfInBounds_toArray, List.set_cons_succ, List.set_cons_zero, Nat.zero_add, Nat.reduceAdd, v17]
    go_wp2
    go_ret
    exact ⟨rfl, by rw [HE.out.1, HE.out.2]; exact HM2.out⟩
set_option maxRecDepth 100000 in
set_option maxHeartbeats 8000000 in
theorem t_does8 (s : PStep) (hs : s.what = 8) (hf : StepFits s) (h : Mem w W P N P2 G2 t r) (hp : Pl k t r) (hk : k ≤ 1000) (_hN : N < 900000) :
    Calls Tryz.prog 16 #[.pointer (some ⟨P, 0, none⟩), .pointer (some ⟨P2, 0, none⟩), stepV s] W (DoesPost w P N P2 G2 t r s) := by
  have hM := h.below (u_alloc1 W (.cells (stepO s) 33))
  have hST : (W.alloc (.cells (stepO s) 33)).heap[W.heap.size]? = some (.cells (stepO s) 33 (0, 0)) := World.alloc_heap_new W _
  obtain ⟨⟨a, t2⟩, hq⟩ : ∃ q, holdP t s.ino = q := ⟨_, rfl⟩
  obtain ⟨⟨a2, r2⟩, hq2⟩ : ∃ q, D.holdR r s.ino = q := ⟨_, rfl⟩
  have hsim := hp.sim.hold hp.well s.ino
  rw [hq, hq2] at hsim
  obtain rfl : a2 = a := hsim.1
  clear hsim
  have HE : Hid ((playP t s).2 = t2 ∧ (playD r s (leastI t)).2 = r2) := by
    constructor
    · unfold playP
      simp [hs, hq]
    · unfold playD
      simp [hs, hq2]
  have HC1 : Hid (∀ W2, Mem w W2 P N P2 G2 t r → Calls Tryz.prog 15 #[.pointer (some ⟨P, 0, none⟩), .int .u32 s.ino] W2 fun e w' => e = .returned (.int .i64 a2) ∧ Mem w w' P (N + 2) P2 G2 t2 r ∧ Kept W2 w') := fun W2 hM2 => hM2.P_ (N' := N + 2) (t' := t2) (Q := fun e => e = .returned (.int .i64 a2)) fun y F hT => (t_holdP s.ino a2 t2 hq _ hT hf.ino (hp.held.mono (by omega)) (fun x hx => hp.well.held _ x hx)).mono fun e w' hh => ⟨hh.1, hh.2.mono (by omega)⟩
  have HC2 : Hid (∀ W2, Mem w W2 P (N + 2) P2 G2 t2 r → Calls Tryz.prog 59 #[.pointer (some ⟨P2, 0, none⟩), .int .u32 s.ino] W2 fun e w' => e = .returned (.int .i64 a2) ∧ Mem w w' P (N + 2) P2 G2 t2 r2 ∧ Kept W2 w') := fun W2 hM2 => hM2.D_ (r' := r2) (Q := fun e => e = .returned (.int .i64 a2)) fun hD => D.t_Hold P2 G2 r s.ino W2 hD hf.ino.1 (by have := hp.wr.at_held s.ino; omega) a2 r2 hq2
  have HST := Lib.hid hST
  have HM := Lib.hid hM
  have HS := Lib.hid hs
  unfold stepV stepO at *
  rw [hs] at HST HM ⊢
  clear hq hq2 hM hST h hp hf hs
  go_enter Tryz.func16, Tryz.ntmps16
  go_wp2
  refine wp_region_st (fun n W' => Mem w W' P (jN N n) P2 G2 (jT t t2 n) (jR r r2 n) ∧ W'.heap[W.heap.size]? = some (.cells #[.int .i64 8, .int .u32 s.dir, .int .u32 s.ino, .string s.name, .string s.toN, .int .u8 s.kind, .int .i64 s.n, .string s.data] 33 (0, 0))) RelB (fun _ _ => True) [3, 7] (phi [isV (.pointer (some ⟨P, 0, none⟩)), isV (.pointer (some ⟨W.heap.size, 2, none⟩)), isV (.int .u32 s.ino), isV (.int .i64 a2), isV (.pointer (some ⟨P2, 0, none⟩)), isV (.pointer (some ⟨W.heap.size, 2, none⟩)), isV (.int .u32 s.ino), isV (.int .i64 a2), isV (.bool true), isV (.bool true)]) (by kernel_rfl) (by kernel_rfl) (by kernel_rfl) (by kernel_rfl) (by kernel_rfl) ⟨HM.out.below (below_drew _), step_kept (Kept.below (below_drew _)) HST.out⟩ (fun k W W' hj hb => ⟨hj.1.below hb, step_kept (Kept.below hb) hj.2⟩) (fun _ _ _ => trivial) ?_ ?_ ?_
  · refine stays_phiR ?_
    simp only [List.forall_mem_cons]
    exact ⟨fun _ _ _ h _ => h, fun _ _ _ h _ => h, fun _ _ _ h _ => h, fun _ _ _ h _ => h, fun _ _ _ h _ => h, fun _ _ _ h _ => h, fun _ _ _ h _ => h, fun _ _ _ h _ => h, fun _ _ _ h _ => h, fun _ _ _ h _ => h, fun _ h => absurd h (by simp)⟩
  · refine ⟨?_, ?_, ?_, ?_, ?_, ?_, ?_, ?_, ?_, ?_, trivial⟩
    · refine opS_mk rfl rfl fun aa W2 nJ hJ hp hq K hK => ?_
      have e0 : aa.tmps[0]?.getD undef = .pointer (some ⟨P, 0, none⟩) := hp 0 (by kernel_rfl)
      clear hp hq
      clear hJ
      go_simp
      exact hK _ _ (RelB.refl _) rfl
    · refine opS_mk rfl rfl fun aa W2 nJ hJ hp hq K hK => ?_
      have e5 : aa.tmps[5]?.getD undef = .pointer (some ⟨W.heap.size, 0, none⟩) := hp 5 (by kernel_rfl)
      clear hp hq
      clear hJ
      go_simp
      exact hK _ _ (RelB.refl _) rfl
    · refine opS_mk rfl rfl fun aa W2 nJ hJ hp hq K hK => ?_
      have e213 : aa.tmps[213]?.getD undef = .pointer (some ⟨W.heap.size, 2, none⟩) := hq 1 _ (by kernel_rfl) rfl
      have cc := cell_of (j := 2) (v := .int .u32 s.ino) hJ.2 rfl
      clear hp hq
      clear hJ
      go_simp
      exact hK _ _ (RelB.refl _) rfl
    · refine opS_at (m := 0) rfl rfl fun aa W2 hJ hp hq K hK => ?_
      have e212 : aa.tmps[212]?.getD undef = .pointer (some ⟨P, 0, none⟩) := hq 0 _ (by kernel_rfl) rfl
      have e214 : aa.tmps[214]?.getD undef = .int .u32 s.ino := hq 2 _ (by kernel_rfl) rfl
      have HJ := Lib.hid hJ
      clear hJ
      clear hp hq
      go_simp
      refine (HC1.out W2 HJ.out.1).mono ?_
      rintro e w3 ⟨rfl, h3, h4⟩
      exact hK _ _ trivial ⟨h3, step_kept h4 HJ.out.2⟩ rfl
    · refine opS_mk rfl rfl fun aa W2 nJ hJ hp hq K hK => ?_
      have e1 : aa.tmps[1]?.getD undef = .pointer (some ⟨P2, 0, none⟩) := hp 1 (by kernel_rfl)
      clear hp hq
      clear hJ
      go_simp
      exact hK _ _ (RelB.refl _) rfl
    · refine opS_mk rfl rfl fun aa W2 nJ hJ hp hq K hK => ?_
      have e5 : aa.tmps[5]?.getD undef = .pointer (some ⟨W.heap.size, 0, none⟩) := hp 5 (by kernel_rfl)
      clear hp hq
      clear hJ
      go_simp
      exact hK _ _ (RelB.refl _) rfl
    · refine opS_mk rfl rfl fun aa W2 nJ hJ hp hq K hK => ?_
      have e217 : aa.tmps[217]?.getD undef = .pointer (some ⟨W.heap.size, 2, none⟩) := hq 5 _ (by kernel_rfl) rfl
      have cc := cell_of (j := 2) (v := .int .u32 s.ino) hJ.2 rfl
      clear hp hq
      clear hJ
      go_simp
      exact hK _ _ (RelB.refl _) rfl
    · refine opS_at (m := 1) rfl rfl fun aa W2 hJ hp hq K hK => ?_
      have e216 : aa.tmps[216]?.getD undef = .pointer (some ⟨P2, 0, none⟩) := hq 4 _ (by kernel_rfl) rfl
      have e218 : aa.tmps[218]?.getD undef = .int .u32 s.ino := hq 6 _ (by kernel_rfl) rfl
      have HJ := Lib.hid hJ
      clear hJ
      clear hp hq
      go_simp
      refine (HC2.out W2 HJ.out.1).mono ?_
      rintro e w3 ⟨rfl, h3, h4⟩
      exact hK _ _ trivial ⟨h3, step_kept h4 HJ.out.2⟩ rfl
    · refine opS_mk rfl rfl fun aa W2 nJ hJ hp hq K hK => ?_
      have e215 : aa.tmps[215]?.getD undef = .int .i64 a2 := hq 3 _ (by kernel_rfl) rfl
      have e219 : aa.tmps[219]?.getD undef = .int .i64 a2 := hq 7 _ (by kernel_rfl) rfl
      clear hp hq
      clear hJ
      go_simp
      exact hK _ _ (RelB.refl _) (by first | rfl | exact congrArg Value.bool (decide_eq_true rfl))
    · refine opS_mk rfl rfl fun aa W2 nJ hJ hp hq K hK => ?_
      have e220 : aa.tmps[220]?.getD undef = .bool true := hq 8 _ (by kernel_rfl) rfl
      clear hp hq
      clear hJ
      go_simp
      exact hK _ _ (RelB.refl _) rfl
  · intro vs W9 hJ9 hv9 _
    have HM2 : Hid (Mem w W9 P (N + 2) P2 G2 t2 r2) := hJ9.1
    have v9 : vs 9 = .bool true := hv9 9 _ rfl rfl
    clear hJ9 hv9
    simp only [putAll, Act.put, List.setIfInBounds_toArray, List.set_cons_succ, List.set_cons_zero, Nat.zero_add, Nat.reduceAdd, v9]
    go_wp2
    go_ret
    exact ⟨rfl, by rw [HE.out.1, HE.out.2]; exact HM2.out⟩
set_option maxRecDepth 100000 in
set_option maxHeartbeats 8000000 in
theorem t_does9 (s : PStep) (hs : s.what = 9) (hf : StepFits s) (h : Mem w W P N P2 G2 t r) (hp : Pl k t r) (hk : k ≤ 1000) (_hN : N < 900000) :
    Calls Tryz.prog 16 #[.pointer (some ⟨P, 0, none⟩), .pointer (some ⟨P2, 0, none⟩), stepV s] W (DoesPost w P N P2 G2 t r s) := by
  have hM := h.below (u_alloc1 W (.cells (stepO s) 33))
  have hST : (W.alloc (.cells (stepO s) 33)).heap[W.heap.size]? = some (.cells (stepO s) 33 (0, 0)) := World.alloc_heap_new W _
  obtain ⟨⟨a, t2⟩, hq⟩ : ∃ q, unholdP t s.ino = q := ⟨_, rfl⟩
  obtain ⟨⟨a2, r2⟩, hq2⟩ : ∃ q, D.dropR r s.ino = q := ⟨_, rfl⟩
  have hsim := hp.sim.drop hp.well s.ino
  rw [hq, hq2] at hsim
  obtain rfl : a2 = a := hsim.1
  clear hsim
  have HE : Hid ((playP t s).2 = t2 ∧ (playD r s (leastI t)).2 = r2) := by
    constructor
    · unfold playP
      simp [hs, hq]
    · unfold playD
      simp [hs, hq2]
  have HC1 : Hid (∀ W2, Mem w W2 P N P2 G2 t r → Calls Tryz.prog 32 #[.pointer (some ⟨P, 0, none⟩), .int .u32 s.ino] W2 fun e w' => e = .returned (.int .i64 a2) ∧ Mem w w' P (N + 2) P2 G2 t2 r ∧ Kept W2 w') := fun W2 hM2 => hM2.P_ (N' := N + 2) (t' := t2) (Q := fun e => e = .returned (.int .i64 a2)) fun y F hT => (t_unholdP s.ino a2 t2 hq _ hT hf.ino (hp.held.mono (by omega)) (fun x hx => hp.well.held _ x hx)).mono fun e w' hh => ⟨hh.1, hh.2.mono (by omega)⟩
  have HC2 : Hid (∀ W2, Mem w W2 P (N + 2) P2 G2 t2 r → Calls Tryz.prog 60 #[.pointer (some ⟨P2, 0, none⟩), .int .u32 s.ino] W2 fun e w' => e = .returned (.int .i64 a2) ∧ Mem w w' P (N + 2) P2 G2 t2 r2 ∧ Kept W2 w') := fun W2 hM2 => hM2.D_ (r' := r2) (Q := fun e => e = .returned (.int .i64 a2)) fun hD => D.t_drop P2 G2 r s.ino W2 hD hf.ino.1 (by have := hp.wr.at_held s.ino; omega) a2 r2 hq2
  have HST := Lib.hid hST
  have HM := Lib.hid hM
  have HS := Lib.hid hs
  unfold stepV stepO at *
  rw [hs] at HST HM ⊢
  clear hq hq2 hM hST h hp hf hs
  go_enter Tryz.func16, Tryz.ntmps16
  go_wp2
  refine wp_region_st (fun n W' => Mem w W' P (jN N n) P2 G2 (jT t t2 n) (jR r r2 n) ∧ W'.heap[W.heap.size]? = some (.cells #[.int .i64 9, .int .u32 s.dir, .int .u32 s.ino, .string s.name, .string s.toN, .int .u8 s.kind, .int .i64 s.n, .string s.data] 33 (0, 0))) RelB (fun _ _ => True) [3, 7] (phi [isV (.pointer (some ⟨P, 0, none⟩)), isV (.pointer (some ⟨W.heap.size, 2, none⟩)), isV (.int .u32 s.ino), isV (.int .i64 a2), isV (.pointer (some ⟨P2, 0, none⟩)), isV (.pointer (some ⟨W.heap.size, 2, none⟩)), isV (.int .u32 s.ino), isV (.int .i64 a2), isV (.bool true), isV (.bool true)]) (by kernel_rfl) (by kernel_rfl) (by kernel_rfl) (by kernel_rfl) (by kernel_rfl) ⟨HM.out.below (below_drew _), step_kept (Kept.below (below_drew _)) HST.out⟩ (fun k W W' hj hb => ⟨hj.1.below hb, step_kept (Kept.below hb) hj.2⟩) (fun _ _ _ => trivial) ?_ ?_ ?_
  · refine stays_phiR ?_
    simp only [List.forall_mem_cons]
    exact ⟨fun _ _ _ h _ => h, fun _ _ _ h _ => h, fun _ _ _ h _ => h, fun _ _ _ h _ => h, fun _ _ _ h _ => h, fun _ _ _ h _ => h, fun _ _ _ h _ => h, fun _ _ _ h _ => h, fun _ _ _ h _ => h, fun _ _ _ h _ => h, fun _ h => absurd h (by simp)⟩
  · refine ⟨?_, ?_, ?_, ?_, ?_, ?_, ?_, ?_, ?_, ?_, trivial⟩
    · refine opS_mk rfl rfl fun aa W2 nJ hJ hp hq K hK => ?_
      have e0 : aa.tmps[0]?.getD undef = .pointer (some ⟨P, 0, none⟩) := hp 0 (by kernel_rfl)
      clear hp hq
      clear hJ
      go_simp
      exact hK _ _ (RelB.refl _) rfl
    · refine opS_mk rfl rfl fun aa W2 nJ hJ hp hq K hK => ?_
      have e5 : aa.tmps[5]?.getD undef = .pointer (some ⟨W.heap.size, 0, none⟩) := hp 5 (by kernel_rfl)
      clear hp hq
      clear hJ
      go_simp
      exact hK _ _ (RelB.refl _) rfl
    · refine opS_mk rfl rfl fun aa W2 nJ hJ hp hq K hK => ?_
      have e224 : aa.tmps[224]?.getD undef = .pointer (some ⟨W.heap.size, 2, none⟩) := hq 1 _ (by kernel_rfl) rfl
      have cc := cell_of (j := 2) (v := .int .u32 s.ino) hJ.2 rfl
      clear hp hq
      clear hJ
      go_simp
      exact hK _ _ (RelB.refl _) rfl
    · refine opS_at (m := 0) rfl rfl fun aa W2 hJ hp hq K hK => ?_
      have e223 : aa.tmps[223]?.getD undef = .pointer (some ⟨P, 0, none⟩) := hq 0 _ (by kernel_rfl) rfl
      have e225 : aa.tmps[225]?.getD undef = .int .u32 s.ino := hq 2 _ (by kernel_rfl) rfl
      have HJ := Lib.hid hJ
      clear hJ
      clear hp hq
      go_simp
      refine (HC1.out W2 HJ.out.1).mono ?_
      rintro e w3 ⟨rfl, h3, h4⟩
      exact hK _ _ trivial ⟨h3, step_kept h4 HJ.out.2⟩ rfl
    · refine opS_mk rfl rfl fun aa W2 nJ hJ hp hq K hK => ?_
      have e1 : aa.tmps[1]?.getD undef = .pointer (some ⟨P2, 0, none⟩) := hp 1 (by kernel_rfl)
      clear hp hq
      clear hJ
      go_simp
      exact hK _ _ (RelB.refl _) rfl
    · refine opS_mk rfl rfl fun aa W2 nJ hJ hp hq K hK => ?_
      have e5 : aa.tmps[5]?.getD undef = .pointer (some ⟨W.heap.size, 0, none⟩) := hp 5 (by kernel_rfl)
      clear hp hq
      clear hJ
      go_simp
      exact hK _ _ (RelB.refl _) rfl
    · refine opS_mk rfl rfl fun aa W2 nJ hJ hp hq K hK => ?_
      have e228 : aa.tmps[228]?.getD undef = .pointer (some ⟨W.heap.size, 2, none⟩) := hq 5 _ (by kernel_rfl) rfl
      have cc := cell_of (j := 2) (v := .int .u32 s.ino) hJ.2 rfl
      clear hp hq
      clear hJ
      go_simp
      exact hK _ _ (RelB.refl _) rfl
    · refine opS_at (m := 1) rfl rfl fun aa W2 hJ hp hq K hK => ?_
      have e227 : aa.tmps[227]?.getD undef = .pointer (some ⟨P2, 0, none⟩) := hq 4 _ (by kernel_rfl) rfl
      have e229 : aa.tmps[229]?.getD undef = .int .u32 s.ino := hq 6 _ (by kernel_rfl) rfl
      have HJ := Lib.hid hJ
      clear hJ
      clear hp hq
      go_simp
      refine (HC2.out W2 HJ.out.1).mono ?_
      rintro e w3 ⟨rfl, h3, h4⟩
      exact hK _ _ trivial ⟨h3, step_kept h4 HJ.out.2⟩ rfl
    · refine opS_mk rfl rfl fun aa W2 nJ hJ hp hq K hK => ?_
      have e226 : aa.tmps[226]?.getD undef = .int .i64 a2 := hq 3 _ (by kernel_rfl) rfl
      have e230 : aa.tmps[230]?.getD undef = .int .i64 a2 := hq 7 _ (by kernel_rfl) rfl
      clear hp hq
      clear hJ
      go_simp
      exact hK _ _ (RelB.refl _) (by first | rfl | exact congrArg Value.bool (decide_eq_true rfl))
    · refine opS_mk rfl rfl fun aa W2 nJ hJ hp hq K hK => ?_
      have e231 : aa.tmps[231]?.getD undef = .bool true := hq 8 _ (by kernel_rfl) rfl
      clear hp hq
      clear hJ
      go_simp
      exact hK _ _ (RelB.refl _) rfl
  · intro vs W9 hJ9 hv9 _
    have HM2 : Hid (Mem w W9 P (N + 2) P2 G2 t2 r2) := hJ9.1
    have v9 : vs 9 = .bool true := hv9 9 _ rfl rfl
    clear hJ9 hv9
    simp only [putAll, Act.put, List.setIfInBounds_toArray, List.set_cons_succ, List.set_cons_zero, Nat.zero_add, Nat.reduceAdd, v9]
    go_wp2
    go_ret
    exact ⟨rfl, by rw [HE.out.1, HE.out.2]; exact HM2.out⟩
set_option maxRecDepth 100000 in
set_option maxHeartbeats 4000000 in
theorem t_doesN (s : PStep) (hs : ∀ i : Int, 0 ≤ i → i ≤ 9 → s.what ≠ i) (h : Mem w W P N P2 G2 t r) :
    Calls Tryz.prog 16 #[.pointer (some ⟨P, 0, none⟩), .pointer (some ⟨P2, 0, none⟩), stepV s] W (DoesPost w P N P2 G2 t r s) := by
  have hM := h.below (u_alloc1 W (.cells (stepO s) 33))
  have HM := Lib.hid hM
  have HE : Hid (playP t s = (0, t) ∧ playD r s (leastI t) = (0, r)) := by
    constructor
    · unfold playP
      rw [if_neg (hs 0 (by decide) (by decide)), if_neg (hs 1 (by decide) (by decide)), if_neg (hs 2 (by decide) (by decide)), if_neg (hs 3 (by decide) (by decide)), if_neg (hs 4 (by decide) (by decide)), if_neg (hs 5 (by decide) (by decide)), if_neg (hs 6 (by decide) (by decide)), if_neg (hs 7 (by decide) (by decide)), if_neg (hs 8 (by decide) (by decide)), if_neg (hs 9 (by decide) (by decide))]
    · unfold playD
      rw [if_neg (hs 0 (by decide) (by decide)), if_neg (hs 1 (by decide) (by decide)), if_neg (hs 2 (by decide) (by decide)), if_neg (hs 3 (by decide) (by decide)), if_neg (hs 4 (by decide) (by decide)), if_neg (hs 5 (by decide) (by decide)), if_neg (hs 6 (by decide) (by decide)), if_neg (hs 7 (by decide) (by decide)), if_neg (hs 8 (by decide) (by decide)), if_neg (hs 9 (by decide) (by decide))]
  have e0 : (s.what == 0) = false := by simpa using hs 0 (by decide) (by decide)
  have e1 : (s.what == 1) = false := by simpa using hs 1 (by decide) (by decide)
  have e2 : (s.what == 2) = false := by simpa using hs 2 (by decide) (by decide)
  have e3 : (s.what == 3) = false := by simpa using hs 3 (by decide) (by decide)
  have e4 : (s.what == 4) = false := by simpa using hs 4 (by decide) (by decide)
  have e5 : (s.what == 5) = false := by simpa using hs 5 (by decide) (by decide)
  have e6 : (s.what == 6) = false := by simpa using hs 6 (by decide) (by decide)
  have e7 : (s.what == 7) = false := by simpa using hs 7 (by decide) (by decide)
  have e8 : (s.what == 8) = false := by simpa using hs 8 (by decide) (by decide)
  have e9 : (s.what == 9) = false := by simpa using hs 9 (by decide) (by decide)
  unfold stepV
  unfold stepO at HM
  clear hM h hs
  go_enter Tryz.func16, Tryz.ntmps16
  go_wp2
  go_ret
  exact ⟨rfl, by rw [HE.out.1, HE.out.2]; exact HM.out.mono (Nat.le_add_right _ _)⟩
theorem t_does (s : PStep) (hf : StepFits s) (h : Mem w W P N P2 G2 t r) (hp : Pl k t r) (hk : k ≤ 1000) (hN : N < 900000) :
    Calls Tryz.prog 16 #[.pointer (some ⟨P, 0, none⟩), .pointer (some ⟨P2, 0, none⟩), stepV s] W (DoesPost w P N P2 G2 t r s) := by
  by_cases h0 : s.what = 0
  · exact t_does0 s h0 hf h hp hk hN
  by_cases h1 : s.what = 1
  · exact t_does1 s h1 hf h hp hk hN
  by_cases h2 : s.what = 2
  · exact t_does2 s h2 hf h hp hk hN
  by_cases h3 : s.what = 3
  · exact t_does3 s h3 hf h hp hk hN
  by_cases h4 : s.what = 4
  · exact t_does4 s h4 hf h hp hk hN
  by_cases h5 : s.what = 5
  · exact t_does5 s h5 hf h hp hk hN
  by_cases h6 : s.what = 6
  · exact t_does6 s h6 hf h hp hk hN
  by_cases h7 : s.what = 7
  · exact t_does7 s h7 hf h hp hk hN
  by_cases h8 : s.what = 8
  · exact t_does8 s h8 hf h hp hk hN
  by_cases h9 : s.what = 9
  · exact t_does9 s h9 hf h hp hk hN
  exact t_doesN s (fun i i0 i9 e => by omega) h
end
end Go.Proofs.YtpcjbfhgmcioaaaGreat
