/- What tree's functions answer where there is no tree. -/
import Derived.Test.YtpcjbfhgmcioaaaGreatTI
namespace Go.Proofs.YtpcjbfhgmcioaaaGreat
open Go.RowKit Go.Maps

/-- A function value, and what is new. -/
def RetF (w : World) (e : Ending) (w' : World) : Prop := ∃ g lb, e = .returned (.func (.func g) #[] lb) ∧ Below w.heap.size w w'
theorem frozen_of {W : World} {B j : Nat} {cs : Array Value} {T : TypeId} (h : W.heap[B]? = some (.cells cs T (0, 0))) : W.frozen? ⟨B, j, none⟩ = false := by simp [World.frozen?, h]
def isF : Ph := fun v _ => ∃ g lb, v = .func (.func g) #[] lb
def isS (n : Nat) : Ph := fun v _ => ∃ A c, v = .slice A n c

set_option maxRecDepth 100000 in
theorem n_names (A : Option Addr) (n c : Nat) (w : World) : Calls Tryz.prog 38 #[.slice A n c] w (RetF w) := by
  go_enter Tryz.func38, Tryz.ntmps38
  go_wp2
  go_ret
  exact ⟨_, _, rfl, below_a1 _ _⟩

set_option maxRecDepth 100000 in
theorem n_there (A : Option Addr) (n c : Nat) (w : World) : Calls Tryz.prog 40 #[.pointer none, .slice A n c] w (RetF w) := by
  go_enter Tryz.func40, Tryz.ntmps40
  go_wp2
  go_ret
  exact ⟨_, _, rfl, below_a2 _ _ _⟩

set_option maxRecDepth 100000 in
theorem n_dirs (A : Option Addr) (n c : Nat) (w : World) : Calls Tryz.prog 41 #[.pointer none, .slice A n c] w (RetF w) := by
  go_enter Tryz.func41, Tryz.ntmps41
  go_wp2
  go_ret
  exact ⟨_, _, rfl, below_a2 _ _ _⟩

set_option maxRecDepth 100000 in
theorem n_file (i : Int) (w : World) : Calls Tryz.prog 48 #[.pointer none, .int .u32 i] w (RetF w) := by
  go_enter Tryz.func48, Tryz.ntmps48
  go_wp2
  go_ret
  exact ⟨_, _, rfl, below_a2 _ _ _⟩

set_option maxRecDepth 100000 in
theorem n_fresh (i : Int) (s : ByteArray) (w : World) : Calls Tryz.prog 42 #[.pointer none, .int .u32 i, .string s] w (RetF w) := by
  go_enter Tryz.func42, Tryz.ntmps42
  go_wp2
  go_ret
  exact ⟨_, _, rfl, (below_a2 _ _ _).alloc (by simp; omega) _⟩

set_option maxRecDepth 100000 in
theorem n_kinds (k : Int) (w : World) : Calls Tryz.prog 39 #[.int .u8 k] w (RetF w) := by
  go_enter Tryz.func39, Tryz.ntmps39
  go_wp2
  go_ret
  exact ⟨_, _, rfl, below_a1 _ _⟩

set_option maxRecDepth 100000 in
theorem n_paged (k : Int) (w : World) : Calls Tryz.prog 49 #[.int .i64 k] w (RetF w) := by
  go_enter Tryz.func49, Tryz.ntmps49
  go_wp2
  go_ret
  exact ⟨_, _, rfl, below_a1 _ _⟩

set_option maxRecDepth 100000 in
theorem n_check (A : Option Addr) (n c : Nat) (w : World) : Calls Tryz.prog 37 #[.pointer none, .slice A n c] w fun e w' => e = .returned (.int .i64 1) ∧ Below w.heap.size w w' := by
  go_enter Tryz.func37, Tryz.ntmps37
  go_wp2
  go_ret
  exact ⟨rfl, by first | exact Below.refl _ _ | exact below_a1 _ _⟩

set_option maxRecDepth 100000 in
set_option maxHeartbeats 4000000 in
theorem n_Look (d : Int) (s : ByteArray) (w : World) : Calls Tryz.prog 23 #[.pointer none, .int .u32 d, .string s] w fun e w' => e = .returned (.tuple #[.int .u32 0, .int .i64 1]) ∧ Below w.heap.size w w' := by
  go_enter Tryz.func23, Tryz.ntmps23
  have HX0 : Hid (((((w.alloc (.cells #[.pointer none] 26)).alloc (.cells #[.int .u32 d] 23)).alloc (.cells #[.string s] 9)).alloc (.cells #[.int .u32 0] 23)).heap[w.heap.size]? = some (.cells #[.pointer none] 26 (0, 0))) := by
    have h := st_below (st_below (st_below (World.alloc_heap_new w (.cells #[.pointer none] 26)) (u_alloc1 _ (.cells #[.int .u32 d] 23))) (u_alloc1 _ (.cells #[.string s] 9))) (u_alloc1 _ (.cells #[.int .u32 0] 23))
    exact Lib.hid (by simpa only [World.size_alloc] using h)
  have HX1 : Hid (((((w.alloc (.cells #[.pointer none] 26)).alloc (.cells #[.int .u32 d] 23)).alloc (.cells #[.string s] 9)).alloc (.cells #[.int .u32 0] 23)).heap[w.heap.size + 1]? = some (.cells #[.int .u32 d] 23 (0, 0))) := by
    have h := st_below (st_below (World.alloc_heap_new (w.alloc (.cells #[.pointer none] 26)) (.cells #[.int .u32 d] 23)) (u_alloc1 _ (.cells #[.string s] 9))) (u_alloc1 _ (.cells #[.int .u32 0] 23))
    exact Lib.hid (by simpa only [World.size_alloc] using h)
  have HX2 : Hid (((((w.alloc (.cells #[.pointer none] 26)).alloc (.cells #[.int .u32 d] 23)).alloc (.cells #[.string s] 9)).alloc (.cells #[.int .u32 0] 23)).heap[w.heap.size + 1 + 1]? = some (.cells #[.string s] 9 (0, 0))) := by
    have h := st_below (World.alloc_heap_new ((w.alloc (.cells #[.pointer none] 26)).alloc (.cells #[.int .u32 d] 23)) (.cells #[.string s] 9)) (u_alloc1 _ (.cells #[.int .u32 0] 23))
    exact Lib.hid (by simpa only [World.size_alloc] using h)
  have HX3 : Hid (((((w.alloc (.cells #[.pointer none] 26)).alloc (.cells #[.int .u32 d] 23)).alloc (.cells #[.string s] 9)).alloc (.cells #[.int .u32 0] 23)).heap[w.heap.size + 1 + 1 + 1]? = some (.cells #[.int .u32 0] 23 (0, 0))) := by
    have h := World.alloc_heap_new (((w.alloc (.cells #[.pointer none] 26)).alloc (.cells #[.int .u32 d] 23)).alloc (.cells #[.string s] 9)) (.cells #[.int .u32 0] 23)
    exact Lib.hid (by simpa only [World.size_alloc] using h)
  have HB0 : Hid (Below w.heap.size w ((((w.alloc (.cells #[.pointer none] 26)).alloc (.cells #[.int .u32 d] 23)).alloc (.cells #[.string s] 9)).alloc (.cells #[.int .u32 0] 23))) := Lib.hid (by repeat (first | exact Below.refl _ _ | refine Below.alloc ?_ (by simp <;> omega) _ | refine Below.setCell ?_ (by simp <;> omega) _))
  go_wp2
  refine wp_region_rel RelB (phi [isV (.pointer none), isV (.string s), isS 1, isF, isV (.pointer none), isV (.int .u32 d), isS 1, isF, isV (.pointer none), isV (.int .u32 d), isS 1, isF, isF, isS 4, isV (.int .i64 1), isV (.int .i64 1)]) (by kernel_rfl) (by kernel_rfl) (by kernel_rfl) (RelB.of (below_drew _)) (fun _ _ _ a b => a.trans b) ?_ ?_ ?_
  · refine stays_phiR ?_
    simp only [List.forall_mem_cons]
    exact ⟨fun _ _ _ h _ => h, fun _ _ _ h _ => h, fun _ _ _ h _ => h, fun _ _ _ h _ => h, fun _ _ _ h _ => h, fun _ _ _ h _ => h, fun _ _ _ h _ => h, fun _ _ _ h _ => h, fun _ _ _ h _ => h, fun _ _ _ h _ => h, fun _ _ _ h _ => h, fun _ _ _ h _ => h, fun _ _ _ h _ => h, fun _ _ _ h _ => h, fun _ _ _ h _ => h, fun _ _ _ h _ => h, fun _ h => absurd h (by simp)⟩
  · refine ⟨?_, ?_, ?_, ?_, ?_, ?_, ?_, ?_, ?_, ?_, ?_, ?_, ?_, ?_, ?_, ?_, trivial⟩
    · refine opR_mk rfl fun aa W2 hB hp hq K hK => ?_
      have e3 : aa.tmps[3]?.getD undef = .pointer (some ⟨w.heap.size, 0, none⟩) := hp 3 (by kernel_rfl)
      have cc := cell_of (j := 0) (v := .pointer none) (st_below HX0.out hB) rfl
      clear hp hq
      go_simp
      exact hK _ _ (RelB.refl _) rfl
    · refine opR_mk rfl fun aa W2 hB hp hq K hK => ?_
      have e5 : aa.tmps[5]?.getD undef = .pointer (some ⟨w.heap.size + 1 + 1, 0, none⟩) := hp 5 (by kernel_rfl)
      have cc := cell_of (j := 0) (v := .string s) (st_below HX2.out hB) rfl
      clear hp hq
      go_simp
      exact hK _ _ (RelB.refl _) rfl
    · refine opR_mk rfl fun aa W2 hB hp hq K hK => ?_
      have e9 : aa.tmps[9]?.getD undef = .string s := hq 1 _ (by kernel_rfl) rfl
      clear hp hq
      go_simp
      exact hK _ _ (RelB.of (u_alloc1 W2 _)) ⟨_, _, rfl⟩
    · refine opR_mk rfl fun aa W2 hB hp hq K hK => ?_
      obtain ⟨A10, c10, e10⟩ := hq 2 _ (by kernel_rfl) rfl
      have e10 : aa.tmps[10]?.getD undef = .slice A10 1 c10 := e10
      clear hp hq
      go_simp
      refine (n_names A10 1 c10 W2).mono ?_
      rintro e w2 ⟨g, lb, rfl, hb⟩
      exact hK _ _ (RelB.of hb) ⟨g, lb, rfl⟩
    · refine opR_mk rfl fun aa W2 hB hp hq K hK => ?_
      have e3 : aa.tmps[3]?.getD undef = .pointer (some ⟨w.heap.size, 0, none⟩) := hp 3 (by kernel_rfl)
      have cc := cell_of (j := 0) (v := .pointer none) (st_below HX0.out hB) rfl
      clear hp hq
      go_simp
      exact hK _ _ (RelB.refl _) rfl
    · refine opR_mk rfl fun aa W2 hB hp hq K hK => ?_
      have e4 : aa.tmps[4]?.getD undef = .pointer (some ⟨w.heap.size + 1, 0, none⟩) := hp 4 (by kernel_rfl)
      have cc := cell_of (j := 0) (v := .int .u32 d) (st_below HX1.out hB) rfl
      clear hp hq
      go_simp
      exact hK _ _ (RelB.refl _) rfl
    · refine opR_mk rfl fun aa W2 hB hp hq K hK => ?_
      have e13 : aa.tmps[13]?.getD undef = .int .u32 d := hq 5 _ (by kernel_rfl) rfl
      clear hp hq
      go_simp
      exact hK _ _ (RelB.of (u_alloc1 W2 _)) ⟨_, _, rfl⟩
    · refine opR_mk rfl fun aa W2 hB hp hq K hK => ?_
      have e12 : aa.tmps[12]?.getD undef = .pointer none := hq 4 _ (by kernel_rfl) rfl
      obtain ⟨A14, c14, e14⟩ := hq 6 _ (by kernel_rfl) rfl
      have e14 : aa.tmps[14]?.getD undef = .slice A14 1 c14 := e14
      clear hp hq
      go_simp
      refine (n_there A14 1 c14 W2).mono ?_
      rintro e w2 ⟨g, lb, rfl, hb⟩
      exact hK _ _ (RelB.of hb) ⟨g, lb, rfl⟩
    · refine opR_mk rfl fun aa W2 hB hp hq K hK => ?_
      have e3 : aa.tmps[3]?.getD undef = .pointer (some ⟨w.heap.size, 0, none⟩) := hp 3 (by kernel_rfl)
      have cc := cell_of (j := 0) (v := .pointer none) (st_below HX0.out hB) rfl
      clear hp hq
      go_simp
      exact hK _ _ (RelB.refl _) rfl
    · refine opR_mk rfl fun aa W2 hB hp hq K hK => ?_
      have e4 : aa.tmps[4]?.getD undef = .pointer (some ⟨w.heap.size + 1, 0, none⟩) := hp 4 (by kernel_rfl)
      have cc := cell_of (j := 0) (v := .int .u32 d) (st_below HX1.out hB) rfl
      clear hp hq
      go_simp
      exact hK _ _ (RelB.refl _) rfl
    · refine opR_mk rfl fun aa W2 hB hp hq K hK => ?_
      have e17 : aa.tmps[17]?.getD undef = .int .u32 d := hq 9 _ (by kernel_rfl) rfl
      clear hp hq
      go_simp
      exact hK _ _ (RelB.of (u_alloc1 W2 _)) ⟨_, _, rfl⟩
    · refine opR_mk rfl fun aa W2 hB hp hq K hK => ?_
      have e16 : aa.tmps[16]?.getD undef = .pointer none := hq 8 _ (by kernel_rfl) rfl
      obtain ⟨A18, c18, e18⟩ := hq 10 _ (by kernel_rfl) rfl
      have e18 : aa.tmps[18]?.getD undef = .slice A18 1 c18 := e18
      clear hp hq
      go_simp
      refine (n_dirs A18 1 c18 W2).mono ?_
      rintro e w2 ⟨g, lb, rfl, hb⟩
      exact hK _ _ (RelB.of hb) ⟨g, lb, rfl⟩
    · refine opR_mk rfl fun aa W2 hB hp hq K hK => ?_
      have e3 : aa.tmps[3]?.getD undef = .pointer (some ⟨w.heap.size, 0, none⟩) := hp 3 (by kernel_rfl)
      have e4 : aa.tmps[4]?.getD undef = .pointer (some ⟨w.heap.size + 1, 0, none⟩) := hp 4 (by kernel_rfl)
      have e5 : aa.tmps[5]?.getD undef = .pointer (some ⟨w.heap.size + 1 + 1, 0, none⟩) := hp 5 (by kernel_rfl)
      have e6 : aa.tmps[6]?.getD undef = .pointer (some ⟨w.heap.size + 1 + 1 + 1, 0, none⟩) := hp 6 (by kernel_rfl)
      clear hp hq
      go_simp
      exact hK _ _ (RelB.refl _) ⟨_, _, rfl⟩
    · refine opR_mk rfl fun aa W2 hB hp hq K hK => ?_
      obtain ⟨g11, lb11, e11⟩ := hq 3 _ (by kernel_rfl) rfl
      have e11 : aa.tmps[11]?.getD undef = .func (.func g11) #[] lb11 := e11
      obtain ⟨g15, lb15, e15⟩ := hq 7 _ (by kernel_rfl) rfl
      have e15 : aa.tmps[15]?.getD undef = .func (.func g15) #[] lb15 := e15
      obtain ⟨g19, lb19, e19⟩ := hq 11 _ (by kernel_rfl) rfl
      have e19 : aa.tmps[19]?.getD undef = .func (.func g19) #[] lb19 := e19
      obtain ⟨g20, lb20, e20⟩ := hq 12 _ (by kernel_rfl) rfl
      have e20 : aa.tmps[20]?.getD undef = .func (.func g20) #[] lb20 := e20
      clear hp hq
      go_simp
      exact hK _ _ (RelB.of (u_alloc1 W2 _)) ⟨_, _, rfl⟩
    · refine opR_mk rfl fun aa W2 hB hp hq K hK => ?_
      have e8 : aa.tmps[8]?.getD undef = .pointer none := hq 0 _ (by kernel_rfl) rfl
      obtain ⟨A21, c21, e21⟩ := hq 13 _ (by kernel_rfl) rfl
      have e21 : aa.tmps[21]?.getD undef = .slice A21 4 c21 := e21
      clear hp hq
      go_simp
      refine (n_check A21 4 c21 W2).mono ?_
      rintro e w2 ⟨rfl, hb⟩
      exact hK _ _ (RelB.of hb) rfl
    · refine opR_mk rfl fun aa W2 hB hp hq K hK => ?_
      have e22 : aa.tmps[22]?.getD undef = .int .i64 1 := hq 14 _ (by kernel_rfl) rfl
      clear hp hq
      go_simp
      exact hK _ _ (RelB.refl _) rfl
  · intro vs W3 hB3 hv3 _
    have v15 : vs 15 = .int .i64 1 := hv3 15 _ rfl rfl
    have HS := Lib.hid (st_below HX3.out hB3)
    have fz := frozen_of (j := 0) HS.out
    have bx0 := cell_of (j := 0) (v := .pointer none) (st_below HX0.out hB3) rfl
    have bx1 := cell_of (j := 0) (v := .int .u32 d) (st_below HX1.out hB3) rfl
    have bx2 := cell_of (j := 0) (v := .string s) (st_below HX2.out hB3) rfl
    have bx3 := cell_of (j := 0) (v := .int .u32 0) (st_below HX3.out hB3) rfl
    have HB3 := Lib.hid (ptrans HB0.out hB3)
    clear hB3 hv3
    simp only [putAll, Act.put, List.setIfInBounds_toArray, List.set_cons_succ, List.set_cons_zero, Nat.zero_add, Nat.reduceAdd, v15]
    go_wp2
    have kk := cell_of (j := 0) (v := .int .u32 0) (pheap_set W3 (w.heap.size + 1 + 1 + 1) 0 (.int .u32 0) _ _ HS.out) rfl
    exact bodyPost_ret (v := .tuple #[.int .u32 0, .int .i64 1]) (by simp [results, Tryz.results23, go_sem, kk]) rfl ⟨rfl, HB3.out.setCell (p := ⟨w.heap.size + 1 + 1 + 1, 0, none⟩) (by show w.heap.size ≤ w.heap.size + 1 + 1 + 1; omega) _⟩

set_option maxRecDepth 100000 in
set_option maxHeartbeats 4000000 in
theorem n_Make (d : Int) (s : ByteArray) (k : Int) (w : World) : Calls Tryz.prog 12 #[.pointer none, .int .u32 d, .string s, .int .u8 k] w fun e w' => e = .returned (.tuple #[.int .u32 0, .int .i64 1]) ∧ Below w.heap.size w w' := by
  go_enter Tryz.func12, Tryz.ntmps12
  have HX0 : Hid (((w.alloc (.cells #[.pointer none] 26)).alloc (.cells #[.int .u32 0] 23)).heap[w.heap.size]? = some (.cells #[.pointer none] 26 (0, 0))) := by
    have h := st_below (World.alloc_heap_new w (.cells #[.pointer none] 26)) (u_alloc1 _ (.cells #[.int .u32 0] 23))
    exact Lib.hid (by simpa only [World.size_alloc] using h)
  have HX1 : Hid (((w.alloc (.cells #[.pointer none] 26)).alloc (.cells #[.int .u32 0] 23)).heap[w.heap.size + 1]? = some (.cells #[.int .u32 0] 23 (0, 0))) := by
    have h := World.alloc_heap_new (w.alloc (.cells #[.pointer none] 26)) (.cells #[.int .u32 0] 23)
    exact Lib.hid (by simpa only [World.size_alloc] using h)
  have HB0 : Hid (Below w.heap.size w ((w.alloc (.cells #[.pointer none] 26)).alloc (.cells #[.int .u32 0] 23))) := Lib.hid (by repeat (first | exact Below.refl _ _ | refine Below.alloc ?_ (by simp <;> omega) _ | refine Below.setCell ?_ (by simp <;> omega) _))
  go_wp2
  refine wp_region_rel RelB (phi [isV (.pointer none), isV (.string s), isS 1, isF, isV (.int .u8 k), isF, isV (.pointer none), isV (.int .u32 d), isS 1, isF, isV (.pointer none), isV (.int .u32 d), isS 1, isF, isV (.pointer none), isV (.int .u32 d), isV (.string s), isF, isF, isS 6, isV (.int .i64 1), isV (.int .i64 1)]) (by kernel_rfl) (by kernel_rfl) (by kernel_rfl) (RelB.of (below_drew _)) (fun _ _ _ a b => a.trans b) ?_ ?_ ?_
  · refine stays_phiR ?_
    simp only [List.forall_mem_cons]
    exact ⟨fun _ _ _ h _ => h, fun _ _ _ h _ => h, fun _ _ _ h _ => h, fun _ _ _ h _ => h, fun _ _ _ h _ => h, fun _ _ _ h _ => h, fun _ _ _ h _ => h, fun _ _ _ h _ => h, fun _ _ _ h _ => h, fun _ _ _ h _ => h, fun _ _ _ h _ => h, fun _ _ _ h _ => h, fun _ _ _ h _ => h, fun _ _ _ h _ => h, fun _ _ _ h _ => h, fun _ _ _ h _ => h, fun _ _ _ h _ => h, fun _ _ _ h _ => h, fun _ _ _ h _ => h, fun _ _ _ h _ => h, fun _ _ _ h _ => h, fun _ _ _ h _ => h, fun _ h => absurd h (by simp)⟩
  · refine ⟨?_, ?_, ?_, ?_, ?_, ?_, ?_, ?_, ?_, ?_, ?_, ?_, ?_, ?_, ?_, ?_, ?_, ?_, ?_, ?_, ?_, ?_, trivial⟩
    · refine opR_mk rfl fun aa W2 hB hp hq K hK => ?_
      have e4 : aa.tmps[4]?.getD undef = .pointer (some ⟨w.heap.size, 0, none⟩) := hp 4 (by kernel_rfl)
      have cc := cell_of (j := 0) (v := .pointer none) (st_below HX0.out hB) rfl
      clear hp hq
      go_simp
      exact hK _ _ (RelB.refl _) rfl
    · refine opR_mk rfl fun aa W2 hB hp hq K hK => ?_
      have e2 : aa.tmps[2]?.getD undef = .string s := hp 2 (by kernel_rfl)
      clear hp hq
      go_simp
      exact hK _ _ (RelB.refl _) rfl
    · refine opR_mk rfl fun aa W2 hB hp hq K hK => ?_
      have e11 : aa.tmps[11]?.getD undef = .string s := hq 1 _ (by kernel_rfl) rfl
      clear hp hq
      go_simp
      exact hK _ _ (RelB.of (u_alloc1 W2 _)) ⟨_, _, rfl⟩
    · refine opR_mk rfl fun aa W2 hB hp hq K hK => ?_
      obtain ⟨A12, c12, e12⟩ := hq 2 _ (by kernel_rfl) rfl
      have e12 : aa.tmps[12]?.getD undef = .slice A12 1 c12 := e12
      clear hp hq
      go_simp
      refine (n_names A12 1 c12 W2).mono ?_
      rintro e w2 ⟨g, lb, rfl, hb⟩
      exact hK _ _ (RelB.of hb) ⟨g, lb, rfl⟩
    · refine opR_mk rfl fun aa W2 hB hp hq K hK => ?_
      have e3 : aa.tmps[3]?.getD undef = .int .u8 k := hp 3 (by kernel_rfl)
      clear hp hq
      go_simp
      exact hK _ _ (RelB.refl _) rfl
    · refine opR_mk rfl fun aa W2 hB hp hq K hK => ?_
      have e14 : aa.tmps[14]?.getD undef = .int .u8 k := hq 4 _ (by kernel_rfl) rfl
      clear hp hq
      go_simp
      refine (n_kinds _ W2).mono ?_
      rintro e w2 ⟨g, lb, rfl, hb⟩
      exact hK _ _ (RelB.of hb) ⟨g, lb, rfl⟩
    · refine opR_mk rfl fun aa W2 hB hp hq K hK => ?_
      have e4 : aa.tmps[4]?.getD undef = .pointer (some ⟨w.heap.size, 0, none⟩) := hp 4 (by kernel_rfl)
      have cc := cell_of (j := 0) (v := .pointer none) (st_below HX0.out hB) rfl
      clear hp hq
      go_simp
      exact hK _ _ (RelB.refl _) rfl
    · refine opR_mk rfl fun aa W2 hB hp hq K hK => ?_
      have e1 : aa.tmps[1]?.getD undef = .int .u32 d := hp 1 (by kernel_rfl)
      clear hp hq
      go_simp
      exact hK _ _ (RelB.refl _) rfl
    · refine opR_mk rfl fun aa W2 hB hp hq K hK => ?_
      have e17 : aa.tmps[17]?.getD undef = .int .u32 d := hq 7 _ (by kernel_rfl) rfl
      clear hp hq
      go_simp
      exact hK _ _ (RelB.of (u_alloc1 W2 _)) ⟨_, _, rfl⟩
    · refine opR_mk rfl fun aa W2 hB hp hq K hK => ?_
      have e16 : aa.tmps[16]?.getD undef = .pointer none := hq 6 _ (by kernel_rfl) rfl
      obtain ⟨A18, c18, e18⟩ := hq 8 _ (by kernel_rfl) rfl
      have e18 : aa.tmps[18]?.getD undef = .slice A18 1 c18 := e18
      clear hp hq
      go_simp
      refine (n_there A18 1 c18 W2).mono ?_
      rintro e w2 ⟨g, lb, rfl, hb⟩
      exact hK _ _ (RelB.of hb) ⟨g, lb, rfl⟩
    · refine opR_mk rfl fun aa W2 hB hp hq K hK => ?_
      have e4 : aa.tmps[4]?.getD undef = .pointer (some ⟨w.heap.size, 0, none⟩) := hp 4 (by kernel_rfl)
      have cc := cell_of (j := 0) (v := .pointer none) (st_below HX0.out hB) rfl
      clear hp hq
      go_simp
      exact hK _ _ (RelB.refl _) rfl
    · refine opR_mk rfl fun aa W2 hB hp hq K hK => ?_
      have e1 : aa.tmps[1]?.getD undef = .int .u32 d := hp 1 (by kernel_rfl)
      clear hp hq
      go_simp
      exact hK _ _ (RelB.refl _) rfl
    · refine opR_mk rfl fun aa W2 hB hp hq K hK => ?_
      have e21 : aa.tmps[21]?.getD undef = .int .u32 d := hq 11 _ (by kernel_rfl) rfl
      clear hp hq
      go_simp
      exact hK _ _ (RelB.of (u_alloc1 W2 _)) ⟨_, _, rfl⟩
    · refine opR_mk rfl fun aa W2 hB hp hq K hK => ?_
      have e20 : aa.tmps[20]?.getD undef = .pointer none := hq 10 _ (by kernel_rfl) rfl
      obtain ⟨A22, c22, e22⟩ := hq 12 _ (by kernel_rfl) rfl
      have e22 : aa.tmps[22]?.getD undef = .slice A22 1 c22 := e22
      clear hp hq
      go_simp
      refine (n_dirs A22 1 c22 W2).mono ?_
      rintro e w2 ⟨g, lb, rfl, hb⟩
      exact hK _ _ (RelB.of hb) ⟨g, lb, rfl⟩
    · refine opR_mk rfl fun aa W2 hB hp hq K hK => ?_
      have e4 : aa.tmps[4]?.getD undef = .pointer (some ⟨w.heap.size, 0, none⟩) := hp 4 (by kernel_rfl)
      have cc := cell_of (j := 0) (v := .pointer none) (st_below HX0.out hB) rfl
      clear hp hq
      go_simp
      exact hK _ _ (RelB.refl _) rfl
    · refine opR_mk rfl fun aa W2 hB hp hq K hK => ?_
      have e1 : aa.tmps[1]?.getD undef = .int .u32 d := hp 1 (by kernel_rfl)
      clear hp hq
      go_simp
      exact hK _ _ (RelB.refl _) rfl
    · refine opR_mk rfl fun aa W2 hB hp hq K hK => ?_
      have e2 : aa.tmps[2]?.getD undef = .string s := hp 2 (by kernel_rfl)
      clear hp hq
      go_simp
      exact hK _ _ (RelB.refl _) rfl
    · refine opR_mk rfl fun aa W2 hB hp hq K hK => ?_
      have e24 : aa.tmps[24]?.getD undef = .pointer none := hq 14 _ (by kernel_rfl) rfl
      have e25 : aa.tmps[25]?.getD undef = .int .u32 d := hq 15 _ (by kernel_rfl) rfl
      have e26 : aa.tmps[26]?.getD undef = .string s := hq 16 _ (by kernel_rfl) rfl
      clear hp hq
      go_simp
      refine (n_fresh _ _ W2).mono ?_
      rintro e w2 ⟨g, lb, rfl, hb⟩
      exact hK _ _ (RelB.of hb) ⟨g, lb, rfl⟩
    · refine opR_mk rfl fun aa W2 hB hp hq K hK => ?_
      have e8 : aa.tmps[8]?.getD undef = .pointer (some ⟨w.heap.size + 1, 0, none⟩) := hp 8 (by kernel_rfl)
      have e4 : aa.tmps[4]?.getD undef = .pointer (some ⟨w.heap.size, 0, none⟩) := hp 4 (by kernel_rfl)
      clear hp hq
      go_simp
      exact hK _ _ (RelB.refl _) ⟨_, _, rfl⟩
    · refine opR_mk rfl fun aa W2 hB hp hq K hK => ?_
      obtain ⟨g13, lb13, e13⟩ := hq 3 _ (by kernel_rfl) rfl
      have e13 : aa.tmps[13]?.getD undef = .func (.func g13) #[] lb13 := e13
      obtain ⟨g15, lb15, e15⟩ := hq 5 _ (by kernel_rfl) rfl
      have e15 : aa.tmps[15]?.getD undef = .func (.func g15) #[] lb15 := e15
      obtain ⟨g19, lb19, e19⟩ := hq 9 _ (by kernel_rfl) rfl
      have e19 : aa.tmps[19]?.getD undef = .func (.func g19) #[] lb19 := e19
      obtain ⟨g23, lb23, e23⟩ := hq 13 _ (by kernel_rfl) rfl
      have e23 : aa.tmps[23]?.getD undef = .func (.func g23) #[] lb23 := e23
      obtain ⟨g27, lb27, e27⟩ := hq 17 _ (by kernel_rfl) rfl
      have e27 : aa.tmps[27]?.getD undef = .func (.func g27) #[] lb27 := e27
      obtain ⟨g28, lb28, e28⟩ := hq 18 _ (by kernel_rfl) rfl
      have e28 : aa.tmps[28]?.getD undef = .func (.func g28) #[] lb28 := e28
      clear hp hq
      go_simp
      exact hK _ _ (RelB.of (u_alloc1 W2 _)) ⟨_, _, rfl⟩
    · refine opR_mk rfl fun aa W2 hB hp hq K hK => ?_
      have e10 : aa.tmps[10]?.getD undef = .pointer none := hq 0 _ (by kernel_rfl) rfl
      obtain ⟨A29, c29, e29⟩ := hq 19 _ (by kernel_rfl) rfl
      have e29 : aa.tmps[29]?.getD undef = .slice A29 6 c29 := e29
      clear hp hq
      go_simp
      refine (n_check A29 6 c29 W2).mono ?_
      rintro e w2 ⟨rfl, hb⟩
      exact hK _ _ (RelB.of hb) rfl
    · refine opR_mk rfl fun aa W2 hB hp hq K hK => ?_
      have e30 : aa.tmps[30]?.getD undef = .int .i64 1 := hq 20 _ (by kernel_rfl) rfl
      clear hp hq
      go_simp
      exact hK _ _ (RelB.refl _) rfl
  · intro vs W3 hB3 hv3 _
    have v21 : vs 21 = .int .i64 1 := hv3 21 _ rfl rfl
    have HS := Lib.hid (st_below HX1.out hB3)
    have fz := frozen_of (j := 0) HS.out
    have bx0 := cell_of (j := 0) (v := .pointer none) (st_below HX0.out hB3) rfl
    have bx1 := cell_of (j := 0) (v := .int .u32 0) (st_below HX1.out hB3) rfl
    have HB3 := Lib.hid (ptrans HB0.out hB3)
    clear hB3 hv3
    simp only [putAll, Act.put, List.setIfInBounds_toArray, List.set_cons_succ, List.set_cons_zero, Nat.zero_add, Nat.reduceAdd, v21]
    go_wp2
    have kk := cell_of (j := 0) (v := .int .u32 0) (pheap_set W3 (w.heap.size + 1) 0 (.int .u32 0) _ _ HS.out) rfl
    exact bodyPost_ret (v := .tuple #[.int .u32 0, .int .i64 1]) (by simp [results, Tryz.results12, go_sem, kk]) rfl ⟨rfl, HB3.out.setCell (p := ⟨w.heap.size + 1, 0, none⟩) (by show w.heap.size ≤ w.heap.size + 1; omega) _⟩

set_option maxRecDepth 100000 in
set_option maxHeartbeats 4000000 in
theorem n_MakeAt (d : Int) (s : ByteArray) (k i : Int) (w : World) : Calls Tryz.prog 30 #[.pointer none, .int .u32 d, .string s, .int .u8 k, .int .u32 i] w fun e w' => e = .returned (.int .i64 1) ∧ Below w.heap.size w w' := by
  go_enter Tryz.func30, Tryz.ntmps30
  have HX0 : Hid (((w.alloc (.cells #[.pointer none] 26)).alloc (.cells #[.int .u32 i] 23)).heap[w.heap.size]? = some (.cells #[.pointer none] 26 (0, 0))) := by
    have h := st_below (World.alloc_heap_new w (.cells #[.pointer none] 26)) (u_alloc1 _ (.cells #[.int .u32 i] 23))
    exact Lib.hid (by simpa only [World.size_alloc] using h)
  have HX1 : Hid (((w.alloc (.cells #[.pointer none] 26)).alloc (.cells #[.int .u32 i] 23)).heap[w.heap.size + 1]? = some (.cells #[.int .u32 i] 23 (0, 0))) := by
    have h := World.alloc_heap_new (w.alloc (.cells #[.pointer none] 26)) (.cells #[.int .u32 i] 23)
    exact Lib.hid (by simpa only [World.size_alloc] using h)
  have HB0 : Hid (Below w.heap.size w ((w.alloc (.cells #[.pointer none] 26)).alloc (.cells #[.int .u32 i] 23))) := Lib.hid (by repeat (first | exact Below.refl _ _ | refine Below.alloc ?_ (by simp <;> omega) _ | refine Below.setCell ?_ (by simp <;> omega) _))
  go_wp2
  refine wp_region_rel RelB (phi [isV (.pointer none), isV (.string s), isS 1, isF, isV (.int .u8 k), isF, isF, isV (.pointer none), isV (.int .u32 d), isS 1, isF, isV (.pointer none), isV (.int .u32 d), isS 1, isF, isV (.pointer none), isV (.int .u32 d), isV (.string s), isF, isF, isS 7, isV (.int .i64 1), isV (.int .i64 1)]) (by kernel_rfl) (by kernel_rfl) (by kernel_rfl) (RelB.of (below_drew _)) (fun _ _ _ a b => a.trans b) ?_ ?_ ?_
  · refine stays_phiR ?_
    simp only [List.forall_mem_cons]
    exact ⟨fun _ _ _ h _ => h, fun _ _ _ h _ => h, fun _ _ _ h _ => h, fun _ _ _ h _ => h, fun _ _ _ h _ => h, fun _ _ _ h _ => h, fun _ _ _ h _ => h, fun _ _ _ h _ => h, fun _ _ _ h _ => h, fun _ _ _ h _ => h, fun _ _ _ h _ => h, fun _ _ _ h _ => h, fun _ _ _ h _ => h, fun _ _ _ h _ => h, fun _ _ _ h _ => h, fun _ _ _ h _ => h, fun _ _ _ h _ => h, fun _ _ _ h _ => h, fun _ _ _ h _ => h, fun _ _ _ h _ => h, fun _ _ _ h _ => h, fun _ _ _ h _ => h, fun _ _ _ h _ => h, fun _ h => absurd h (by simp)⟩
  · refine ⟨?_, ?_, ?_, ?_, ?_, ?_, ?_, ?_, ?_, ?_, ?_, ?_, ?_, ?_, ?_, ?_, ?_, ?_, ?_, ?_, ?_, ?_, ?_, trivial⟩
    · refine opR_mk rfl fun aa W2 hB hp hq K hK => ?_
      have e5 : aa.tmps[5]?.getD undef = .pointer (some ⟨w.heap.size, 0, none⟩) := hp 5 (by kernel_rfl)
      have cc := cell_of (j := 0) (v := .pointer none) (st_below HX0.out hB) rfl
      clear hp hq
      go_simp
      exact hK _ _ (RelB.refl _) rfl
    · refine opR_mk rfl fun aa W2 hB hp hq K hK => ?_
      have e2 : aa.tmps[2]?.getD undef = .string s := hp 2 (by kernel_rfl)
      clear hp hq
      go_simp
      exact hK _ _ (RelB.refl _) rfl
    · refine opR_mk rfl fun aa W2 hB hp hq K hK => ?_
      have e13 : aa.tmps[13]?.getD undef = .string s := hq 1 _ (by kernel_rfl) rfl
      clear hp hq
      go_simp
      exact hK _ _ (RelB.of (u_alloc1 W2 _)) ⟨_, _, rfl⟩
    · refine opR_mk rfl fun aa W2 hB hp hq K hK => ?_
      obtain ⟨A14, c14, e14⟩ := hq 2 _ (by kernel_rfl) rfl
      have e14 : aa.tmps[14]?.getD undef = .slice A14 1 c14 := e14
      clear hp hq
      go_simp
      refine (n_names A14 1 c14 W2).mono ?_
      rintro e w2 ⟨g, lb, rfl, hb⟩
      exact hK _ _ (RelB.of hb) ⟨g, lb, rfl⟩
    · refine opR_mk rfl fun aa W2 hB hp hq K hK => ?_
      have e3 : aa.tmps[3]?.getD undef = .int .u8 k := hp 3 (by kernel_rfl)
      clear hp hq
      go_simp
      exact hK _ _ (RelB.refl _) rfl
    · refine opR_mk rfl fun aa W2 hB hp hq K hK => ?_
      have e16 : aa.tmps[16]?.getD undef = .int .u8 k := hq 4 _ (by kernel_rfl) rfl
      clear hp hq
      go_simp
      refine (n_kinds _ W2).mono ?_
      rintro e w2 ⟨g, lb, rfl, hb⟩
      exact hK _ _ (RelB.of hb) ⟨g, lb, rfl⟩
    · refine opR_mk rfl fun aa W2 hB hp hq K hK => ?_
      have e9 : aa.tmps[9]?.getD undef = .pointer (some ⟨w.heap.size + 1, 0, none⟩) := hp 9 (by kernel_rfl)
      have e5 : aa.tmps[5]?.getD undef = .pointer (some ⟨w.heap.size, 0, none⟩) := hp 5 (by kernel_rfl)
      clear hp hq
      go_simp
      exact hK _ _ (RelB.refl _) ⟨_, _, rfl⟩
    · refine opR_mk rfl fun aa W2 hB hp hq K hK => ?_
      have e5 : aa.tmps[5]?.getD undef = .pointer (some ⟨w.heap.size, 0, none⟩) := hp 5 (by kernel_rfl)
      have cc := cell_of (j := 0) (v := .pointer none) (st_below HX0.out hB) rfl
      clear hp hq
      go_simp
      exact hK _ _ (RelB.refl _) rfl
    · refine opR_mk rfl fun aa W2 hB hp hq K hK => ?_
      have e1 : aa.tmps[1]?.getD undef = .int .u32 d := hp 1 (by kernel_rfl)
      clear hp hq
      go_simp
      exact hK _ _ (RelB.refl _) rfl
    · refine opR_mk rfl fun aa W2 hB hp hq K hK => ?_
      have e20 : aa.tmps[20]?.getD undef = .int .u32 d := hq 8 _ (by kernel_rfl) rfl
      clear hp hq
      go_simp
      exact hK _ _ (RelB.of (u_alloc1 W2 _)) ⟨_, _, rfl⟩
    · refine opR_mk rfl fun aa W2 hB hp hq K hK => ?_
      have e19 : aa.tmps[19]?.getD undef = .pointer none := hq 7 _ (by kernel_rfl) rfl
      obtain ⟨A21, c21, e21⟩ := hq 9 _ (by kernel_rfl) rfl
      have e21 : aa.tmps[21]?.getD undef = .slice A21 1 c21 := e21
      clear hp hq
      go_simp
      refine (n_there A21 1 c21 W2).mono ?_
      rintro e w2 ⟨g, lb, rfl, hb⟩
      exact hK _ _ (RelB.of hb) ⟨g, lb, rfl⟩
    · refine opR_mk rfl fun aa W2 hB hp hq K hK => ?_
      have e5 : aa.tmps[5]?.getD undef = .pointer (some ⟨w.heap.size, 0, none⟩) := hp 5 (by kernel_rfl)
      have cc := cell_of (j := 0) (v := .pointer none) (st_below HX0.out hB) rfl
      clear hp hq
      go_simp
      exact hK _ _ (RelB.refl _) rfl
    · refine opR_mk rfl fun aa W2 hB hp hq K hK => ?_
      have e1 : aa.tmps[1]?.getD undef = .int .u32 d := hp 1 (by kernel_rfl)
      clear hp hq
      go_simp
      exact hK _ _ (RelB.refl _) rfl
    · refine opR_mk rfl fun aa W2 hB hp hq K hK => ?_
      have e24 : aa.tmps[24]?.getD undef = .int .u32 d := hq 12 _ (by kernel_rfl) rfl
      clear hp hq
      go_simp
      exact hK _ _ (RelB.of (u_alloc1 W2 _)) ⟨_, _, rfl⟩
    · refine opR_mk rfl fun aa W2 hB hp hq K hK => ?_
      have e23 : aa.tmps[23]?.getD undef = .pointer none := hq 11 _ (by kernel_rfl) rfl
      obtain ⟨A25, c25, e25⟩ := hq 13 _ (by kernel_rfl) rfl
      have e25 : aa.tmps[25]?.getD undef = .slice A25 1 c25 := e25
      clear hp hq
      go_simp
      refine (n_dirs A25 1 c25 W2).mono ?_
      rintro e w2 ⟨g, lb, rfl, hb⟩
      exact hK _ _ (RelB.of hb) ⟨g, lb, rfl⟩
    · refine opR_mk rfl fun aa W2 hB hp hq K hK => ?_
      have e5 : aa.tmps[5]?.getD undef = .pointer (some ⟨w.heap.size, 0, none⟩) := hp 5 (by kernel_rfl)
      have cc := cell_of (j := 0) (v := .pointer none) (st_below HX0.out hB) rfl
      clear hp hq
      go_simp
      exact hK _ _ (RelB.refl _) rfl
    · refine opR_mk rfl fun aa W2 hB hp hq K hK => ?_
      have e1 : aa.tmps[1]?.getD undef = .int .u32 d := hp 1 (by kernel_rfl)
      clear hp hq
      go_simp
      exact hK _ _ (RelB.refl _) rfl
    · refine opR_mk rfl fun aa W2 hB hp hq K hK => ?_
      have e2 : aa.tmps[2]?.getD undef = .string s := hp 2 (by kernel_rfl)
      clear hp hq
      go_simp
      exact hK _ _ (RelB.refl _) rfl
    · refine opR_mk rfl fun aa W2 hB hp hq K hK => ?_
      have e27 : aa.tmps[27]?.getD undef = .pointer none := hq 15 _ (by kernel_rfl) rfl
      have e28 : aa.tmps[28]?.getD undef = .int .u32 d := hq 16 _ (by kernel_rfl) rfl
      have e29 : aa.tmps[29]?.getD undef = .string s := hq 17 _ (by kernel_rfl) rfl
      clear hp hq
      go_simp
      refine (n_fresh _ _ W2).mono ?_
      rintro e w2 ⟨g, lb, rfl, hb⟩
      exact hK _ _ (RelB.of hb) ⟨g, lb, rfl⟩
    · refine opR_mk rfl fun aa W2 hB hp hq K hK => ?_
      have e5 : aa.tmps[5]?.getD undef = .pointer (some ⟨w.heap.size, 0, none⟩) := hp 5 (by kernel_rfl)
      have e9 : aa.tmps[9]?.getD undef = .pointer (some ⟨w.heap.size + 1, 0, none⟩) := hp 9 (by kernel_rfl)
      clear hp hq
      go_simp
      exact hK _ _ (RelB.refl _) ⟨_, _, rfl⟩
    · refine opR_mk rfl fun aa W2 hB hp hq K hK => ?_
      obtain ⟨g15, lb15, e15⟩ := hq 3 _ (by kernel_rfl) rfl
      have e15 : aa.tmps[15]?.getD undef = .func (.func g15) #[] lb15 := e15
      obtain ⟨g17, lb17, e17⟩ := hq 5 _ (by kernel_rfl) rfl
      have e17 : aa.tmps[17]?.getD undef = .func (.func g17) #[] lb17 := e17
      obtain ⟨g18, lb18, e18⟩ := hq 6 _ (by kernel_rfl) rfl
      have e18 : aa.tmps[18]?.getD undef = .func (.func g18) #[] lb18 := e18
      obtain ⟨g22, lb22, e22⟩ := hq 10 _ (by kernel_rfl) rfl
      have e22 : aa.tmps[22]?.getD undef = .func (.func g22) #[] lb22 := e22
      obtain ⟨g26, lb26, e26⟩ := hq 14 _ (by kernel_rfl) rfl
      have e26 : aa.tmps[26]?.getD undef = .func (.func g26) #[] lb26 := e26
      obtain ⟨g30, lb30, e30⟩ := hq 18 _ (by kernel_rfl) rfl
      have e30 : aa.tmps[30]?.getD undef = .func (.func g30) #[] lb30 := e30
      obtain ⟨g31, lb31, e31⟩ := hq 19 _ (by kernel_rfl) rfl
      have e31 : aa.tmps[31]?.getD undef = .func (.func g31) #[] lb31 := e31
      clear hp hq
      go_simp
      exact hK _ _ (RelB.of (u_alloc1 W2 _)) ⟨_, _, rfl⟩
    · refine opR_mk rfl fun aa W2 hB hp hq K hK => ?_
      have e12 : aa.tmps[12]?.getD undef = .pointer none := hq 0 _ (by kernel_rfl) rfl
      obtain ⟨A32, c32, e32⟩ := hq 20 _ (by kernel_rfl) rfl
      have e32 : aa.tmps[32]?.getD undef = .slice A32 7 c32 := e32
      clear hp hq
      go_simp
      refine (n_check A32 7 c32 W2).mono ?_
      rintro e w2 ⟨rfl, hb⟩
      exact hK _ _ (RelB.of hb) rfl
    · refine opR_mk rfl fun aa W2 hB hp hq K hK => ?_
      have e33 : aa.tmps[33]?.getD undef = .int .i64 1 := hq 21 _ (by kernel_rfl) rfl
      clear hp hq
      go_simp
      exact hK _ _ (RelB.refl _) rfl
  · intro vs W3 hB3 hv3 _
    have v22 : vs 22 = .int .i64 1 := hv3 22 _ rfl rfl
    have bx0 := cell_of (j := 0) (v := .pointer none) (st_below HX0.out hB3) rfl
    have bx1 := cell_of (j := 0) (v := .int .u32 i) (st_below HX1.out hB3) rfl
    have HB3 := Lib.hid (ptrans HB0.out hB3)
    clear hB3 hv3
    simp only [putAll, Act.put, List.setIfInBounds_toArray, List.set_cons_succ, List.set_cons_zero, Nat.zero_add, Nat.reduceAdd, v22]
    go_wp2
    go_ret
    exact ⟨rfl, HB3.out⟩

set_option maxRecDepth 100000 in
set_option maxHeartbeats 4000000 in
theorem n_Link (d : Int) (s : ByteArray) (i : Int) (w : World) : Calls Tryz.prog 25 #[.pointer none, .int .u32 d, .string s, .int .u32 i] w fun e w' => e = .returned (.int .i64 1) ∧ Below w.heap.size w w' := by
  go_enter Tryz.func25, Tryz.ntmps25
  have HX0 : Hid (((w.alloc (.cells #[.pointer none] 26)).alloc (.cells #[.int .u32 i] 23)).heap[w.heap.size]? = some (.cells #[.pointer none] 26 (0, 0))) := by
    have h := st_below (World.alloc_heap_new w (.cells #[.pointer none] 26)) (u_alloc1 _ (.cells #[.int .u32 i] 23))
    exact Lib.hid (by simpa only [World.size_alloc] using h)
  have HX1 : Hid (((w.alloc (.cells #[.pointer none] 26)).alloc (.cells #[.int .u32 i] 23)).heap[w.heap.size + 1]? = some (.cells #[.int .u32 i] 23 (0, 0))) := by
    have h := World.alloc_heap_new (w.alloc (.cells #[.pointer none] 26)) (.cells #[.int .u32 i] 23)
    exact Lib.hid (by simpa only [World.size_alloc] using h)
  have HB0 : Hid (Below w.heap.size w ((w.alloc (.cells #[.pointer none] 26)).alloc (.cells #[.int .u32 i] 23))) := Lib.hid (by repeat (first | exact Below.refl _ _ | refine Below.alloc ?_ (by simp <;> omega) _ | refine Below.setCell ?_ (by simp <;> omega) _))
  go_wp2
  refine wp_region_rel RelB (phi [isV (.pointer none), isV (.string s), isS 1, isF, isV (.pointer none), isV (.int .u32 d), isV (.int .u32 i), isS 2, isF, isV (.pointer none), isV (.int .u32 d), isS 1, isF, isV (.pointer none), isV (.int .u32 i), isF, isV (.pointer none), isV (.int .u32 d), isV (.string s), isF, isF, isS 6, isV (.int .i64 1), isV (.int .i64 1)]) (by kernel_rfl) (by kernel_rfl) (by kernel_rfl) (RelB.of (below_drew _)) (fun _ _ _ a b => a.trans b) ?_ ?_ ?_
  · refine stays_phiR ?_
    simp only [List.forall_mem_cons]
    exact ⟨fun _ _ _ h _ => h, fun _ _ _ h _ => h, fun _ _ _ h _ => h, fun _ _ _ h _ => h, fun _ _ _ h _ => h, fun _ _ _ h _ => h, fun _ _ _ h _ => h, fun _ _ _ h _ => h, fun _ _ _ h _ => h, fun _ _ _ h _ => h, fun _ _ _ h _ => h, fun _ _ _ h _ => h, fun _ _ _ h _ => h, fun _ _ _ h _ => h, fun _ _ _ h _ => h, fun _ _ _ h _ => h, fun _ _ _ h _ => h, fun _ _ _ h _ => h, fun _ _ _ h _ => h, fun _ _ _ h _ => h, fun _ _ _ h _ => h, fun _ _ _ h _ => h, fun _ _ _ h _ => h, fun _ _ _ h _ => h, fun _ h => absurd h (by simp)⟩
  · refine ⟨?_, ?_, ?_, ?_, ?_, ?_, ?_, ?_, ?_, ?_, ?_, ?_, ?_, ?_, ?_, ?_, ?_, ?_, ?_, ?_, ?_, ?_, ?_, ?_, trivial⟩
    · refine opR_mk rfl fun aa W2 hB hp hq K hK => ?_
      have e4 : aa.tmps[4]?.getD undef = .pointer (some ⟨w.heap.size, 0, none⟩) := hp 4 (by kernel_rfl)
      have cc := cell_of (j := 0) (v := .pointer none) (st_below HX0.out hB) rfl
      clear hp hq
      go_simp
      exact hK _ _ (RelB.refl _) rfl
    · refine opR_mk rfl fun aa W2 hB hp hq K hK => ?_
      have e2 : aa.tmps[2]?.getD undef = .string s := hp 2 (by kernel_rfl)
      clear hp hq
      go_simp
      exact hK _ _ (RelB.refl _) rfl
    · refine opR_mk rfl fun aa W2 hB hp hq K hK => ?_
      have e11 : aa.tmps[11]?.getD undef = .string s := hq 1 _ (by kernel_rfl) rfl
      clear hp hq
      go_simp
      exact hK _ _ (RelB.of (u_alloc1 W2 _)) ⟨_, _, rfl⟩
    · refine opR_mk rfl fun aa W2 hB hp hq K hK => ?_
      obtain ⟨A12, c12, e12⟩ := hq 2 _ (by kernel_rfl) rfl
      have e12 : aa.tmps[12]?.getD undef = .slice A12 1 c12 := e12
      clear hp hq
      go_simp
      refine (n_names A12 1 c12 W2).mono ?_
      rintro e w2 ⟨g, lb, rfl, hb⟩
      exact hK _ _ (RelB.of hb) ⟨g, lb, rfl⟩
    · refine opR_mk rfl fun aa W2 hB hp hq K hK => ?_
      have e4 : aa.tmps[4]?.getD undef = .pointer (some ⟨w.heap.size, 0, none⟩) := hp 4 (by kernel_rfl)
      have cc := cell_of (j := 0) (v := .pointer none) (st_below HX0.out hB) rfl
      clear hp hq
      go_simp
      exact hK _ _ (RelB.refl _) rfl
    · refine opR_mk rfl fun aa W2 hB hp hq K hK => ?_
      have e1 : aa.tmps[1]?.getD undef = .int .u32 d := hp 1 (by kernel_rfl)
      clear hp hq
      go_simp
      exact hK _ _ (RelB.refl _) rfl
    · refine opR_mk rfl fun aa W2 hB hp hq K hK => ?_
      have e7 : aa.tmps[7]?.getD undef = .pointer (some ⟨w.heap.size + 1, 0, none⟩) := hp 7 (by kernel_rfl)
      have cc := cell_of (j := 0) (v := .int .u32 i) (st_below HX1.out hB) rfl
      clear hp hq
      go_simp
      exact hK _ _ (RelB.refl _) rfl
    · refine opR_mk rfl fun aa W2 hB hp hq K hK => ?_
      have e15 : aa.tmps[15]?.getD undef = .int .u32 d := hq 5 _ (by kernel_rfl) rfl
      have e16 : aa.tmps[16]?.getD undef = .int .u32 i := hq 6 _ (by kernel_rfl) rfl
      clear hp hq
      go_simp
      exact hK _ _ (RelB.of (u_alloc1 W2 _)) ⟨_, _, rfl⟩
    · refine opR_mk rfl fun aa W2 hB hp hq K hK => ?_
      have e14 : aa.tmps[14]?.getD undef = .pointer none := hq 4 _ (by kernel_rfl) rfl
      obtain ⟨A17, c17, e17⟩ := hq 7 _ (by kernel_rfl) rfl
      have e17 : aa.tmps[17]?.getD undef = .slice A17 2 c17 := e17
      clear hp hq
      go_simp
      refine (n_there A17 2 c17 W2).mono ?_
      rintro e w2 ⟨g, lb, rfl, hb⟩
      exact hK _ _ (RelB.of hb) ⟨g, lb, rfl⟩
    · refine opR_mk rfl fun aa W2 hB hp hq K hK => ?_
      have e4 : aa.tmps[4]?.getD undef = .pointer (some ⟨w.heap.size, 0, none⟩) := hp 4 (by kernel_rfl)
      have cc := cell_of (j := 0) (v := .pointer none) (st_below HX0.out hB) rfl
      clear hp hq
      go_simp
      exact hK _ _ (RelB.refl _) rfl
    · refine opR_mk rfl fun aa W2 hB hp hq K hK => ?_
      have e1 : aa.tmps[1]?.getD undef = .int .u32 d := hp 1 (by kernel_rfl)
      clear hp hq
      go_simp
      exact hK _ _ (RelB.refl _) rfl
    · refine opR_mk rfl fun aa W2 hB hp hq K hK => ?_
      have e20 : aa.tmps[20]?.getD undef = .int .u32 d := hq 10 _ (by kernel_rfl) rfl
      clear hp hq
      go_simp
      exact hK _ _ (RelB.of (u_alloc1 W2 _)) ⟨_, _, rfl⟩
    · refine opR_mk rfl fun aa W2 hB hp hq K hK => ?_
      have e19 : aa.tmps[19]?.getD undef = .pointer none := hq 9 _ (by kernel_rfl) rfl
      obtain ⟨A21, c21, e21⟩ := hq 11 _ (by kernel_rfl) rfl
      have e21 : aa.tmps[21]?.getD undef = .slice A21 1 c21 := e21
      clear hp hq
      go_simp
      refine (n_dirs A21 1 c21 W2).mono ?_
      rintro e w2 ⟨g, lb, rfl, hb⟩
      exact hK _ _ (RelB.of hb) ⟨g, lb, rfl⟩
    · refine opR_mk rfl fun aa W2 hB hp hq K hK => ?_
      have e4 : aa.tmps[4]?.getD undef = .pointer (some ⟨w.heap.size, 0, none⟩) := hp 4 (by kernel_rfl)
      have cc := cell_of (j := 0) (v := .pointer none) (st_below HX0.out hB) rfl
      clear hp hq
      go_simp
      exact hK _ _ (RelB.refl _) rfl
    · refine opR_mk rfl fun aa W2 hB hp hq K hK => ?_
      have e7 : aa.tmps[7]?.getD undef = .pointer (some ⟨w.heap.size + 1, 0, none⟩) := hp 7 (by kernel_rfl)
      have cc := cell_of (j := 0) (v := .int .u32 i) (st_below HX1.out hB) rfl
      clear hp hq
      go_simp
      exact hK _ _ (RelB.refl _) rfl
    · refine opR_mk rfl fun aa W2 hB hp hq K hK => ?_
      have e23 : aa.tmps[23]?.getD undef = .pointer none := hq 13 _ (by kernel_rfl) rfl
      have e24 : aa.tmps[24]?.getD undef = .int .u32 i := hq 14 _ (by kernel_rfl) rfl
      clear hp hq
      go_simp
      refine (n_file _ W2).mono ?_
      rintro e w2 ⟨g, lb, rfl, hb⟩
      exact hK _ _ (RelB.of hb) ⟨g, lb, rfl⟩
    · refine opR_mk rfl fun aa W2 hB hp hq K hK => ?_
      have e4 : aa.tmps[4]?.getD undef = .pointer (some ⟨w.heap.size, 0, none⟩) := hp 4 (by kernel_rfl)
      have cc := cell_of (j := 0) (v := .pointer none) (st_below HX0.out hB) rfl
      clear hp hq
      go_simp
      exact hK _ _ (RelB.refl _) rfl
    · refine opR_mk rfl fun aa W2 hB hp hq K hK => ?_
      have e1 : aa.tmps[1]?.getD undef = .int .u32 d := hp 1 (by kernel_rfl)
      clear hp hq
      go_simp
      exact hK _ _ (RelB.refl _) rfl
    · refine opR_mk rfl fun aa W2 hB hp hq K hK => ?_
      have e2 : aa.tmps[2]?.getD undef = .string s := hp 2 (by kernel_rfl)
      clear hp hq
      go_simp
      exact hK _ _ (RelB.refl _) rfl
    · refine opR_mk rfl fun aa W2 hB hp hq K hK => ?_
      have e26 : aa.tmps[26]?.getD undef = .pointer none := hq 16 _ (by kernel_rfl) rfl
      have e27 : aa.tmps[27]?.getD undef = .int .u32 d := hq 17 _ (by kernel_rfl) rfl
      have e28 : aa.tmps[28]?.getD undef = .string s := hq 18 _ (by kernel_rfl) rfl
      clear hp hq
      go_simp
      refine (n_fresh _ _ W2).mono ?_
      rintro e w2 ⟨g, lb, rfl, hb⟩
      exact hK _ _ (RelB.of hb) ⟨g, lb, rfl⟩
    · refine opR_mk rfl fun aa W2 hB hp hq K hK => ?_
      have e4 : aa.tmps[4]?.getD undef = .pointer (some ⟨w.heap.size, 0, none⟩) := hp 4 (by kernel_rfl)
      have e7 : aa.tmps[7]?.getD undef = .pointer (some ⟨w.heap.size + 1, 0, none⟩) := hp 7 (by kernel_rfl)
      clear hp hq
      go_simp
      exact hK _ _ (RelB.refl _) ⟨_, _, rfl⟩
    · refine opR_mk rfl fun aa W2 hB hp hq K hK => ?_
      obtain ⟨g13, lb13, e13⟩ := hq 3 _ (by kernel_rfl) rfl
      have e13 : aa.tmps[13]?.getD undef = .func (.func g13) #[] lb13 := e13
      obtain ⟨g18, lb18, e18⟩ := hq 8 _ (by kernel_rfl) rfl
      have e18 : aa.tmps[18]?.getD undef = .func (.func g18) #[] lb18 := e18
      obtain ⟨g22, lb22, e22⟩ := hq 12 _ (by kernel_rfl) rfl
      have e22 : aa.tmps[22]?.getD undef = .func (.func g22) #[] lb22 := e22
      obtain ⟨g25, lb25, e25⟩ := hq 15 _ (by kernel_rfl) rfl
      have e25 : aa.tmps[25]?.getD undef = .func (.func g25) #[] lb25 := e25
      obtain ⟨g29, lb29, e29⟩ := hq 19 _ (by kernel_rfl) rfl
      have e29 : aa.tmps[29]?.getD undef = .func (.func g29) #[] lb29 := e29
      obtain ⟨g30, lb30, e30⟩ := hq 20 _ (by kernel_rfl) rfl
      have e30 : aa.tmps[30]?.getD undef = .func (.func g30) #[] lb30 := e30
      clear hp hq
      go_simp
      exact hK _ _ (RelB.of (u_alloc1 W2 _)) ⟨_, _, rfl⟩
    · refine opR_mk rfl fun aa W2 hB hp hq K hK => ?_
      have e10 : aa.tmps[10]?.getD undef = .pointer none := hq 0 _ (by kernel_rfl) rfl
      obtain ⟨A31, c31, e31⟩ := hq 21 _ (by kernel_rfl) rfl
      have e31 : aa.tmps[31]?.getD undef = .slice A31 6 c31 := e31
      clear hp hq
      go_simp
      refine (n_check A31 6 c31 W2).mono ?_
      rintro e w2 ⟨rfl, hb⟩
      exact hK _ _ (RelB.of hb) rfl
    · refine opR_mk rfl fun aa W2 hB hp hq K hK => ?_
      have e32 : aa.tmps[32]?.getD undef = .int .i64 1 := hq 22 _ (by kernel_rfl) rfl
      clear hp hq
      go_simp
      exact hK _ _ (RelB.refl _) rfl
  · intro vs W3 hB3 hv3 _
    have v23 : vs 23 = .int .i64 1 := hv3 23 _ rfl rfl
    have bx0 := cell_of (j := 0) (v := .pointer none) (st_below HX0.out hB3) rfl
    have bx1 := cell_of (j := 0) (v := .int .u32 i) (st_below HX1.out hB3) rfl
    have HB3 := Lib.hid (ptrans HB0.out hB3)
    clear hB3 hv3
    simp only [putAll, Act.put, List.setIfInBounds_toArray, List.set_cons_succ, List.set_cons_zero, Nat.zero_add, Nat.reduceAdd, v23]
    go_wp2
    go_ret
    exact ⟨rfl, HB3.out⟩

set_option maxRecDepth 100000 in
set_option maxHeartbeats 4000000 in
theorem n_Rename (d : Int) (s : ByteArray) (d2 : Int) (s2 : ByteArray) (w : World) : Calls Tryz.prog 24 #[.pointer none, .int .u32 d, .string s, .int .u32 d2, .string s2] w fun e w' => e = .returned (.int .i64 1) ∧ Below w.heap.size w w' := by
  go_enter Tryz.func24, Tryz.ntmps24
  go_wp2
  go_ret
  exact ⟨rfl, by repeat (first | exact Below.refl _ _ | refine Below.alloc ?_ (by simp <;> omega) _ | refine Below.setCell ?_ (by simp <;> omega) _)⟩

set_option maxRecDepth 100000 in
set_option maxHeartbeats 4000000 in
theorem n_Resize (i z : Int) (w : World) : Calls Tryz.prog 31 #[.pointer none, .int .u32 i, .int .u32 z] w fun e w' => e = .returned (.int .i64 1) ∧ Below w.heap.size w w' := by
  go_enter Tryz.func31, Tryz.ntmps31
  go_wp2
  go_ret
  exact ⟨rfl, by repeat (first | exact Below.refl _ _ | refine Below.alloc ?_ (by simp <;> omega) _ | refine Below.setCell ?_ (by simp <;> omega) _)⟩

set_option maxRecDepth 100000 in
set_option maxHeartbeats 4000000 in
theorem n_Write (i p : Int) (s : ByteArray) (w : World) : Calls Tryz.prog 14 #[.pointer none, .int .u32 i, .int .i64 p, .string s] w fun e w' => e = .returned (.int .i64 1) ∧ Below w.heap.size w w' := by
  go_enter Tryz.func14, Tryz.ntmps14
  go_wp2
  go_ret
  exact ⟨rfl, by repeat (first | exact Below.refl _ _ | refine Below.alloc ?_ (by simp <;> omega) _ | refine Below.setCell ?_ (by simp <;> omega) _)⟩

set_option maxRecDepth 100000 in
set_option maxHeartbeats 4000000 in
theorem n_Read (i p : Int) (w : World) : Calls Tryz.prog 28 #[.pointer none, .int .u32 i, .int .i64 p] w fun e w' => e = .returned (.tuple #[.string ⟨#[]⟩, .int .i64 1]) ∧ Below w.heap.size w w' := by
  go_enter Tryz.func28, Tryz.ntmps28
  go_wp2
  go_ret2
  exact ⟨rfl, by repeat (first | exact Below.refl _ _ | refine Below.alloc ?_ (by simp <;> omega) _ | refine Below.setCell ?_ (by simp <;> omega) _)⟩

set_option maxRecDepth 100000 in
set_option maxHeartbeats 4000000 in
theorem n_Hold (i : Int) (w : World) : Calls Tryz.prog 15 #[.pointer none, .int .u32 i] w fun e w' => e = .returned (.int .i64 1) ∧ Below w.heap.size w w' := by
  go_enter Tryz.func15, Tryz.ntmps15
  go_wp2
  go_ret
  exact ⟨rfl, by repeat (first | exact Below.refl _ _ | refine Below.alloc ?_ (by simp <;> omega) _ | refine Below.setCell ?_ (by simp <;> omega) _)⟩

set_option maxRecDepth 100000 in
set_option maxHeartbeats 4000000 in
theorem n_Drop (i : Int) (w : World) : Calls Tryz.prog 32 #[.pointer none, .int .u32 i] w fun e w' => e = .returned (.int .i64 1) ∧ Below w.heap.size w w' := by
  go_enter Tryz.func32, Tryz.ntmps32
  have HX0 : Hid (((w.alloc (.cells #[.pointer none] 26)).alloc (.cells #[.int .u32 i] 23)).heap[w.heap.size]? = some (.cells #[.pointer none] 26 (0, 0))) := by
    have h := st_below (World.alloc_heap_new w (.cells #[.pointer none] 26)) (u_alloc1 _ (.cells #[.int .u32 i] 23))
    exact Lib.hid (by simpa only [World.size_alloc] using h)
  have HX1 : Hid (((w.alloc (.cells #[.pointer none] 26)).alloc (.cells #[.int .u32 i] 23)).heap[w.heap.size + 1]? = some (.cells #[.int .u32 i] 23 (0, 0))) := by
    have h := World.alloc_heap_new (w.alloc (.cells #[.pointer none] 26)) (.cells #[.int .u32 i] 23)
    exact Lib.hid (by simpa only [World.size_alloc] using h)
  have HB0 : Hid (Below w.heap.size w ((w.alloc (.cells #[.pointer none] 26)).alloc (.cells #[.int .u32 i] 23))) := Lib.hid (by repeat (first | exact Below.refl _ _ | refine Below.alloc ?_ (by simp <;> omega) _ | refine Below.setCell ?_ (by simp <;> omega) _))
  go_wp2
  refine wp_region_rel RelB (phi [isV (.pointer none), isV (.pointer none), isV (.int .u32 i), isS 1, isF, isF, isS 2, isV (.int .i64 1), isV (.int .i64 1)]) (by kernel_rfl) (by kernel_rfl) (by kernel_rfl) (RelB.of (below_drew _)) (fun _ _ _ a b => a.trans b) ?_ ?_ ?_
  · refine stays_phiR ?_
    simp only [List.forall_mem_cons]
    exact ⟨fun _ _ _ h _ => h, fun _ _ _ h _ => h, fun _ _ _ h _ => h, fun _ _ _ h _ => h, fun _ _ _ h _ => h, fun _ _ _ h _ => h, fun _ _ _ h _ => h, fun _ _ _ h _ => h, fun _ _ _ h _ => h, fun _ h => absurd h (by simp)⟩
  · refine ⟨?_, ?_, ?_, ?_, ?_, ?_, ?_, ?_, ?_, trivial⟩
    · refine opR_mk rfl fun aa W2 hB hp hq K hK => ?_
      have e2 : aa.tmps[2]?.getD undef = .pointer (some ⟨w.heap.size, 0, none⟩) := hp 2 (by kernel_rfl)
      have cc := cell_of (j := 0) (v := .pointer none) (st_below HX0.out hB) rfl
      clear hp hq
      go_simp
      exact hK _ _ (RelB.refl _) rfl
    · refine opR_mk rfl fun aa W2 hB hp hq K hK => ?_
      have e2 : aa.tmps[2]?.getD undef = .pointer (some ⟨w.heap.size, 0, none⟩) := hp 2 (by kernel_rfl)
      have cc := cell_of (j := 0) (v := .pointer none) (st_below HX0.out hB) rfl
      clear hp hq
      go_simp
      exact hK _ _ (RelB.refl _) rfl
    · refine opR_mk rfl fun aa W2 hB hp hq K hK => ?_
      have e3 : aa.tmps[3]?.getD undef = .pointer (some ⟨w.heap.size + 1, 0, none⟩) := hp 3 (by kernel_rfl)
      have cc := cell_of (j := 0) (v := .int .u32 i) (st_below HX1.out hB) rfl
      clear hp hq
      go_simp
      exact hK _ _ (RelB.refl _) rfl
    · refine opR_mk rfl fun aa W2 hB hp hq K hK => ?_
      have e8 : aa.tmps[8]?.getD undef = .int .u32 i := hq 2 _ (by kernel_rfl) rfl
      clear hp hq
      go_simp
      exact hK _ _ (RelB.of (u_alloc1 W2 _)) ⟨_, _, rfl⟩
    · refine opR_mk rfl fun aa W2 hB hp hq K hK => ?_
      have e7 : aa.tmps[7]?.getD undef = .pointer none := hq 1 _ (by kernel_rfl) rfl
      obtain ⟨A9, c9, e9⟩ := hq 3 _ (by kernel_rfl) rfl
      have e9 : aa.tmps[9]?.getD undef = .slice A9 1 c9 := e9
      clear hp hq
      go_simp
      refine (n_there A9 1 c9 W2).mono ?_
      rintro e w2 ⟨g, lb, rfl, hb⟩
      exact hK _ _ (RelB.of hb) ⟨g, lb, rfl⟩
    · refine opR_mk rfl fun aa W2 hB hp hq K hK => ?_
      have e2 : aa.tmps[2]?.getD undef = .pointer (some ⟨w.heap.size, 0, none⟩) := hp 2 (by kernel_rfl)
      have e3 : aa.tmps[3]?.getD undef = .pointer (some ⟨w.heap.size + 1, 0, none⟩) := hp 3 (by kernel_rfl)
      clear hp hq
      go_simp
      exact hK _ _ (RelB.refl _) ⟨_, _, rfl⟩
    · refine opR_mk rfl fun aa W2 hB hp hq K hK => ?_
      obtain ⟨g10, lb10, e10⟩ := hq 4 _ (by kernel_rfl) rfl
      have e10 : aa.tmps[10]?.getD undef = .func (.func g10) #[] lb10 := e10
      obtain ⟨g11, lb11, e11⟩ := hq 5 _ (by kernel_rfl) rfl
      have e11 : aa.tmps[11]?.getD undef = .func (.func g11) #[] lb11 := e11
      clear hp hq
      go_simp
      exact hK _ _ (RelB.of (u_alloc1 W2 _)) ⟨_, _, rfl⟩
    · refine opR_mk rfl fun aa W2 hB hp hq K hK => ?_
      have e6 : aa.tmps[6]?.getD undef = .pointer none := hq 0 _ (by kernel_rfl) rfl
      obtain ⟨A12, c12, e12⟩ := hq 6 _ (by kernel_rfl) rfl
      have e12 : aa.tmps[12]?.getD undef = .slice A12 2 c12 := e12
      clear hp hq
      go_simp
      refine (n_check A12 2 c12 W2).mono ?_
      rintro e w2 ⟨rfl, hb⟩
      exact hK _ _ (RelB.of hb) rfl
    · refine opR_mk rfl fun aa W2 hB hp hq K hK => ?_
      have e13 : aa.tmps[13]?.getD undef = .int .i64 1 := hq 7 _ (by kernel_rfl) rfl
      clear hp hq
      go_simp
      exact hK _ _ (RelB.refl _) rfl
  · intro vs W3 hB3 hv3 _
    have v8 : vs 8 = .int .i64 1 := hv3 8 _ rfl rfl
    have bx0 := cell_of (j := 0) (v := .pointer none) (st_below HX0.out hB3) rfl
    have bx1 := cell_of (j := 0) (v := .int .u32 i) (st_below HX1.out hB3) rfl
    have HB3 := Lib.hid (ptrans HB0.out hB3)
    clear hB3 hv3
    simp only [putAll, Act.put, List.setIfInBounds_toArray, List.set_cons_succ, List.set_cons_zero, Nat.zero_add, Nat.reduceAdd, v8]
    go_wp2
    go_ret
    exact ⟨rfl, HB3.out⟩

set_option maxRecDepth 100000 in
set_option maxHeartbeats 4000000 in
theorem n_Stat (i : Int) (w : World) : Calls Tryz.prog 26 #[.pointer none, .int .u32 i] w fun e w' => e = .returned (.tuple #[stat0, .int .i64 1]) ∧ Below w.heap.size w w' := by
  go_enter Tryz.func26, Tryz.ntmps26
  go_wp2
  have key : ∀ o1 o2 o3 o4, (((((w.alloc (.cells #[.int .u32 0, .int .u8 0, .int .i64 0, .int .u32 0] 54)).alloc o1).alloc o2).alloc o3).alloc o4).heap[w.heap.size]? = some (.cells #[.int .u32 0, .int .u8 0, .int .i64 0, .int .u32 0] 54 (0, 0)) := fun o1 o2 o3 o4 => st_below (st_below (st_below (st_below (World.alloc_heap_new w _) (u_alloc1 _ o1)) (u_alloc1 _ o2)) (u_alloc1 _ o3)) (u_alloc1 _ o4)
  have k0 := fun o1 o2 o3 o4 => cell_of (j := 0) (v := .int .u32 0) (key o1 o2 o3 o4) rfl
  have k1 := fun o1 o2 o3 o4 => cell_of (j := 1) (v := .int .u8 0) (key o1 o2 o3 o4) rfl
  have k2 := fun o1 o2 o3 o4 => cell_of (j := 2) (v := .int .i64 0) (key o1 o2 o3 o4) rfl
  have k3 := fun o1 o2 o3 o4 => cell_of (j := 3) (v := .int .u32 0) (key o1 o2 o3 o4) rfl
  exact bodyPost_ret (v := .tuple #[stat0, .int .i64 1]) (by simp [results, Tryz.results26, go_sem, stat0, k0, k1, k2, k3]) rfl ⟨rfl, by repeat (first | exact Below.refl _ _ | refine Below.alloc ?_ (by simp <;> omega) _ | refine Below.setCell ?_ (by simp <;> omega) _)⟩

set_option maxRecDepth 100000 in
set_option maxHeartbeats 4000000 in
theorem n_List (i : Int) (w : World) : Calls Tryz.prog 29 #[.pointer none, .int .u32 i] w fun e w' => e = .returned (.tuple #[.slice none 0 0, .int .i64 1]) ∧ Below w.heap.size w w' := by
  go_enter Tryz.func29, Tryz.ntmps29
  go_wp2
  go_ret2
  exact ⟨rfl, by repeat (first | exact Below.refl _ _ | refine Below.alloc ?_ (by simp <;> omega) _ | refine Below.setCell ?_ (by simp <;> omega) _)⟩

set_option maxRecDepth 100000 in
set_option maxHeartbeats 4000000 in
theorem n_All  (w : World) : Calls Tryz.prog 21 #[.pointer none] w fun e w' => e = .returned (.slice none 0 0) ∧ Below w.heap.size w w' := by
  go_enter Tryz.func21, Tryz.ntmps21
  go_wp2
  go_ret
  exact ⟨rfl, by repeat (first | exact Below.refl _ _ | refine Below.alloc ?_ (by simp <;> omega) _ | refine Below.setCell ?_ (by simp <;> omega) _)⟩

set_option maxRecDepth 100000 in
set_option maxHeartbeats 4000000 in
theorem n_Held (i : Int) (w : World) : Calls Tryz.prog 33 #[.pointer none, .int .u32 i] w fun e w' => e = .returned (.int .i64 0) ∧ Below w.heap.size w w' := by
  go_enter Tryz.func33, Tryz.ntmps33
  go_wp2
  go_ret
  exact ⟨rfl, by repeat (first | exact Below.refl _ _ | refine Below.alloc ?_ (by simp <;> omega) _ | refine Below.setCell ?_ (by simp <;> omega) _)⟩

set_option maxRecDepth 100000 in
set_option maxHeartbeats 4000000 in
theorem n_Copy  (w : World) : Calls Tryz.prog 11 #[.pointer none] w fun e w' => e = .returned (.pointer none) ∧ Below w.heap.size w w' := by
  go_enter Tryz.func11, Tryz.ntmps11
  go_wp2
  go_ret
  exact ⟨rfl, by repeat (first | exact Below.refl _ _ | refine Below.alloc ?_ (by simp <;> omega) _ | refine Below.setCell ?_ (by simp <;> omega) _)⟩

set_option maxRecDepth 100000 in
set_option maxHeartbeats 4000000 in
theorem n_drop (d : Int) (s : ByteArray) (g : FuncId) (lb : Array Value) (w : World) : Calls Tryz.prog 45 #[.pointer none, .int .u32 d, .string s, .func (.func g) #[] lb] w fun e w' => e = .returned (.tuple #[.int .u32 0, .int .i64 1]) ∧ Below w.heap.size w w' := by
  go_enter Tryz.func45, Tryz.ntmps45
  go_wp2_with (go_at_call 23; (with_reducible refine (n_Look _ _ _).mono ?_); rintro e w1 ⟨rfl, hb⟩; have HB := Lib.hid hb; clear hb)
  go_ret2
  exact ⟨rfl, HB.out⟩

set_option maxRecDepth 100000 in
set_option maxHeartbeats 4000000 in
theorem n_Unlink (d : Int) (s : ByteArray) (w : World) : Calls Tryz.prog 13 #[.pointer none, .int .u32 d, .string s] w fun e w' => e = .returned (.tuple #[.int .u32 0, .int .i64 1]) ∧ Below w.heap.size w w' := by
  go_enter Tryz.func13, Tryz.ntmps13
  go_wp2_with (go_at_call 45; (with_reducible refine (n_drop _ _ _ _ _).mono ?_); rintro e w1 ⟨rfl, hb⟩; have HB := Lib.hid hb; clear hb)
  go_ret2
  exact ⟨rfl, HB.out⟩

set_option maxRecDepth 100000 in
set_option maxHeartbeats 4000000 in
theorem n_Rmdir (d : Int) (s : ByteArray) (w : World) : Calls Tryz.prog 27 #[.pointer none, .int .u32 d, .string s] w fun e w' => e = .returned (.tuple #[.int .u32 0, .int .i64 1]) ∧ Below w.heap.size w w' := by
  go_enter Tryz.func27, Tryz.ntmps27
  go_wp2_with (go_at_call 45; (with_reducible refine (n_drop _ _ _ _ _).mono ?_); rintro e w1 ⟨rfl, hb⟩; have HB := Lib.hid hb; clear hb)
  go_ret2
  exact ⟨rfl, HB.out⟩

end Go.Proofs.YtpcjbfhgmcioaaaGreat
