/- Copy, and what no core answers. -/
import Derived.Test.YtehckjkihaalfaaGreatES
import Derived.Test.YtehckjkihaalfaaGreatFD
import Derived.SizedLaws
namespace Go.Proofs.YtehckjkihaalfaaGreat
open Go.RowKit Go.Maps

/-- A copy of which the first k rows are its own. -/
structure CopyAt (W : World) (P' : Nat) (ls vs : Nat → Value) (k : Nat) (x : PLog) : Prop where
  blk : ∃ cs, W.heap[P']? = some (.cells cs 84 (0, 0)) ∧ cs.size = 18 ∧ cs[0]? = some (.int .i64 (x.cores : Int)) ∧ cs[1]? = some (.int .i64 (x.most : Int)) ∧ ∀ j, j < 8 → cs[2 + j]? = some (vs j) ∧ cs[10 + j]? = some (.int .u64 (x.last j))
  own : ∀ j, j < k → W.ownsRow (P' + 1) 34 12 (vs j) (x.rows j).length (flatR (x.rows j))
  sep : ∀ i j q, i < k → j < k → (vs i).ownBlock = some q → (vs j).ownBlock = some q → i = j
theorem CopyAt.next {W W2 : World} {P' k : Nat} {ls vs : Nat → Value} {x : PLog} (h : CopyAt W P' ls vs k x) (hk : k < 8) (hb : Below W.heap.size W W2) (v : Value) (hv : W2.ownsRow W.heap.size 34 12 v (x.rows k).length (flatR (x.rows k))) :
    CopyAt (W2.setCell ⟨P', 2 + k, none⟩ v) P' ls (setF vs k v) (k + 1) x := by
  obtain ⟨cs, h1, h2, h3, h4, h5⟩ := h.blk
  have hP : P' < W.heap.size := lt_heap h1
  have hP2 : W2.heap[P']? = some (.cells cs 84 (0, 0)) := (hb.block P' hP).trans h1
  refine ⟨⟨cs.setIfInBounds (2 + k) v, pheap_set W2 P' (2 + k) v cs _ hP2, by simpa using h2, ?_, ?_, fun j hj => ⟨?_, ?_⟩⟩, fun j hj => ?_, fun i j q hi hj e1 e2 => ?_⟩
  · rw [Array.getElem?_setIfInBounds_ne (by omega)]; exact h3
  · rw [Array.getElem?_setIfInBounds_ne (by omega)]; exact h4
  · by_cases e : j = k
    · subst e
      rw [setF_same, Array.getElem?_setIfInBounds_self_of_lt (by omega)]
    · rw [setF_other _ _ e, Array.getElem?_setIfInBounds_ne (by omega)]
      exact (h5 j hj).1
  · rw [Array.getElem?_setIfInBounds_ne (by omega)]
    exact (h5 j hj).2
  · by_cases e : j = k
    · subst e
      rw [setF_same]
      exact own_low (own_block hv fun q hq => heap_set_ne _ _ _ _ _ (by have := (hv.lt q hq).1; omega)) hP
    · rw [setF_other _ _ e]
      have hj2 : j < k := by omega
      exact own_block (h.own j hj2) fun q hq => by
        have := (h.own j hj2).lt q hq
        rw [heap_set_ne _ _ _ _ _ (by omega)]
        exact hb.block q this.2
  · by_cases ei : i = k <;> by_cases ej : j = k
    · rw [ei, ej]
    · subst ei
      rw [setF_same] at e1
      rw [setF_other _ _ ej] at e2
      have h6 := (hv.lt q e1).1
      have h7 := ((h.own j (by omega)).lt q e2).2
      omega
    · subst ej
      rw [setF_same] at e2
      rw [setF_other _ _ ei] at e1
      have h6 := (hv.lt q e2).1
      have h7 := ((h.own i (by omega)).lt q e1).2
      omega
    · rw [setF_other _ _ ei] at e1
      rw [setF_other _ _ ej] at e2
      exact h.sep i j q (by omega) (by omega) e1 e2
theorem CopyAt.done {w W : World} {P P' : Nat} {ls ls0 vs : Nat → Value} {x : PLog} (h : CopyAt W P' ls vs 8 x) (hL : LogAt w P ls0 x) : LogAt W P' vs x := ⟨h.blk, h.own, h.sep, hL.ok, hL.cores8, hL.most256, hL.len⟩
theorem CopyAt.cell {W : World} {P' k j : Nat} {ls vs : Nat → Value} {x : PLog} (h : CopyAt W P' ls vs k x) (hj : j < 8) : W.cell? ⟨P', 2 + j, none⟩ = some (vs j) := by obtain ⟨cs, h1, _, _, _, h2⟩ := h.blk; simp only [World.cell?, h1]; exact (h2 j hj).1
theorem CopyAt.frozen {W : World} {P' k : Nat} {ls vs : Nat → Value} {x : PLog} (h : CopyAt W P' ls vs k x) (j : Nat) : W.frozen? ⟨P', j, none⟩ = false := by obtain ⟨cs, h1, _⟩ := h.blk; simp [World.frozen?, h1]
theorem copy_one {w : World} {P : Nat} {ls : Nat → Value} {x : PLog} (h : LogAt w P ls x) {cs : Array Value} (h2 : cs.size = 18) (h3 : cs[0]? = some (.int .i64 (x.cores : Int))) (h4 : cs[1]? = some (.int .i64 (x.most : Int))) (h5 : ∀ k, k < 8 → cs[2 + k]? = some (ls k) ∧ cs[10 + k]? = some (.int .u64 (x.last k))) : cs.all (·.oneCell') = true := by
  rw [Array.all_eq_true]
  intro i hi
  have key : ∀ v, cs[i]? = some v → v.oneCell' = true → cs[i].oneCell' = true := fun v hv hv2 => by
    rw [Array.getElem?_eq_getElem hi] at hv
    rw [Option.some.inj hv]
    exact hv2
  rcases (by omega : i = 0 ∨ i = 1 ∨ (2 ≤ i ∧ i < 10) ∨ (10 ≤ i ∧ i < 18)) with rfl | rfl | ⟨ha, hb⟩ | ⟨ha, hb⟩
  · exact key _ h3 rfl
  · exact key _ h4 rfl
  · obtain ⟨A, c, hs⟩ := h.slice (k := i - 2) (by omega)
    refine key (ls (i - 2)) ?_ (by rw [hs]; rfl)
    have := (h5 (i - 2) (by omega)).1
    rw [show 2 + (i - 2) = i by omega] at this
    exact this
  · refine key (.int .u64 (x.last (i - 10))) ?_ rfl
    have := (h5 (i - 10) (by omega)).2
    rw [show 10 + (i - 10) = i by omega] at this
    exact this
set_option maxRecDepth 100000 in
set_option maxHeartbeats 8000000 in
theorem t_copyLog (P : Nat) (ls : Nat → Value) (x : PLog) (w : World) (h : LogAt w P ls x) :
    Calls Tryz.prog 27 #[.pointer (some ⟨P, 0, none⟩)] w fun e w' => ∃ P', e = .returned (.pointer (some ⟨P', 0, none⟩)) ∧ w.heap.size ≤ P' ∧ (∃ ls', LogAt w' P' ls' x) ∧ Below w.heap.size w w' := by
  have HH := Lib.hid h
  obtain ⟨cs, h1, h2, h3, h4, h5⟩ := h.blk
  have hone := copy_one h h2 h3 h4 h5
  have hsz : (Tryz.prog.info? 84).map (·.size) = some cs.size := by rw [h2]; kernel_rfl
  have H1 := Lib.hid h1
  have H2 := Lib.hid h2
  have HONE := Lib.hid hone
  have HSZ := Lib.hid hsz
  have HBK := Lib.hid (And.intro h3 (And.intro h4 h5))
  clear h h1 h2 h3 h4 h5 hone hsz
  go_enter Tryz.func27, Tryz.ntmps27
  go_wp2_with (first
    | (refine wpList_load_row rfl 84 _ rfl P rfl 84 cs (0, 0) _ H1.out Tryz.underlying84 rfl HSZ.out ?_)
    | (refine wpList_store_row rfl 84 _ _ rfl w.heap.size cs rfl rfl 84 _ (heap_alloc_new _ _) HSZ.out (by rw [H2.out]; rfl) HONE.out ?_))
  have hz : ((w.alloc (.cells #[.int .i64 0, .int .i64 0, .slice none 0 0, .slice none 0 0, .slice none 0 0, .slice none 0 0, .slice none 0 0, .slice none 0 0, .slice none 0 0, .slice none 0 0, .int .u64 0, .int .u64 0, .int .u64 0, .int .u64 0, .int .u64 0, .int .u64 0, .int .u64 0, .int .u64 0] 84)).setRow w.heap.size cs).heap[w.heap.size]? = some (.cells cs 84 (0, 0)) := setRow_heap _ _ _ _ _ _ (heap_alloc_new _ _)
  have hb1 : Below w.heap.size w ((w.alloc (.cells #[.int .i64 0, .int .i64 0, .slice none 0 0, .slice none 0 0, .slice none 0 0, .slice none 0 0, .slice none 0 0, .slice none 0 0, .slice none 0 0, .slice none 0 0, .int .u64 0, .int .u64 0, .int .u64 0, .int .u64 0, .int .u64 0, .int .u64 0, .int .u64 0, .int .u64 0] 84)).setRow w.heap.size cs) :=
    ⟨rfl, rfl, rfl, by simp [World.setRow], fun b hb => (setRow_other _ _ _ _ (by omega)).trans (heap_alloc_old _ _ hb)⟩
  generalize (World.setRow _ _ cs) = w1 at hz hb1 ⊢
  have HC1 : Hid (CopyAt w1 w.heap.size ls ls 0 x) := ⟨⟨cs, hz, H2.out, HBK.out.1, HBK.out.2.1, HBK.out.2.2⟩, fun j hj => by omega, fun i j q hi => by omega⟩
  have HB1 := Lib.hid hb1
  clear hz hb1
  go_loopw [10] (fun y wr => ∃ k : Nat, y = .int .i64 (k : Int) ∧ k ≤ 8 ∧ Hid ((∃ vs, CopyAt wr w.heap.size ls vs k x) ∧ Below w.heap.size w wr)) (fun y _ => 8 - (intOf y).toNat)
  case atStart => exact ⟨0, rfl, Nat.zero_le _, ⟨ls, HC1.out⟩, HB1.out⟩
  case round =>
    obtain ⟨k, rfl, hk, HI⟩ := hrel
    obtain ⟨vs, hcp⟩ := HI.out.1
    by_cases hk8 : k < 8
    · have hk8' : (k : Int) < 8 := by omega
      have hL := HH.out.below HI.out.2
      have crow := hL.row hk8
      have hown := hL.own k hk8
      have hlen := hL.len k hk8
      obtain ⟨A, cap, hsl⟩ := hL.slice hk8
      rw [hsl] at crow hown
      have hcl := t_cloneRec A (x.rows k).length cap (P + 1) (x.rows k) wr hown rfl (by omega)
      obtain ⟨n, hn⟩ : ∃ n, n = (x.rows k).length := ⟨_, rfl⟩
      rw [← hn] at crow hcl hlen
      have HN := Lib.hid hn.symm
      have HCL := Lib.hid hcl
      have HCP := Lib.hid hcp
      clear hL hown hcl hsl hn hcp
      go_wp2_with (go_at_call 58; (with_reducible refine HCL.out.mono ?_); rintro e w2 ⟨A1, c1, rfl, h1, h2⟩; have H2' := Lib.hid (And.intro h1 h2); have hlt := lt_heap (CopyAt.blk HCP.out).choose_spec.1; have cP := (World.cell?_of_block (a := ⟨w.heap.size, 2 + k, none⟩) (h2.block w.heap.size hlt)).trans (HCP.out.cell hk8); have fP := (World.frozen?_of_block (a := ⟨w.heap.size, 2 + k, none⟩) (h2.block w.heap.size hlt)).trans (HCP.out.frozen (2 + k)); clear h1 h2 hlt)
      have hnx := HCP.out.next hk8 H2'.out.2 (.slice A1 n c1) (by rw [HN.out]; exact H2'.out.1)
      have HNX := Lib.hid hnx
      clear hnx
      go_roundw
      case rel => exact ⟨k + 1, rfl, hk8, ⟨_, HNX.out⟩, ⟨(HI.out.2.trans (H2'.out.2.mono HI.out.2.size)).os, (HI.out.2.trans (H2'.out.2.mono HI.out.2.size)).tape, (HI.out.2.trans (H2'.out.2.mono HI.out.2.size)).output, by simpa using (HI.out.2.trans (H2'.out.2.mono HI.out.2.size)).size, fun b hb => (heap_set_ne _ _ _ _ _ (by omega)).trans ((HI.out.2.trans (H2'.out.2.mono HI.out.2.size)).block b hb)⟩⟩
      case measure => simp only [intOf]; omega
    · obtain rfl : k = 8 := by omega
      go_wp2
      go_ret
      exact ⟨w.heap.size, rfl, Nat.le_refl _, ⟨vs, hcp.done (HH.out.below HI.out.2)⟩, HI.out.2⟩
end Go.Proofs.YtehckjkihaalfaaGreat

/- What no log, and no core, answers. -/
namespace Go.Proofs.YtehckjkihaalfaaGreat
open Go.RowKit Go.Maps

set_option maxRecDepth 100000 in
theorem t_hasNil (k : Int) (w : World) : Calls Tryz.prog 53 #[.pointer none, .int .i64 k] w fun e w' => e = .returned (.bool false) ∧ w = w' := by
  go_enter Tryz.func53, Tryz.ntmps53
  go_wp2
  go_ret
  exact ⟨rfl, rfl⟩
set_option maxRecDepth 100000 in
theorem t_listNo (p : Option Addr) (k : Int) (w : World) (h : Calls Tryz.prog 53 #[.pointer p, .int .i64 k] w fun e w' => e = .returned (.bool false) ∧ w = w') : Calls Tryz.prog 19 #[.pointer p, .int .i64 k] w fun e w' => e = .returned (.slice none 0 0) ∧ w = w' := by
  have H := Lib.hid h
  clear h
  go_enter Tryz.func19, Tryz.ntmps19
  go_wp2_with (go_at_call 53; (with_reducible refine H.out.mono ?_); rintro e w' ⟨rfl, rfl⟩)
  go_ret
  exact ⟨rfl, rfl⟩
set_option maxRecDepth 100000 in
theorem t_roomNo (p : Option Addr) (k : Int) (w : World) (h : Calls Tryz.prog 53 #[.pointer p, .int .i64 k] w fun e w' => e = .returned (.bool false) ∧ w = w') : Calls Tryz.prog 51 #[.pointer p, .int .i64 k] w fun e w' => e = .returned (.int .i64 0) ∧ w = w' := by
  have H := Lib.hid h
  clear h
  go_enter Tryz.func51, Tryz.ntmps51
  go_wp2_with (go_at_call 53; (with_reducible refine H.out.mono ?_); rintro e w' ⟨rfl, rfl⟩)
  go_ret
  exact ⟨rfl, rfl⟩
set_option maxRecDepth 100000 in
theorem t_lastNo (p : Option Addr) (k : Int) (w : World) (h : Calls Tryz.prog 53 #[.pointer p, .int .i64 k] w fun e w' => e = .returned (.bool false) ∧ w = w') : Calls Tryz.prog 52 #[.pointer p, .int .i64 k] w fun e w' => e = .returned (.int .u64 0) ∧ w = w' := by
  have H := Lib.hid h
  clear h
  go_enter Tryz.func52, Tryz.ntmps52
  go_wp2_with (go_at_call 53; (with_reducible refine H.out.mono ?_); rintro e w' ⟨rfl, rfl⟩)
  go_ret
  exact ⟨rfl, rfl⟩
set_option maxRecDepth 100000 in
theorem t_copyNil (w : World) : Calls Tryz.prog 27 #[.pointer none] w fun e w' => e = .returned (.pointer none) ∧ w = w' := by
  go_enter Tryz.func27, Tryz.ntmps27
  go_wp2
  go_ret
  exact ⟨rfl, rfl⟩
set_option maxRecDepth 100000 in
theorem t_lenNil (w : World) : Calls Tryz.prog 21 #[.pointer none] w fun e w' => e = .returned (.int .i64 0) ∧ w = w' := by
  go_enter Tryz.func21, Tryz.ntmps21
  go_wp2
  go_ret
  exact ⟨rfl, rfl⟩
set_option maxRecDepth 100000 in
theorem t_takeNil (A : Option Addr) (n c : Nat) (w : World) : Calls Tryz.prog 16 #[.pointer none, .slice A n c] w fun e w' => e = .returned (.int .i64 0) ∧ Below w.heap.size w w' := by
  go_enter Tryz.func16, Tryz.ntmps16
  go_wp2
  go_ret
  exact ⟨rfl, below_a1' w _⟩
set_option maxRecDepth 100000 in
theorem t_mergeNil (w : World) : Calls Tryz.prog 14 #[.pointer none] w fun e w' => e = .returned (.slice none 0 0) ∧ Below w.heap.size w w' := by
  go_enter Tryz.func14, Tryz.ntmps14
  go_wp2
  go_ret
  exact ⟨rfl, below_a1' w _⟩
theorem recs_none {w : World} : RecsAt w none [] := ⟨fun h => absurd rfl h, fun r hr => by simp at hr⟩
theorem idx_nil {p : R → Bool} {i : Int} (h : IdxIs p [] i) : i = -1 := by
  rcases h with ⟨h, _⟩ | ⟨_, _, h, _⟩
  · exact h
  · exact absurd h (Nat.not_lt_zero _)
set_option maxRecDepth 100000 in
set_option maxHeartbeats 4000000 in
theorem t_uptoNil (s : Int) (w : World) : Calls Tryz.prog 18 #[.pointer none, .int .u64 s] w fun e w' => e = .returned (.slice none 0 0) ∧ Below w.heap.size w w' := by
  have HB0 : Hid (Below w.heap.size w (w.alloc (.cells #[.int .u64 s] 31))) := below_a1' w _
  have HBX : Hid ((w.alloc (.cells #[.int .u64 s] 31)).heap[w.heap.size]? = some (.cells #[.int .u64 s] 31 (0, 0))) := heap_alloc_new _ _
  go_enter Tryz.func18, Tryz.ntmps18
  go_wp2_with (first
    | (go_at_call 14; (with_reducible refine (t_mergeNil _).mono ?_); rintro e w1 ⟨rfl, hb⟩; have HB1 := Lib.hid hb; clear hb)
    | (go_at_call 61; (with_reducible refine (t_indexUpto none 0 0 [] w1 recs_none rfl (by decide) w.heap.size s ((HB1.out.block _ (lt_heap HBX.out)).trans HBX.out)).mono ?_); rintro e w2 ⟨i, rfl, hi, hb⟩; have HB2 := Lib.hid hb; clear hb; obtain rfl := idx_nil hi))
  go_ret
  exact ⟨rfl, ptrans (ptrans HB0.out HB1.out) HB2.out⟩
set_option maxRecDepth 100000 in
theorem t_putNil (k s : Int) (w : World) : Calls Tryz.prog 13 #[.pointer none, .int .i64 k, .agg #[.int .u64 s, .int .u8 7, .int .u32 0, .string ⟨#[]⟩, .int .u32 1, .int .u8 0, .int .u32 0, .string ⟨#[]⟩, .int .u32 0, .int .u32 0, .int .i64 0, .string ⟨#[]⟩]] w fun e w' => e = .returned (.int .i64 1) ∧ Below w.heap.size w w' := by
  go_enter Tryz.func13, Tryz.ntmps13
  go_wp2
  go_ret
  exact ⟨rfl, below_a1' w _⟩
set_option maxRecDepth 100000 in
set_option maxHeartbeats 8000000 in
theorem t_nothing23 (w : World) : Calls Tryz.prog 22 #[] w fun e w' => e = .returned (.bool true) ∧ Below w.heap.size w w' := by
  have HB := Lib.hid (Below.refl w.heap.size w)
  go_enter Tryz.func22, Tryz.ntmps22
  go_wp2_with (first
    | (go_at_call 28; (with_reducible refine (t_atV _ _).mono ?_); rintro e w5 ⟨rfl, hb⟩; replace HB := Lib.hid (HB.out.trans (hb.mono HB.out.size)); clear hb)
    | (go_at_call 13; (with_reducible refine (t_putNil _ _ _).mono ?_); rintro e w5 ⟨rfl, hb⟩; replace HB := Lib.hid (HB.out.trans (hb.mono HB.out.size)); clear hb)
    | (go_at_call 14; (with_reducible refine (t_mergeNil _).mono ?_); rintro e w5 ⟨rfl, hb⟩; replace HB := Lib.hid (HB.out.trans (hb.mono HB.out.size)); clear hb)
    | (go_at_call 18; (with_reducible refine (t_uptoNil _ _).mono ?_); rintro e w5 ⟨rfl, hb⟩; replace HB := Lib.hid (HB.out.trans (hb.mono HB.out.size)); clear hb)
    | (go_at_call 16; (with_reducible refine (t_takeNil _ _ _ _).mono ?_); rintro e w5 ⟨rfl, hb⟩; replace HB := Lib.hid (HB.out.trans (((below_a1' _ _).trans (hb.mono (by rw [World.alloc_size']; omega))).mono HB.out.size)); clear hb)
    | (go_at_call 21; (with_reducible refine (t_lenNil _).mono ?_); rintro e w5 ⟨rfl, rfl⟩)
    | (go_at_call 19; (with_reducible refine (t_listNo none 0 _ (t_hasNil _ _)).mono ?_); rintro e w5 ⟨rfl, rfl⟩)
    | (go_at_call 51; (with_reducible refine (t_roomNo none 0 _ (t_hasNil _ _)).mono ?_); rintro e w5 ⟨rfl, rfl⟩)
    | (go_at_call 52; (with_reducible refine (t_lastNo none 0 _ (t_hasNil _ _)).mono ?_); rintro e w5 ⟨rfl, rfl⟩)
    | (go_at_call 27; (with_reducible refine (t_copyNil _).mono ?_); rintro e w5 ⟨rfl, rfl⟩))
  go_ret
  exact ⟨rfl, HB.out⟩
end Go.Proofs.YtehckjkihaalfaaGreat

/- A log against the document's, walked: same. -/
namespace Go.Proofs.YtehckjkihaalfaaGreat
open Go.RowKit Go.Maps

def docL (x : PLog) : List R := (mergeTo x x.cores).map Prod.snd
theorem docL_len {x : PLog} (hx : LogOk x) (h8 : x.cores ≤ 8) (hl : ∀ k, k < 8 → (x.rows k).length ≤ 256) : (docL x).length ≤ 2048 := by
  unfold docL
  rw [List.length_map, ((mergeTo_tag hx x.cores h8).done).len hx h8]
  have := lenN_le hl x.cores h8
  omega
theorem docL_ok {w : World} {P : Nat} {ls : Nat → Value} {x : PLog} (h : LogAt w P ls x) : ∀ r ∈ docL x, RecOk r := fun r hr => by
  obtain ⟨a, ha, rfl⟩ := List.mem_map.1 hr
  obtain ⟨j, hj, h2⟩ := mergeTo_mem ha
  exact h.ok j (by have := h.cores8; omega) _ h2
theorem t_mergeD (P : Nat) (ls : Nat → Value) (x : PLog) (w : World) (h : LogAt w P ls x) (hx : LogOk x) {N : Nat} (hN : (docL x).length = N) :
    Calls Tryz.prog 14 #[.pointer (some ⟨P, 0, none⟩)] w fun e w' => ∃ A c, e = .returned (.slice A N c) ∧ RecsAt w' A (docL x) ∧ Below w.heap.size w w' := by
  refine (t_merge P ls x w h hx).mono ?_
  rintro e w' ⟨A, c, done, rfl, hm, ho, hb⟩
  have h1 : docL x = done.map (recAt x) := merge_doc hx h.cores8.2 hm
  have h2 : done.length = N := by rw [← hN, h1, List.length_map]
  rw [h2, ← h1] at ho
  exact ⟨A, c, by rw [h2], recs_of_row ho hN (docL_ok h), hb⟩
theorem t_docMergeD (Q : Nat) (D : DD) (G : Nat → Prop) (x : PLog) (w : World) (h : DocAt w Q D G x) (hok : ∀ r ∈ docL x, RecOk r) {N : Nat} (hN : (docL x).length = N) :
    Calls Tryz.prog 66 #[.pointer (some ⟨Q, 0, none⟩)] w fun e w' => ∃ A c, e = .returned (.slice A N c) ∧ RecsAt w' A (docL x) ∧ Below w.heap.size w w' := by
  refine (t_docMerge Q D G x w h).mono ?_
  rintro e w' ⟨A, n, c, rfl, hn, ho, hb⟩
  obtain rfl : n = N := hn.symm.trans hN
  exact ⟨A, c, rfl, recs_of_row ho hN hok, hb⟩
set_option maxRecDepth 100000 in
set_option maxHeartbeats 16000000 in
theorem t_same23 (P : Nat) (ls : Nat → Value) (x : PLog) (Q : Nat) (D : DD) (G : Nat → Prop) (k : Int) (w : World) (h : LogAt w P ls x) (hx : LogOk x) (hd : DocAt w Q D G x) :
    Calls Tryz.prog 29 #[.pointer (some ⟨P, 0, none⟩), .pointer (some ⟨Q, 0, none⟩), .int .i64 k] w fun e w' => e = .returned (.bool true) ∧ Below w.heap.size w w' := by
  have h8 := h.cores8
  have HLENS := Lib.hid h.len
  have HH := Lib.hid h
  have HX := Lib.hid hx
  have HD := Lib.hid hd
  clear h hx hd
  go_enter Tryz.func29, Tryz.ntmps29
  go_wp2
  go_loopw [7, 8] (fun u v wr => ∃ c : Nat, u = .int .i64 (lenN x c : Nat) ∧ v = .int .i64 (c : Int) ∧ c ≤ x.cores ∧ Hid (Below w.heap.size w wr)) (fun _ v _ => x.cores - (intOf v).toNat)
  case atStart => exact ⟨0, rfl, rfl, Nat.zero_le _, Below.refl _ _⟩
  case round =>
    obtain ⟨c, rfl, rfl, hc, HW⟩ := hrel
    have c1 := (HD.out.below HW.out).c1
    by_cases hcc : c < x.cores
    · have hcc' : (c : Int) < (x.cores : Int) := by omega
      have cL := (HD.out.below HW.out).cL hcc
      obtain ⟨A1, cp1, hsl, _⟩ := HD.out.row c hcc
      obtain ⟨m, hm⟩ : ∃ m, m = (x.rows c).length := ⟨_, rfl⟩
      rw [← hm] at hsl
      rw [hsl] at cL
      have hm2 : m ≤ 256 := by rw [hm]; exact HD.out.len c
      have ht : lenN x c ≤ 2048 := by have := lenN_le HLENS.out c (by omega); omega
      have HSUC : Hid (lenN x (c + 1) = lenN x c + m) := by show _ + _ = _; rw [hm]
      obtain ⟨t, htt⟩ : ∃ t, t = lenN x c := ⟨_, rfl⟩
      rw [← htt] at ht HSUC ⊢
      clear hsl hm htt
      go_wp2
      go_roundw
      case rel => exact ⟨c + 1, by rw [HSUC.out]; exact congrArg (Value.int .i64) (by omega), rfl, hcc, HW⟩
      case measure => simp only [intOf]; omega
    · obtain rfl : c = x.cores := by omega
      have HLw := Lib.hid (HH.out.below HW.out)
      have HDw := Lib.hid (HD.out.below HW.out)
      obtain ⟨N, hN⟩ : ∃ N, (docL x).length = N := ⟨_, rfl⟩
      have hN2 : N ≤ 2048 := by rw [← hN]; exact docL_len HX.out h8.2 HLENS.out
      have HN := Lib.hid hN
      have HOK := Lib.hid (docL_ok HH.out)
      have HL := Lib.hid HLw.out
      have HDc := Lib.hid HDw.out
      have HB := Lib.hid HW.out
      clear hN HLw HDw HW
      by_cases hk : 0 ≤ k ∧ k < x.cores
      · obtain ⟨j, hj⟩ : ∃ j : Nat, k = (j : Int) := ⟨k.toNat, by omega⟩
        subst hj
        have hjc : j < x.cores := by omega
        have hjc' : (j : Int) < (x.cores : Int) := by omega
        have HK := Lib.hid hk
        have HOKJ := Lib.hid (HH.out.ok j (by omega))
        obtain ⟨m, hm⟩ : ∃ m, m = (x.rows j).length := ⟨_, rfl⟩
        have hm2 : m ≤ 256 := by rw [hm]; exact HD.out.len j
        have hmo := HD.out.most256
        obtain ⟨A9, c9, hsl, hr9, _⟩ := HD.out.row j hjc
        rw [← hm] at hsl
        have HSL := Lib.hid hsl
        have HR9 := Lib.hid (hr9.below HB.out)
        have HM := Lib.hid hm
        clear hk hsl hr9 hm
        go_upto_region 10 with (first
          | (go_at_call 14; (with_reducible refine (t_mergeD P ls x _ HL.out HX.out HN.out).mono ?_); rintro e w1 ⟨A1, d1, rfl, hr, hb⟩; have HR1 := Lib.hid hr; replace HB := Lib.hid (HB.out.trans (hb.mono HB.out.size)); replace HL := Lib.hid (HL.out.below hb); replace HDc := Lib.hid (HDc.out.below hb); try replace HR9 := Lib.hid (HR9.out.below hb); clear hr hb)
          | (go_at_call 66; (with_reducible refine (t_docMergeD Q D G x _ HDc.out HOK.out HN.out).mono ?_); rintro e w2 ⟨A2, d2, rfl, hr, hb⟩; have HR2 := Lib.hid hr; replace HR1 := Lib.hid (HR1.out.below hb); replace HB := Lib.hid (HB.out.trans (hb.mono HB.out.size)); replace HL := Lib.hid (HL.out.below hb); replace HDc := Lib.hid (HDc.out.below hb); try replace HR9 := Lib.hid (HR9.out.below hb); clear hr hb)
          | (go_at_call 17; (with_reducible refine (t_same A1 A2 N N d1 d2 (docL x) (docL x) true (by simp) _ HR1.out HN.out (by omega) HR2.out HN.out (by omega)).mono ?_); rintro e w3 ⟨rfl, hb⟩; replace HB := Lib.hid (HB.out.trans (hb.mono HB.out.size)); replace HL := Lib.hid (HL.out.below hb); replace HDc := Lib.hid (HDc.out.below hb); try replace HR9 := Lib.hid (HR9.out.below hb); clear hb)
          | (go_at_call 21; (with_reducible refine (t_lenLog P ls x _ HL.out).mono ?_); rintro e w4 ⟨rfl, rfl⟩)
          | (go_at_call 63; (with_reducible refine (t_docHas Q D G x (j : Int) true (decide_eq_true HK.out) _ HDc.out).mono ?_); rintro e w4 ⟨rfl, rfl⟩))
        refine wp_region_rel RelB (phi [isV (.pointer (some ⟨P, 0, none⟩)), isV (.int .i64 (j : Int)), (fun v W => ∃ A c, v = .slice A m c ∧ RecsAt W A (x.rows j)), isV (.pointer (some ⟨Q, 0, none⟩)), isV (.pointer (some ⟨Q, 0, none⟩)), isV (.pointer (some ⟨Q, 1, none⟩)), isV (.slice (some ⟨D.bL, 0, none⟩) x.cores D.cL), isV (.int .i64 (j : Int)), isV (.pointer (some ⟨D.bL, j, none⟩)), isV (.slice A9 m c9), isV (.bool true), isV (.bool true), isV (.pointer (some ⟨P, 0, none⟩)), isV (.int .i64 (j : Int)), isV (.int .i64 ((x.most : Int) - (m : Int))), isV (.pointer (some ⟨Q, 0, none⟩)), isV (.pointer (some ⟨Q, 0, none⟩)), isV (.pointer (some ⟨Q, 0, none⟩)), isV (.int .i64 (x.most : Int)), isV (.pointer (some ⟨Q, 0, none⟩)), isV (.pointer (some ⟨Q, 0, none⟩)), isV (.pointer (some ⟨Q, 1, none⟩)), isV (.slice (some ⟨D.bL, 0, none⟩) x.cores D.cL), isV (.int .i64 (j : Int)), isV (.pointer (some ⟨D.bL, j, none⟩)), isV (.slice A9 m c9), isV (.int .i64 (m : Int)), isV (.int .i64 ((x.most : Int) - (m : Int))), isV (.bool true), isV (.bool true), isV (.bool true), isV (.pointer (some ⟨P, 0, none⟩)), isV (.int .i64 (j : Int)), isV (.int .u64 (x.last j)), isV (.pointer (some ⟨Q, 0, none⟩)), isV (.pointer (some ⟨Q, 0, none⟩)), isV (.pointer (some ⟨Q, 2, none⟩)), isV (.slice (some ⟨D.bT, 0, none⟩) x.cores D.cT), isV (.int .i64 (j : Int)), isV (.pointer (some ⟨D.bT, j, none⟩)), isV (.int .u64 (x.last j)), isV (.bool true), isV (.bool true), isV (.bool true)]) (by kernel_rfl) (by kernel_rfl) (by kernel_rfl) (RelB.of (below_drew _)) (fun _ _ _ a b => a.trans b) ?_ ?_ ?_
        · refine stays_phiR ?_
          simp only [List.forall_mem_cons]
          exact ⟨fun _ _ _ h _ => h, fun _ _ _ h _ => h, fun _ _ _ h hb => by obtain ⟨A, c, h1, h2⟩ := h; exact ⟨A, c, h1, h2.below hb⟩, fun _ _ _ h _ => h, fun _ _ _ h _ => h, fun _ _ _ h _ => h, fun _ _ _ h _ => h, fun _ _ _ h _ => h, fun _ _ _ h _ => h, fun _ _ _ h _ => h, fun _ _ _ h _ => h, fun _ _ _ h _ => h, fun _ _ _ h _ => h, fun _ _ _ h _ => h, fun _ _ _ h _ => h, fun _ _ _ h _ => h, fun _ _ _ h _ => h, fun _ _ _ h _ => h, fun _ _ _ h _ => h, fun _ _ _ h _ => h, fun _ _ _ h _ => h, fun _ _ _ h _ => h, fun _ _ _ h _ => h, fun _ _ _ h _ => h, fun _ _ _ h _ => h, fun _ _ _ h _ => h, fun _ _ _ h _ => h, fun _ _ _ h _ => h, fun _ _ _ h _ => h, fun _ _ _ h _ => h, fun _ _ _ h _ => h, fun _ _ _ h _ => h, fun _ _ _ h _ => h, fun _ _ _ h _ => h, fun _ _ _ h _ => h, fun _ _ _ h _ => h, fun _ _ _ h _ => h, fun _ _ _ h _ => h, fun _ _ _ h _ => h, fun _ _ _ h _ => h, fun _ _ _ h _ => h, fun _ _ _ h _ => h, fun _ _ _ h _ => h, fun _ _ _ h _ => h, fun _ h => absurd h (by simp)⟩
        · refine ⟨?_, ?_, ?_, ?_, ?_, ?_, ?_, ?_, ?_, ?_, ?_, ?_, ?_, ?_, ?_, ?_, ?_, ?_, ?_, ?_, ?_, ?_, ?_, ?_, ?_, ?_, ?_, ?_, ?_, ?_, ?_, ?_, ?_, ?_, ?_, ?_, ?_, ?_, ?_, ?_, ?_, ?_, ?_, ?_, trivial⟩
          · refine opR_mk rfl fun aa W2 hB hp hq K hK => ?_
            have e0 : aa.tmps[0]?.getD undef = .pointer (some ⟨P, 0, none⟩) := hp 0 (by kernel_rfl)
            clear hp hq
            go_simp
            exact hK _ _ (RelB.refl _) rfl
          · refine opR_mk rfl fun aa W2 hB hp hq K hK => ?_
            have e2 : aa.tmps[2]?.getD undef = .int .i64 (j : Int) := hp 2 (by kernel_rfl)
            clear hp hq
            go_simp
            exact hK _ _ (RelB.refl _) rfl
          · refine opR_mk rfl fun aa W2 hB hp hq K hK => ?_
            have e59 : aa.tmps[59]?.getD undef = .pointer (some ⟨P, 0, none⟩) := hq 0 _ (by kernel_rfl) rfl
            have e60 : aa.tmps[60]?.getD undef = .int .i64 (j : Int) := hq 1 _ (by kernel_rfl) rfl
            clear hp hq
            go_simp
            refine (t_listLog P ls x j W2 (HL.out.below hB) hjc).mono ?_
            rintro e w2 ⟨A, c, rfl, ho, hb⟩
            exact hK _ _ (RelB.of hb) ⟨A, c, by rw [HM.out], recs_of_row ho rfl HOKJ.out⟩
          · refine opR_mk rfl fun aa W2 hB hp hq K hK => ?_
            have e1 : aa.tmps[1]?.getD undef = .pointer (some ⟨Q, 0, none⟩) := hp 1 (by kernel_rfl)
            clear hp hq
            go_simp
            exact hK _ _ (RelB.refl _) rfl
          · refine opR_mk rfl fun aa W2 hB hp hq K hK => ?_
            have e62 : aa.tmps[62]?.getD undef = .pointer (some ⟨Q, 0, none⟩) := hq 3 _ (by kernel_rfl) rfl
            clear hp hq
            go_simp
            exact hK _ _ (RelB.refl _) rfl
          · refine opR_mk rfl fun aa W2 hB hp hq K hK => ?_
            have e63 : aa.tmps[63]?.getD undef = .pointer (some ⟨Q, 0, none⟩) := hq 4 _ (by kernel_rfl) rfl
            clear hp hq
            go_simp
            exact hK _ _ (RelB.refl _) rfl
          · refine opR_mk rfl fun aa W2 hB hp hq K hK => ?_
            have e64 : aa.tmps[64]?.getD undef = .pointer (some ⟨Q, 1, none⟩) := hq 5 _ (by kernel_rfl) rfl
            have cc := (HDc.out.below hB).c1
            clear hp hq
            go_simp
            exact hK _ _ (RelB.refl _) rfl
          · refine opR_mk rfl fun aa W2 hB hp hq K hK => ?_
            have e2 : aa.tmps[2]?.getD undef = .int .i64 (j : Int) := hp 2 (by kernel_rfl)
            clear hp hq
            go_simp
            exact hK _ _ (RelB.refl _) rfl
          · refine opR_mk rfl fun aa W2 hB hp hq K hK => ?_
            have e65 : aa.tmps[65]?.getD undef = .slice (some ⟨D.bL, 0, none⟩) x.cores D.cL := hq 6 _ (by kernel_rfl) rfl
            have e66 : aa.tmps[66]?.getD undef = .int .i64 (j : Int) := hq 7 _ (by kernel_rfl) rfl
            clear hp hq
            go_simp
            exact hK _ _ (RelB.refl _) rfl
          · refine opR_mk rfl fun aa W2 hB hp hq K hK => ?_
            have e67 : aa.tmps[67]?.getD undef = .pointer (some ⟨D.bL, j, none⟩) := hq 8 _ (by kernel_rfl) rfl
            have cc := (HDc.out.below hB).cL hjc
            rw [HSL.out] at cc
            clear hp hq
            go_simp
            exact hK _ _ (RelB.refl _) rfl
          · refine opR_mk rfl fun aa W2 hB hp hq K hK => ?_
            have e68 : aa.tmps[68]?.getD undef = .slice A9 m c9 := hq 9 _ (by kernel_rfl) rfl
            obtain ⟨A, c, e61, hr⟩ := hq 2 _ (by kernel_rfl) rfl
            have e61 : aa.tmps[61]?.getD undef = .slice A m c := e61
            clear hp hq
            go_simp
            refine (t_same A A9 m m c c9 (x.rows j) (x.rows j) true (by simp) W2 hr HM.out.symm (by omega) (HR9.out.below hB) HM.out.symm (by omega)).mono ?_
            rintro e w2 ⟨rfl, hb⟩
            exact hK _ _ (RelB.of hb) rfl
          · refine opR_mk rfl fun aa W2 hB hp hq K hK => ?_
            have e69 : aa.tmps[69]?.getD undef = .bool true := hq 10 _ (by kernel_rfl) rfl
            clear hp hq
            go_simp
            exact hK _ _ (RelB.refl _) rfl
          · refine opR_guard (j := 11) (d := 70) (c := true) rfl rfl (by kernel_rfl) rfl rfl (fun v W h => h) (fun _ => RelB.refl _) (fun hne => absurd rfl hne) fun hc aa W2 hB hp hq K hK => ?_
            have e0 : aa.tmps[0]?.getD undef = .pointer (some ⟨P, 0, none⟩) := hp 0 (by kernel_rfl)
            clear hp hq
            go_simp
            exact hK _ _ (RelB.refl _) rfl
          · refine opR_guard (j := 11) (d := 70) (c := true) rfl rfl (by kernel_rfl) rfl rfl (fun v W h => h) (fun _ => RelB.refl _) (fun hne => absurd rfl hne) fun hc aa W2 hB hp hq K hK => ?_
            have e2 : aa.tmps[2]?.getD undef = .int .i64 (j : Int) := hp 2 (by kernel_rfl)
            clear hp hq
            go_simp
            exact hK _ _ (RelB.refl _) rfl
          · refine opR_guard (j := 11) (d := 70) (c := true) rfl rfl (by kernel_rfl) rfl rfl (fun v W h => h) (fun _ => RelB.refl _) (fun hne => absurd rfl hne) fun hc aa W2 hB hp hq K hK => ?_
            have e71 : aa.tmps[71]?.getD undef = .pointer (some ⟨P, 0, none⟩) := hq 12 _ (by kernel_rfl) rfl
            have e72 : aa.tmps[72]?.getD undef = .int .i64 (j : Int) := hq 13 _ (by kernel_rfl) rfl
            clear hp hq
            go_simp
            refine (t_roomLog P ls x j W2 (HL.out.below hB) hjc).mono ?_
            rintro e w2 ⟨rfl, hb⟩
            exact hK _ _ (RelB.of hb) (congrArg (fun q : Nat => Value.int .i64 ((x.most : Int) - (q : Int))) HM.out.symm)
          · refine opR_guard (j := 11) (d := 70) (c := true) rfl rfl (by kernel_rfl) rfl rfl (fun v W h => h) (fun _ => RelB.refl _) (fun hne => absurd rfl hne) fun hc aa W2 hB hp hq K hK => ?_
            have e1 : aa.tmps[1]?.getD undef = .pointer (some ⟨Q, 0, none⟩) := hp 1 (by kernel_rfl)
            clear hp hq
            go_simp
            exact hK _ _ (RelB.refl _) rfl
          · refine opR_guard (j := 11) (d := 70) (c := true) rfl rfl (by kernel_rfl) rfl rfl (fun v W h => h) (fun _ => RelB.refl _) (fun hne => absurd rfl hne) fun hc aa W2 hB hp hq K hK => ?_
            have e74 : aa.tmps[74]?.getD undef = .pointer (some ⟨Q, 0, none⟩) := hq 15 _ (by kernel_rfl) rfl
            clear hp hq
            go_simp
            exact hK _ _ (RelB.refl _) rfl
          · refine opR_guard (j := 11) (d := 70) (c := true) rfl rfl (by kernel_rfl) rfl rfl (fun v W h => h) (fun _ => RelB.refl _) (fun hne => absurd rfl hne) fun hc aa W2 hB hp hq K hK => ?_
            have e75 : aa.tmps[75]?.getD undef = .pointer (some ⟨Q, 0, none⟩) := hq 16 _ (by kernel_rfl) rfl
            clear hp hq
            go_simp
            exact hK _ _ (RelB.refl _) rfl
          · refine opR_guard (j := 11) (d := 70) (c := true) rfl rfl (by kernel_rfl) rfl rfl (fun v W h => h) (fun _ => RelB.refl _) (fun hne => absurd rfl hne) fun hc aa W2 hB hp hq K hK => ?_
            have e76 : aa.tmps[76]?.getD undef = .pointer (some ⟨Q, 0, none⟩) := hq 17 _ (by kernel_rfl) rfl
            have cc := (HDc.out.below hB).c0
            clear hp hq
            go_simp
            exact hK _ _ (RelB.refl _) rfl
          · refine opR_guard (j := 11) (d := 70) (c := true) rfl rfl (by kernel_rfl) rfl rfl (fun v W h => h) (fun _ => RelB.refl _) (fun hne => absurd rfl hne) fun hc aa W2 hB hp hq K hK => ?_
            have e1 : aa.tmps[1]?.getD undef = .pointer (some ⟨Q, 0, none⟩) := hp 1 (by kernel_rfl)
            clear hp hq
            go_simp
            exact hK _ _ (RelB.refl _) rfl
          · refine opR_guard (j := 11) (d := 70) (c := true) rfl rfl (by kernel_rfl) rfl rfl (fun v W h => h) (fun _ => RelB.refl _) (fun hne => absurd rfl hne) fun hc aa W2 hB hp hq K hK => ?_
            have e78 : aa.tmps[78]?.getD undef = .pointer (some ⟨Q, 0, none⟩) := hq 19 _ (by kernel_rfl) rfl
            clear hp hq
            go_simp
            exact hK _ _ (RelB.refl _) rfl
          · refine opR_guard (j := 11) (d := 70) (c := true) rfl rfl (by kernel_rfl) rfl rfl (fun v W h => h) (fun _ => RelB.refl _) (fun hne => absurd rfl hne) fun hc aa W2 hB hp hq K hK => ?_
            have e79 : aa.tmps[79]?.getD undef = .pointer (some ⟨Q, 0, none⟩) := hq 20 _ (by kernel_rfl) rfl
            clear hp hq
            go_simp
            exact hK _ _ (RelB.refl _) rfl
          · refine opR_guard (j := 11) (d := 70) (c := true) rfl rfl (by kernel_rfl) rfl rfl (fun v W h => h) (fun _ => RelB.refl _) (fun hne => absurd rfl hne) fun hc aa W2 hB hp hq K hK => ?_
            have e80 : aa.tmps[80]?.getD undef = .pointer (some ⟨Q, 1, none⟩) := hq 21 _ (by kernel_rfl) rfl
            have cc := (HDc.out.below hB).c1
            clear hp hq
            go_simp
            exact hK _ _ (RelB.refl _) rfl
          · refine opR_guard (j := 11) (d := 70) (c := true) rfl rfl (by kernel_rfl) rfl rfl (fun v W h => h) (fun _ => RelB.refl _) (fun hne => absurd rfl hne) fun hc aa W2 hB hp hq K hK => ?_
            have e2 : aa.tmps[2]?.getD undef = .int .i64 (j : Int) := hp 2 (by kernel_rfl)
            clear hp hq
            go_simp
            exact hK _ _ (RelB.refl _) rfl
          · refine opR_guard (j := 11) (d := 70) (c := true) rfl rfl (by kernel_rfl) rfl rfl (fun v W h => h) (fun _ => RelB.refl _) (fun hne => absurd rfl hne) fun hc aa W2 hB hp hq K hK => ?_
            have e81 : aa.tmps[81]?.getD undef = .slice (some ⟨D.bL, 0, none⟩) x.cores D.cL := hq 22 _ (by kernel_rfl) rfl
            have e82 : aa.tmps[82]?.getD undef = .int .i64 (j : Int) := hq 23 _ (by kernel_rfl) rfl
            clear hp hq
            go_simp
            exact hK _ _ (RelB.refl _) rfl
          · refine opR_guard (j := 11) (d := 70) (c := true) rfl rfl (by kernel_rfl) rfl rfl (fun v W h => h) (fun _ => RelB.refl _) (fun hne => absurd rfl hne) fun hc aa W2 hB hp hq K hK => ?_
            have e83 : aa.tmps[83]?.getD undef = .pointer (some ⟨D.bL, j, none⟩) := hq 24 _ (by kernel_rfl) rfl
            have cc := (HDc.out.below hB).cL hjc
            rw [HSL.out] at cc
            clear hp hq
            go_simp
            exact hK _ _ (RelB.refl _) rfl
          · refine opR_guard (j := 11) (d := 70) (c := true) rfl rfl (by kernel_rfl) rfl rfl (fun v W h => h) (fun _ => RelB.refl _) (fun hne => absurd rfl hne) fun hc aa W2 hB hp hq K hK => ?_
            have e84 : aa.tmps[84]?.getD undef = .slice A9 m c9 := hq 25 _ (by kernel_rfl) rfl
            clear hp hq
            go_simp
            exact hK _ _ (RelB.refl _) rfl
          · refine opR_guard (j := 11) (d := 70) (c := true) rfl rfl (by kernel_rfl) rfl rfl (fun v W h => h) (fun _ => RelB.refl _) (fun hne => absurd rfl hne) fun hc aa W2 hB hp hq K hK => ?_
            have e77 : aa.tmps[77]?.getD undef = .int .i64 (x.most : Int) := hq 18 _ (by kernel_rfl) rfl
            have e85 : aa.tmps[85]?.getD undef = .int .i64 (m : Int) := hq 26 _ (by kernel_rfl) rfl
            clear hp hq
            have hwr : IntKind.i64.wrap ((x.most : Int) - (m : Int)) = (x.most : Int) - (m : Int) := (IntWalk.i64_left _).trans (IntWalk.wrap64_in _ (by omega))
            go_simp
            exact hK _ _ (RelB.refl _) (by first | rfl | exact congrArg (Value.int .i64) hwr)
          · refine opR_guard (j := 11) (d := 70) (c := true) rfl rfl (by kernel_rfl) rfl rfl (fun v W h => h) (fun _ => RelB.refl _) (fun hne => absurd rfl hne) fun hc aa W2 hB hp hq K hK => ?_
            have e73 : aa.tmps[73]?.getD undef = .int .i64 ((x.most : Int) - (m : Int)) := hq 14 _ (by kernel_rfl) rfl
            have e86 : aa.tmps[86]?.getD undef = .int .i64 ((x.most : Int) - (m : Int)) := hq 27 _ (by kernel_rfl) rfl
            clear hp hq
            go_simp
            exact hK _ _ (RelB.refl _) (by first | rfl | exact congrArg Value.bool (decide_eq_true (by first | rfl | omega)))
          · refine opR_mk rfl fun aa W2 hB hp hq K hK => ?_
            have e70 : aa.tmps[70]?.getD undef = .bool true := hq 11 _ (by kernel_rfl) rfl
            have e87 : aa.tmps[87]?.getD undef = .bool true := hq 28 _ (by kernel_rfl) rfl
            clear hp hq
            go_simp
            exact hK _ _ (RelB.refl _) rfl
          · refine opR_mk rfl fun aa W2 hB hp hq K hK => ?_
            have e88 : aa.tmps[88]?.getD undef = .bool true := hq 29 _ (by kernel_rfl) rfl
            clear hp hq
            go_simp
            exact hK _ _ (RelB.refl _) rfl
          · refine opR_guard (j := 30) (d := 89) (c := true) rfl rfl (by kernel_rfl) rfl rfl (fun v W h => h) (fun _ => RelB.refl _) (fun hne => absurd rfl hne) fun hc aa W2 hB hp hq K hK => ?_
            have e0 : aa.tmps[0]?.getD undef = .pointer (some ⟨P, 0, none⟩) := hp 0 (by kernel_rfl)
            clear hp hq
            go_simp
            exact hK _ _ (RelB.refl _) rfl
          · refine opR_guard (j := 30) (d := 89) (c := true) rfl rfl (by kernel_rfl) rfl rfl (fun v W h => h) (fun _ => RelB.refl _) (fun hne => absurd rfl hne) fun hc aa W2 hB hp hq K hK => ?_
            have e2 : aa.tmps[2]?.getD undef = .int .i64 (j : Int) := hp 2 (by kernel_rfl)
            clear hp hq
            go_simp
            exact hK _ _ (RelB.refl _) rfl
          · refine opR_guard (j := 30) (d := 89) (c := true) rfl rfl (by kernel_rfl) rfl rfl (fun v W h => h) (fun _ => RelB.refl _) (fun hne => absurd rfl hne) fun hc aa W2 hB hp hq K hK => ?_
            have e90 : aa.tmps[90]?.getD undef = .pointer (some ⟨P, 0, none⟩) := hq 31 _ (by kernel_rfl) rfl
            have e91 : aa.tmps[91]?.getD undef = .int .i64 (j : Int) := hq 32 _ (by kernel_rfl) rfl
            clear hp hq
            go_simp
            refine (t_lastLog P ls x j W2 (HL.out.below hB) hjc).mono ?_
            rintro e w2 ⟨rfl, rfl⟩
            exact hK _ _ (RelB.refl _) rfl
          · refine opR_guard (j := 30) (d := 89) (c := true) rfl rfl (by kernel_rfl) rfl rfl (fun v W h => h) (fun _ => RelB.refl _) (fun hne => absurd rfl hne) fun hc aa W2 hB hp hq K hK => ?_
            have e1 : aa.tmps[1]?.getD undef = .pointer (some ⟨Q, 0, none⟩) := hp 1 (by kernel_rfl)
            clear hp hq
            go_simp
            exact hK _ _ (RelB.refl _) rfl
          · refine opR_guard (j := 30) (d := 89) (c := true) rfl rfl (by kernel_rfl) rfl rfl (fun v W h => h) (fun _ => RelB.refl _) (fun hne => absurd rfl hne) fun hc aa W2 hB hp hq K hK => ?_
            have e93 : aa.tmps[93]?.getD undef = .pointer (some ⟨Q, 0, none⟩) := hq 34 _ (by kernel_rfl) rfl
            clear hp hq
            go_simp
            exact hK _ _ (RelB.refl _) rfl
          · refine opR_guard (j := 30) (d := 89) (c := true) rfl rfl (by kernel_rfl) rfl rfl (fun v W h => h) (fun _ => RelB.refl _) (fun hne => absurd rfl hne) fun hc aa W2 hB hp hq K hK => ?_
            have e94 : aa.tmps[94]?.getD undef = .pointer (some ⟨Q, 0, none⟩) := hq 35 _ (by kernel_rfl) rfl
            clear hp hq
            go_simp
            exact hK _ _ (RelB.refl _) rfl
          · refine opR_guard (j := 30) (d := 89) (c := true) rfl rfl (by kernel_rfl) rfl rfl (fun v W h => h) (fun _ => RelB.refl _) (fun hne => absurd rfl hne) fun hc aa W2 hB hp hq K hK => ?_
            have e95 : aa.tmps[95]?.getD undef = .pointer (some ⟨Q, 2, none⟩) := hq 36 _ (by kernel_rfl) rfl
            have cc := (HDc.out.below hB).c2
            clear hp hq
            go_simp
            exact hK _ _ (RelB.refl _) rfl
          · refine opR_guard (j := 30) (d := 89) (c := true) rfl rfl (by kernel_rfl) rfl rfl (fun v W h => h) (fun _ => RelB.refl _) (fun hne => absurd rfl hne) fun hc aa W2 hB hp hq K hK => ?_
            have e2 : aa.tmps[2]?.getD undef = .int .i64 (j : Int) := hp 2 (by kernel_rfl)
            clear hp hq
            go_simp
            exact hK _ _ (RelB.refl _) rfl
          · refine opR_guard (j := 30) (d := 89) (c := true) rfl rfl (by kernel_rfl) rfl rfl (fun v W h => h) (fun _ => RelB.refl _) (fun hne => absurd rfl hne) fun hc aa W2 hB hp hq K hK => ?_
            have e96 : aa.tmps[96]?.getD undef = .slice (some ⟨D.bT, 0, none⟩) x.cores D.cT := hq 37 _ (by kernel_rfl) rfl
            have e97 : aa.tmps[97]?.getD undef = .int .i64 (j : Int) := hq 38 _ (by kernel_rfl) rfl
            clear hp hq
            go_simp
            exact hK _ _ (RelB.refl _) rfl
          · refine opR_guard (j := 30) (d := 89) (c := true) rfl rfl (by kernel_rfl) rfl rfl (fun v W h => h) (fun _ => RelB.refl _) (fun hne => absurd rfl hne) fun hc aa W2 hB hp hq K hK => ?_
            have e98 : aa.tmps[98]?.getD undef = .pointer (some ⟨D.bT, j, none⟩) := hq 39 _ (by kernel_rfl) rfl
            have cc := (HDc.out.below hB).cT hjc
            clear hp hq
            go_simp
            exact hK _ _ (RelB.refl _) rfl
          · refine opR_guard (j := 30) (d := 89) (c := true) rfl rfl (by kernel_rfl) rfl rfl (fun v W h => h) (fun _ => RelB.refl _) (fun hne => absurd rfl hne) fun hc aa W2 hB hp hq K hK => ?_
            have e92 : aa.tmps[92]?.getD undef = .int .u64 (x.last j) := hq 33 _ (by kernel_rfl) rfl
            have e99 : aa.tmps[99]?.getD undef = .int .u64 (x.last j) := hq 40 _ (by kernel_rfl) rfl
            clear hp hq
            go_simp
            exact hK _ _ (RelB.refl _) (by first | rfl | simp | exact congrArg Value.bool (decide_eq_true rfl))
          · refine opR_mk rfl fun aa W2 hB hp hq K hK => ?_
            have e89 : aa.tmps[89]?.getD undef = .bool true := hq 30 _ (by kernel_rfl) rfl
            have e100 : aa.tmps[100]?.getD undef = .bool true := hq 41 _ (by kernel_rfl) rfl
            clear hp hq
            go_simp
            exact hK _ _ (RelB.refl _) rfl
          · refine opR_mk rfl fun aa W2 hB hp hq K hK => ?_
            have e101 : aa.tmps[101]?.getD undef = .bool true := hq 42 _ (by kernel_rfl) rfl
            clear hp hq
            go_simp
            exact hK _ _ (RelB.refl _) rfl
        · intro vs W3 hB3 hv3 _
          have v43 : vs 43 = .bool true := hv3 43 _ rfl rfl
          replace HB := Lib.hid (ptrans HB.out hB3)
          clear hB3 hv3
          simp only [List.take_succ_cons, List.take_zero, putAll, Act.put, List.setIfInBounds_toArray, List.set_cons_succ, List.set_cons_zero, Nat.zero_add, Nat.reduceAdd, v43]
          go_wp2
          go_ret
          exact ⟨rfl, HB.out⟩
      · have HK := Lib.hid hk
        clear hk
        go_wp2_with (first
          | (go_at_call 14; (with_reducible refine (t_mergeD P ls x _ HL.out HX.out HN.out).mono ?_); rintro e w1 ⟨A1, d1, rfl, hr, hb⟩; have HR1 := Lib.hid hr; replace HB := Lib.hid (HB.out.trans (hb.mono HB.out.size)); replace HL := Lib.hid (HL.out.below hb); replace HDc := Lib.hid (HDc.out.below hb); try replace HR9 := Lib.hid (HR9.out.below hb); clear hr hb)
          | (go_at_call 66; (with_reducible refine (t_docMergeD Q D G x _ HDc.out HOK.out HN.out).mono ?_); rintro e w2 ⟨A2, d2, rfl, hr, hb⟩; have HR2 := Lib.hid hr; replace HR1 := Lib.hid (HR1.out.below hb); replace HB := Lib.hid (HB.out.trans (hb.mono HB.out.size)); replace HL := Lib.hid (HL.out.below hb); replace HDc := Lib.hid (HDc.out.below hb); try replace HR9 := Lib.hid (HR9.out.below hb); clear hr hb)
          | (go_at_call 17; (with_reducible refine (t_same A1 A2 N N d1 d2 (docL x) (docL x) true (by simp) _ HR1.out HN.out (by omega) HR2.out HN.out (by omega)).mono ?_); rintro e w3 ⟨rfl, hb⟩; replace HB := Lib.hid (HB.out.trans (hb.mono HB.out.size)); replace HL := Lib.hid (HL.out.below hb); replace HDc := Lib.hid (HDc.out.below hb); try replace HR9 := Lib.hid (HR9.out.below hb); clear hb)
          | (go_at_call 21; (with_reducible refine (t_lenLog P ls x _ HL.out).mono ?_); rintro e w4 ⟨rfl, rfl⟩)
          | (go_at_call 63; (with_reducible refine (t_docHas Q D G x k false (decide_eq_false HK.out) _ HDc.out).mono ?_); rintro e w4 ⟨rfl, rfl⟩)
          | (go_at_call 19; (with_reducible refine (t_listNo (some ⟨P, 0, none⟩) k _ (t_has P k (x.cores : Int) false (decide_eq_false HK.out) _ HL.out.c0)).mono ?_); rintro e w5 ⟨rfl, rfl⟩)
          | (go_at_call 51; (with_reducible refine (t_roomNo (some ⟨P, 0, none⟩) k _ (t_has P k (x.cores : Int) false (decide_eq_false HK.out) _ HL.out.c0)).mono ?_); rintro e w5 ⟨rfl, rfl⟩)
          | (go_at_call 52; (with_reducible refine (t_lastNo (some ⟨P, 0, none⟩) k _ (t_has P k (x.cores : Int) false (decide_eq_false HK.out) _ HL.out.c0)).mono ?_); rintro e w5 ⟨rfl, rfl⟩))
        go_ret
        exact ⟨rfl, HB.out⟩
end Go.Proofs.YtehckjkihaalfaaGreat

/- What the reach bounds; Long, closer; New at any two numbers. -/
namespace Go.Proofs.YtehckjkihaalfaaGreat
open Go.ChangeShapes Go.WideShapes Go.ChangeAt Go.RowKit Go.Maps

section
variable {H : Type} {enc : TypeId × Value → H} {w : World} {sp : Nat → Bool} {held : Bool}
theorem bytes_u64 : Tryz.prog.bytesOf 31 = 8 := by kernel_rfl
/-- A slice's weight. -/
theorem u64_small {fuel : Nat} {A : Option Addr} {n c : Nat} {x : DataW H × List MemPlace} (h : DataW.trod enc Tryz.prog w 0 sp held fuel 23 [.slice A n c] = some x) (hw : ∀ q ∈ x.1.weights Tryz.prog 23, q ≤ reachBytes) : n * 8 ≤ reachBytes := by
  rcases Go.Deep.open_slice Tryz.underlying23 h with ⟨h0, _⟩ | ⟨a, len, cap, m, k, D, Pl, h0, _, hl, hm, hmm, hx, hi⟩
  · simp only [List.cons.injEq, and_true, Value.slice.injEq] at h0
    rw [h0.2.1]
    exact Nat.zero_le _
  · simp only [List.cons.injEq, and_true, Value.slice.injEq] at h0
    have h1 := hw ((len + (m - len)) * 8) (by rw [hx]; simp [DataW.weights, Tryz.underlying23, bytes_u64])
    rw [h0.2.1]
    exact Nat.le_trans (Nat.mul_le_mul_right 8 (Nat.le_add_right _ _)) h1
theorem each_mem {ts : List TypeId} : ∀ {xs : List (DataW H × List MemPlace)} {j : Nat} {t : TypeId} {y : DataW H × List MemPlace}, ts[j]? = some t → xs[j]? = some y → ∀ q ∈ y.1.weights Tryz.prog t, q ∈ DataW.weightsEach Tryz.prog ts (xs.map (·.1)) := fun {xs} {j} {t} {y} ht hy q hq =>
  DataW.weights_mem_each (j := j) (t := t) (d := y.1) ht (by rw [List.getElem?_map, hy]; rfl) q hq
theorem step_small {fuel : Nat} {A : Option Addr} {n c : Nat} {cs : List Value} {x : DataW H × List MemPlace} (h : DataW.trod enc Tryz.prog w 0 sp held fuel 36 cs = some x) (hcs : cs[14]? = some (.slice A n c)) (hw : ∀ q ∈ x.1.weights Tryz.prog 36, q ≤ reachBytes) : n * 8 ≤ reachBytes := by
  obtain ⟨xs, m, _, hx, hl, hlen, hk⟩ := DataW.trod_struct Tryz.underlying36 h
  obtain ⟨y3, hy3⟩ : ∃ y3, xs[3]? = some y3 := ⟨_, List.getElem?_eq_getElem (by rw [hlen]; decide)⟩
  have h3 := hk 3 _ rfl
  rw [hy3] at h3
  obtain ⟨hlt, hce⟩ := List.getElem?_eq_some_iff.1 hcs
  have h4 : DataW.trod enc Tryz.prog w 0 sp held m 23 [.slice A n c] = some y3 := by
    rw [← h3]
    show _ = DataW.trod enc Tryz.prog w 0 sp held m 23 ((cs.drop 14).take (Tryz.prog.cellsOf 23))
    rw [cells_sU64, List.drop_eq_getElem_cons hlt, List.take_succ_cons, List.take_zero, hce]
  refine u64_small h4 fun q hq => hw q ?_
  rw [hx]
  simp only [DataW.weights, Tryz.underlying36]
  exact each_mem (j := 3) (t := 23) (by rfl) hy3 q hq
theorem all_mem {e : TypeId} : ∀ {ds : List (DataW H)} {d : DataW H}, d ∈ ds → ∀ q ∈ d.weights Tryz.prog e, q ∈ DataW.weightsAll Tryz.prog e ds
  | d0 :: ds, d, hd, q, hq => by
    simp only [DataW.weightsAll, List.mem_append]
    rcases List.mem_cons.1 hd with rfl | hd
    · exact .inl hq
    · exact .inr (all_mem hd q hq)
/-- Each step's stamps are few, by the reach. -/
theorem steps_small {v : Value} {A : Option Addr} {n c : Nat} {l : List St} {d : DataW H} {p : List MemPlace} (hv : v = .slice A n c) (h : DataW.Trod enc Tryz.prog w 0 sp held 22 v d p) (hA : StepsAt w A l) (hl : l.length = n)
    (hw : ∀ q ∈ d.weights Tryz.prog 22, q ≤ reachBytes) : ∀ s ∈ l, s.sn ≤ 17592186044416 := by
  subst hv
  obtain ⟨fuel, hf⟩ := h
  intro s hs
  obtain ⟨i, hi, hsi⟩ := List.getElem_of_mem hs
  have hsi' : l[i]? = some s := by rw [List.getElem?_eq_getElem hi, hsi]
  obtain ⟨b, o, rfl, hb, hc⟩ := hA.at_ (fun e => by rw [e] at hi; simp at hi)
  have a3 := (hc i s hsi').2.2.2
  rcases Go.Deep.open_slice Tryz.underlying22 hf with ⟨h0, _⟩ | ⟨a, len, cap, m, k, D, Pl, h0, _, hl2, hm, hmm, hx, hj⟩
  · simp [Value.cells] at h0
  · simp only [Value.cells, List.cons.injEq, and_true, Value.slice.injEq, Option.some.injEq] at h0
    obtain ⟨rfl, rfl, rfl⟩ := h0
    obtain ⟨cs', h1, h2⟩ := hj i (by rw [hmm]; split <;> omega)
    rw [cells_step] at h1
    obtain ⟨_, _, hat⟩ := World.cells?_some h1
    have h3 := hat 14 (by omega)
    rw [Go.Deep.add_add, add_flat] at h3
    rw [Nat.add_assoc] at a3
    rw [a3] at h3
    have h4 := step_small h2 h3.symm (fun q hq => hw q (by
      rw [show d = _ from congrArg Prod.fst hx]
      simp only [DataW.weights, Tryz.underlying22, List.mem_cons, List.mem_append]
      exact .inr (.inl (all_mem (d := D i) (List.mem_map.2 ⟨i, List.mem_range.2 (by omega), rfl⟩) q hq))))
    have h5 : reachBytes = 140737488351232 := rfl
    omega
end
set_option maxRecDepth 100000 in
set_option maxHeartbeats 4000000 in
/-- Where Long says no, no step has more than 500 stamps. -/
theorem t_long23s (A : Option Addr) (c n : Nat) (l : List St) (w : World) (hl : StepsAt w A l) (hn : l.length = n) (hnc : n ≤ c) (hn2 : n ≤ maxLen) (hsm : ∀ s ∈ l, s.sn ≤ 17592186044416) :
    Calls Tryz.prog 10 #[.slice A n c] w fun e w' => ∃ b : Bool, e = .returned (.bool b) ∧ (b = false → n ≤ 80 ∧ ∀ s ∈ l, s.sn ≤ 500) ∧ Below w.heap.size w w' := by
  have HN := Lib.hid hn
  have HL := Lib.hid hl
  have HSM := Lib.hid hsm
  clear hl hn hsm
  go_enter Tryz.func10, Tryz.ntmps10
  go_wp2
  go_loopw [3, 4, 5] (fun u v x wr => ∃ (i m : Nat) (A1 : Option Addr) (d1 : Nat), u = .slice A1 i d1 ∧ v = .int .i64 (m : Int) ∧ x = .int .i64 (i : Int) ∧ i ≤ n ∧ i ≤ 200 ∧ m ≤ 500 ∧ Hid ((∀ s ∈ l.take i, s.sn ≤ 500) ∧ wr.ownsRow w.heap.size 34 12 (.slice A1 i d1) i (flatR ((l.take i).map St.r)) ∧ Below w.heap.size w wr)) (fun _ _ x _ => n - (intOf x).toNat)
  case atStart => exact ⟨0, 0, none, 0, rfl, rfl, rfl, Nat.zero_le _, Nat.zero_le _, Nat.zero_le _, (fun s hs => by simp at hs), World.ownsRow_nil _ _ _ _, Below.refl _ _⟩
  case round =>
    obtain ⟨i, m, A1, d1, rfl, rfl, rfl, hi, hi1, hm, HW⟩ := hrel
    by_cases he : i < n ∧ i < 200
    · obtain ⟨he, he1⟩ := he
      obtain ⟨s, hs⟩ : ∃ s, l[i]? = some s := ⟨l[i]'(by rw [HN.out]; omega), List.getElem?_eq_getElem _⟩
      obtain ⟨b, o, rfl, hbl, hc⟩ := HL.out.at_ (fun e => by rw [e] at hs; simp at hs)
      obtain ⟨a0, a1, f6, a3⟩ := hc i s hs
      have hcw : ∀ q v, w.cell? ⟨b, q, none⟩ = some v → wr.cell? ⟨b, q, none⟩ = some v := fun q v h => (World.cell?_of_block (a := ⟨b, q, none⟩) (HW.out.2.2.block b hbl)).trans h
      have r0 := hcw _ _ (f6 0 _ rfl)
      have r1 := hcw _ _ (f6 1 _ rfl)
      have r2 := hcw _ _ (f6 2 _ rfl)
      have r3 := hcw _ _ (f6 3 _ rfl)
      have r4 := hcw _ _ (f6 4 _ rfl)
      have r5 := hcw _ _ (f6 5 _ rfl)
      have r6 := hcw _ _ (f6 6 _ rfl)
      have r7 := hcw _ _ (f6 7 _ rfl)
      have r8 := hcw _ _ (f6 8 _ rfl)
      have r9 := hcw _ _ (f6 9 _ rfl)
      have r10 := hcw _ _ (f6 10 _ rfl)
      have r11 := hcw _ _ (f6 11 _ rfl)
      simp only [Nat.reduceAdd] at r0 r1 r2 r3 r4 r5 r6 r7 r8 r9 r10 r11
      have HS := Lib.hid hs
      have A3 := Lib.hid a3
      have HBL := Lib.hid hbl
      have hin : i < 60000 := by omega
      have hlen : ((l.take i).map St.r).length = i := by rw [List.length_map, List.length_take, HN.out]; omega
      have HLEN := Lib.hid hlen
      have hsn := HSM.out s (List.mem_of_getElem? hs)
      have hnext : Hid ((l.take i).map St.r ++ [s.r] = (l.take (i + 1)).map St.r) := by
        show _ = _
        rw [List.take_succ_eq_append_getElem (by rw [HN.out]; exact he), List.map_append]
        rw [List.getElem?_eq_getElem (by rw [HN.out]; exact he)] at hs
        rw [Option.some.inj hs]
        rfl
      clear hc hs f6 hbl hcw a0 a1 a3 hlen
      by_cases h5 : 500 < (m : Int) + (s.sn : Int)
      all_goals
        go_wp2_with (at_builtin; refine wpList_append_rec2 rfl _ _ rfl w.heap.size _ ((l.take i).map St.r) i (i + 1) HLEN.out rfl rfl (HW.out.2.1.alloc _) wr.heap.size s.r rfl (heap_alloc_new _ _) (by omega) (by rw [World.alloc_size']; have := HW.out.2.2.size; omega) ?_; intro A2 d2 W4 g4 g5 g6; have hb4 : Below w.heap.size w W4 := ⟨g5.os.trans HW.out.2.2.os, g5.tape.trans HW.out.2.2.tape, g5.output.trans HW.out.2.2.output, Nat.le_trans HW.out.2.2.size (Nat.le_trans (by rw [World.alloc_size']; omega) g5.size), fun q hq => (g5.block q (by rw [World.alloc_size']; have := HW.out.2.2.size; omega) (fun e => by have := (HW.out.2.1.lt q e.symm).1; omega)).trans ((heap_alloc_old _ _ (by have := HW.out.2.2.size; omega)).trans (HW.out.2.2.block q hq))⟩; have H4 := Lib.hid (And.intro g4 hb4); have a34 := (World.cell?_of_block (a := ⟨b, o + i * 15 + 14, none⟩) (hb4.block b HBL.out)).trans A3.out; clear g4 g5 g6 hb4)
      · go_ret
        exact ⟨true, rfl, (fun h => by cases h), H4.out.2⟩
      · go_roundw
        case rel =>
          refine ⟨i + 1, m + s.sn, A2, d2, rfl, congrArg (Value.int .i64) (by omega), rfl, he, by omega, by omega, fun y hy => ?_, hnext.out ▸ H4.out.1, H4.out.2⟩
          obtain ⟨j, hj⟩ := List.mem_iff_getElem?.1 hy
          rw [List.getElem?_take] at hj
          split at hj
          · rename_i hji
            by_cases e : j = i
            · subst e
              obtain rfl : s = y := Option.some.inj (HS.out.symm.trans hj)
              omega
            · exact HW.out.1 y (List.mem_of_getElem? (i := j) (by rw [List.getElem?_take, if_pos (by omega)]; exact hj))
          · cases hj
        case measure => simp only [intOf]; omega
    · have hlen : ((l.take i).map St.r).length = i := by rw [List.length_map, List.length_take, HN.out]; omega
      have hrec := recs_of_row HW.out.2.1 hlen (fun r hr => by
        obtain ⟨s, hs, rfl⟩ := List.mem_map.1 hr
        exact HL.out.ok s (List.mem_of_mem_take hs))
      have hcall := t_many22 A1 i d1 _ wr hrec hlen (by omega)
      have HC := Lib.hid hcall
      clear hcall hrec hlen
      by_cases h60 : 80 < n <;> by_cases hin : i < n
      all_goals
        try have h200 : ¬ i < 200 := fun e => he ⟨hin, e⟩
        go_wp2_with (go_at_call 50; (with_reducible refine HC.out.mono ?_); rintro e w2 ⟨hrb, hb⟩; obtain ⟨bb, rfl⟩ := hrb.get; have H2 := Lib.hid (HW.out.2.2.trans (hb.mono HW.out.2.2.size)); clear hb)
      all_goals
        go_ret
        first
          | exact .inr ⟨rfl, HW.out.2.2⟩
          | exact ⟨_, rfl, fun _ => ⟨by omega, fun s hs => HW.out.1 s (by rw [List.take_of_length_le (by rw [HN.out]; omega)]; exact hs)⟩, H2.out⟩
          | exact ⟨_, rfl, fun _ => absurd hi1 (by omega), H2.out⟩
set_option maxRecDepth 100000 in
set_option maxHeartbeats 4000000 in
theorem t_newLogBad (c m : Int) (h : ¬ (1 ≤ c ∧ c ≤ 8 ∧ 1 ≤ m ∧ m ≤ 256)) (w : World) : Calls Tryz.prog 12 #[.int .i64 c, .int .i64 m] w fun e w' => e = .returned (.tuple #[.pointer none, .int .i64 2]) ∧ w = w' := by
  have go : ∀ (b0 b1 b2 b3 : Bool), decide (1 ≤ c) = b0 → decide (c ≤ 8) = b1 → decide (1 ≤ m) = b2 → decide (m ≤ 256) = b3 → (b0 && (b1 && (b2 && b3))) = false → Calls Tryz.prog 12 #[.int .i64 c, .int .i64 m] w fun e w' => e = .returned (.tuple #[.pointer none, .int .i64 2]) ∧ w = w' := by
    intro b0 b1 b2 b3 e0 e1 e2 e3 hb
    cases b0 <;> cases b1 <;> cases b2 <;> cases b3 <;> simp only [Bool.and_true, Bool.and_false, Bool.true_and, Bool.false_and, Bool.true_eq_false, decide_eq_true_eq, decide_eq_false_iff_not] at hb e0 e1 e2 e3
    all_goals
      clear h hb
      go_enter Tryz.func12, Tryz.ntmps12
      go_wp2
      go_ret2
      exact ⟨rfl, rfl⟩
  refine go _ _ _ _ rfl rfl rfl rfl ?_
  cases hh : (decide (1 ≤ c) && (decide (c ≤ 8) && (decide (1 ≤ m) && decide (m ≤ 256)))) with
  | false => rfl
  | true =>
    simp only [Bool.and_eq_true, decide_eq_true_eq] at hh
    exact absurd hh h
end Go.Proofs.YtehckjkihaalfaaGreat

/- Both logs at once: the program's, and the document's. -/
namespace Go.Proofs.YtehckjkihaalfaaGreat
open Go.RowKit Go.Maps

/-- In block P the log is x, in block Q the document's is y; they have no block in common; all of it is the call's own. -/
structure Both (w W : World) (P Q : Nat) (ls : Nat → Value) (D : DD) (G : Nat → Prop) (x y : PLog) : Prop where
  log : LogAt W P ls x
  doc : DocAt W Q D G y
  off : ∀ b, G b → ¬ Fl P ls b
  lowP : w.heap.size ≤ P
  lowG : ∀ b, G b → w.heap.size ≤ b
  bel : Below w.heap.size w W
section
variable {w W W2 : World} {P Q : Nat} {ls ls2 : Nat → Value} {D D2 : DD} {G G2 : Nat → Prop} {x x2 y y2 : PLog}
theorem Both.below (h : Both w W P Q ls D G x y) (hb : Below W.heap.size W W2) : Both w W2 P Q ls D G x y := ⟨h.log.below hb, h.doc.below hb, h.off, h.lowP, h.lowG, h.bel.trans (hb.mono h.bel.size)⟩
theorem Both.logTurn (h : Both w W P Q ls D G x y) (hL : LogAt W2 P ls2 x2) (ht : Turn W W2 (Fl P ls) (Fl P ls2)) : Both w W2 P Q ls2 D G x2 y :=
  ⟨hL, h.doc.same ht.size fun b hb => ht.block b (h.doc.lt b hb) (h.off b hb), fun b hb hf => (ht.foot b hf).elim (h.off b hb) (fun e => by have := h.doc.lt b hb; omega), h.lowP, h.lowG, h.bel.trans (ht.below (fun b hf => Nat.le_trans h.lowP (h.log.fl hf).1) h.bel.size)⟩
theorem Both.docTurn (h : Both w W P Q ls D G x y) (hD : DocAt W2 Q D2 G2 y2) (hg : W.grownBy W2 (some Q)) (hG : ∀ b, G2 b → G b ∨ W.heap.size ≤ b) : Both w W2 P Q ls D2 G2 x y2 :=
  ⟨h.log.same fun b hb => hg.block b (h.log.fl hb).2 (fun e => h.off Q h.doc.gQ (Option.some.inj e ▸ hb)), hD, fun b hb hf => (hG b hb).elim (fun h1 => h.off b h1 hf) (fun e => by have := (h.log.fl hf).2; omega), h.lowP, fun b hb => (hG b hb).elim (h.lowG b) (fun e => Nat.le_trans h.bel.size e), h.bel.trans (below_grownO hg h.bel.size fun q e => by have e' : Q = q := Option.some.inj e; subst e'; exact h.lowG _ h.doc.gQ)⟩
end
def Bo (w W : World) (P Q : Nat) (x y : PLog) : Prop := ∃ ls D G, Both w W P Q ls D G x y
theorem Bo.below {w W W2 : World} {P Q : Nat} {x y : PLog} (h : Bo w W P Q x y) (hb : Below W.heap.size W W2) : Bo w W2 P Q x y := by
  obtain ⟨ls, D, G, h⟩ := h
  exact ⟨ls, D, G, h.below hb⟩
theorem Bo.bel {w W : World} {P Q : Nat} {x y : PLog} (h : Bo w W P Q x y) : Below w.heap.size w W := by
  obtain ⟨ls, D, G, h⟩ := h
  exact h.bel
/-- Beside both logs a block of the walk's own, B, which holds o. -/
structure BothB (w W : World) (P Q : Nat) (ls : Nat → Value) (D : DD) (G : Nat → Prop) (x y : PLog) (B : Nat) (cs : Array Value) (t : TypeId) : Prop where
  two : Both w W P Q ls D G x y
  off : ¬ Fl P ls B
  ne : B ≠ Q
  blk : W.heap[B]? = some (.cells cs t (0, 0))
def BoB (w W : World) (P Q : Nat) (x y : PLog) (B : Nat) (cs : Array Value) (t : TypeId) : Prop := ∃ ls D G, BothB w W P Q ls D G x y B cs t
section
variable {w W W2 : World} {P Q B : Nat} {ls : Nat → Value} {D : DD} {G : Nat → Prop} {x x2 y y2 : PLog} {cs : Array Value} {t : TypeId}
theorem BothB.below (h : BothB w W P Q ls D G x y B cs t) (hb : Below W.heap.size W W2) : BothB w W2 P Q ls D G x y B cs t := ⟨h.two.below hb, h.off, h.ne, (hb.block B (lt_heap h.blk)).trans h.blk⟩
theorem BoB.below (h : BoB w W P Q x y B cs t) (hb : Below W.heap.size W W2) : BoB w W2 P Q x y B cs t := by
  obtain ⟨ls, D, G, h⟩ := h
  exact ⟨ls, D, G, h.below hb⟩
theorem BoB.bo (h : BoB w W P Q x y B cs t) : Bo w W P Q x y := by
  obtain ⟨ls, D, G, h⟩ := h
  exact ⟨ls, D, G, h.two⟩
theorem BoB.cell (h : BoB w W P Q x y B cs t) {j : Nat} {v : Value} (hv : cs[j]? = some v) : W.cell? ⟨B, j, none⟩ = some v := by
  obtain ⟨ls, D, G, h⟩ := h
  simp only [World.cell?, h.blk]
  exact hv
theorem BoB.ltB (h : BoB w W P Q x y B cs t) : B < W.heap.size := by
  obtain ⟨ls, D, G, h⟩ := h
  exact lt_heap h.blk
theorem BoB.lowQ (h : BoB w W P Q x y B cs t) : w.heap.size ≤ Q := by
  obtain ⟨ls, D, G, h⟩ := h
  exact h.two.lowG Q h.two.doc.gQ
theorem Bo.alloc (h : Bo w W P Q x y) (cs : Array Value) (t : TypeId) : BoB w (W.alloc (.cells cs t)) P Q x y W.heap.size cs t := by
  obtain ⟨ls, D, G, h⟩ := h
  exact ⟨ls, D, G, h.below (below_a1' W _), fun hf => by have := (h.log.fl hf).2; omega, fun e => by have := h.doc.lt Q h.doc.gQ; omega, heap_alloc_new _ _⟩
theorem BothB.logTurn {ls2 : Nat → Value} (h : BothB w W P Q ls D G x y B cs t) (hL : LogAt W2 P ls2 x2) (ht : Turn W W2 (Fl P ls) (Fl P ls2)) : BothB w W2 P Q ls2 D G x2 y B cs t :=
  ⟨h.two.logTurn hL ht, fun hf => (ht.foot B hf).elim h.off (fun e => by have := lt_heap h.blk; omega), h.ne, (ht.block B (lt_heap h.blk) h.off).trans h.blk⟩
theorem BothB.docTurn {D2 : DD} {G2 : Nat → Prop} (h : BothB w W P Q ls D G x y B cs t) (hD : DocAt W2 Q D2 G2 y2) (hg : W.grownBy W2 (some Q)) (hG : ∀ b, G2 b → G b ∨ W.heap.size ≤ b) : BothB w W2 P Q ls D2 G2 x y2 B cs t :=
  ⟨h.two.docTurn hD hg hG, h.off, h.ne, (hg.block B (lt_heap h.blk) (fun e => h.ne (Option.some.inj e))).trans h.blk⟩
end
/-- What a turn of either leaves alone. -/
def RelW2 (P Q : Nat) (ls : Nat → Value) (W W' : World) : Prop := W.heap.size ≤ W'.heap.size ∧ ∀ b, b < W.heap.size → ¬ Fl P ls b → b ≠ Q → W'.heap[b]? = W.heap[b]?
section
variable {B : Nat} {cs : Array Value} {t : TypeId}
theorem t_putX (P Q : Nat) (x y : PLog) (k : Int) (r : R) (w W : World) (h : BoB w W P Q x y B cs t) (hr : RecOk r) :
    Calls Tryz.prog 13 #[.pointer (some ⟨P, 0, none⟩), .int .i64 k, r.val] W fun e W' => e = .returned (.int .i64 (putE x k r)) ∧ BoB w W' P Q (putL x k r) y B cs t := by
  obtain ⟨ls, D, G, h⟩ := h
  refine (t_putLog P ls x k r W h.two.log hr).mono ?_
  rintro e W' ⟨rfl, ls', hL, ht, _⟩
  exact ⟨rfl, ls', D, G, h.logTurn hL ht⟩
theorem t_putZ (P Q : Nat) (x y : PLog) (k : Int) (r : R) (w W : World) (h : BoB w W P Q x y B cs t) (hr : RecOk r) :
    Calls Tryz.prog 25 #[.pointer (some ⟨Q, 0, none⟩), .int .i64 k, r.val] W fun e W' => e = .returned (.int .i64 (putE y k r)) ∧ BoB w W' P Q x (putL y k r) B cs t := by
  obtain ⟨ls, D, G, h⟩ := h
  refine (t_docPut Q D G y k r W h.two.doc hr).mono ?_
  rintro e W' ⟨rfl, D', G', hD, hg, hG⟩
  exact ⟨rfl, ls, D', G', h.docTurn hD hg hG⟩
theorem t_takeX (P Q : Nat) (ls : Nat → Value) (D : DD) (G : Nat → Prop) (x y : PLog) (As : Option Addr) (ns c : Nat) (st : List Int) (w W : World) (h : BothB w W P Q ls D G x y B cs t) (hx : LogOk x) (hU : U64At W As st) (hns : st.length = ns) (hns2 : ns ≤ 60000) (hF : st ≠ [] → ∀ b o, As = some ⟨b, o, none⟩ → ¬ Fl P ls b) :
    Calls Tryz.prog 16 #[.pointer (some ⟨P, 0, none⟩), .slice As ns c] W fun e W' => e = .returned (.int .i64 (takeN x st x.cores : Nat)) ∧ BoB w W' P Q (takeP x st) y B cs t ∧ RelW2 P Q ls W W' := by
  refine (t_takeLog P ls x W h.two.log hx As ns c st hU hns (by omega) hF).mono ?_
  rintro e W' ⟨rfl, ls', hL, ht⟩
  exact ⟨rfl, ⟨ls', D, G, h.logTurn hL ht⟩, ht.size, fun b hb hf _ => ht.block b hb hf⟩
theorem t_takeZ (P Q : Nat) (x y : PLog) (As : Option Addr) (ns c : Nat) (st : List Int) (w W : World) (h : BoB w W P Q x y B cs t) (hy : LogOk y) (hU : U64At W As st) (hns : st.length = ns) (hns2 : ns ≤ 60000) (hF : st ≠ [] → ∀ b o, As = some ⟨b, o, none⟩ → b ≠ Q) :
    Calls Tryz.prog 26 #[.pointer (some ⟨Q, 0, none⟩), .slice As ns c] W fun e W' => e = .returned (.int .i64 (takeN y st y.cores : Nat)) ∧ BoB w W' P Q x (takeP y st) B cs t ∧ W.grownBy W' (some Q) := by
  obtain ⟨ls, D, G, h⟩ := h
  refine (t_docTake Q D G y W h.two.doc hy As ns c st hU hns hns2 hF).mono ?_
  rintro e W' ⟨rfl, D', G', hD, hg, hG⟩
  exact ⟨rfl, ⟨ls, D', G', h.docTurn hD hg hG⟩, hg⟩
end
/-- The old log behind a Copy: the new one, and the document's, stay. -/
structure Old (w W W0 : World) (P P' Q : Nat) (ls0 lsn : Nat → Value) (D : DD) (G : Nat → Prop) (x y : PLog) (B : Nat) (cs : Array Value) (t : TypeId) : Prop where
  two : BothB w W0 P' Q lsn D G y y B cs t
  off : ∀ b, Fl P' lsn b → ¬ Fl P ls0 b
  offG : ∀ b, G b → ¬ Fl P ls0 b
  offB : ¬ Fl P ls0 B
  bel : Below w.heap.size w W
  lowP : w.heap.size ≤ P
  now : ∃ ls, LogAt W P ls x ∧ Turn W0 W (Fl P ls0) (Fl P ls)
section
variable {w W W0 W2 : World} {P P' Q B : Nat} {ls0 lsn : Nat → Value} {D : DD} {G : Nat → Prop} {x x2 y : PLog} {cs : Array Value} {t : TypeId}
theorem Old.below (h : Old w W W0 P P' Q ls0 lsn D G x y B cs t) (hb : Below W.heap.size W W2) : Old w W2 W0 P P' Q ls0 lsn D G x y B cs t := by
  obtain ⟨ls, hL, ht⟩ := h.now
  exact ⟨h.two, h.off, h.offG, h.offB, h.bel.trans (hb.mono h.bel.size), h.lowP, ls, hL.below hb, ht.trans (Turn.of_below _ hb)⟩
theorem Old.turn {ls ls2 : Nat → Value} (h : Old w W W0 P P' Q ls0 lsn D G x y B cs t) (hL : LogAt W P ls x) (ht : Turn W0 W (Fl P ls0) (Fl P ls)) (hL2 : LogAt W2 P ls2 x2) (ht2 : Turn W W2 (Fl P ls) (Fl P ls2)) : Old w W2 W0 P P' Q ls0 lsn D G x2 y B cs t :=
  ⟨h.two, h.off, h.offG, h.offB, h.bel.trans (ht2.below (fun b hf => Nat.le_trans h.lowP (hL.fl hf).1) h.bel.size), h.lowP, ls2, hL2, ht.trans ht2⟩
theorem Old.blk (h : Old w W W0 P P' Q ls0 lsn D G x y B cs t) : W.heap[B]? = some (.cells cs t (0, 0)) := by
  obtain ⟨ls, hL, ht⟩ := h.now
  exact (ht.block B (lt_heap h.two.blk) h.offB).trans h.two.blk
theorem Old.cell (h : Old w W W0 P P' Q ls0 lsn D G x y B cs t) {j : Nat} {v : Value} (hv : cs[j]? = some v) : W.cell? ⟨B, j, none⟩ = some v := by
  simp only [World.cell?, h.blk]
  exact hv
theorem Old.done (h : Old w W W0 P P' Q ls0 lsn D G x y B cs t) : BoB w W P' Q y y B cs t := by
  have hB := h.blk
  obtain ⟨ls, hL, ht⟩ := h.now
  exact ⟨lsn, D, G, ⟨h.two.two.log.same fun b hb => ht.block b (h.two.two.log.fl hb).2 (h.off b hb), h.two.two.doc.same ht.size fun b hb => ht.block b (h.two.two.doc.lt b hb) (h.offG b hb), h.two.two.off, h.two.two.lowP, h.two.two.lowG, h.bel⟩, h.two.off, h.two.ne, hB⟩
theorem t_copyX (P Q : Nat) (x : PLog) (w W : World) (h : BoB w W P Q x x B cs t) :
    Calls Tryz.prog 27 #[.pointer (some ⟨P, 0, none⟩)] W fun e W' => ∃ P', e = .returned (.pointer (some ⟨P', 0, none⟩)) ∧ ∃ ls0 lsn D G, Old w W' W' P P' Q ls0 lsn D G x x B cs t := by
  obtain ⟨ls, D, G, h⟩ := h
  refine (t_copyLog P ls x W h.two.log).mono ?_
  rintro e W' ⟨P', rfl, hP, ⟨lsn, hL⟩, hb⟩
  have h2 := h.below hb
  refine ⟨P', rfl, ls, lsn, D, G, ⟨⟨hL, h2.two.doc, fun b hg hf => ?_, Nat.le_trans h.two.bel.size hP, h.two.lowG, h2.two.bel⟩, fun hf => ?_, h.ne, h2.blk⟩, fun b hf hf2 => ?_, h.two.off, h.off, h2.two.bel, h.two.lowP, ls, h2.two.log, Turn.refl _ _⟩
  · have h3 := (hL.fl hf).1
    have h4 := h.two.doc.lt b hg
    omega
  · have h3 := (hL.fl hf).1
    have h4 := lt_heap h.blk
    omega
  · have h3 := (hL.fl hf).1
    have h4 := (h.two.log.fl hf2).2
    omega
theorem t_putO (k : Int) (r : R) (h : Old w W W0 P P' Q ls0 lsn D G x y B cs t) (hr : RecOk r) :
    Calls Tryz.prog 13 #[.pointer (some ⟨P, 0, none⟩), .int .i64 k, r.val] W fun e W' => e = .returned (.int .i64 (putE x k r)) ∧ Old w W' W0 P P' Q ls0 lsn D G (putL x k r) y B cs t := by
  obtain ⟨ls, hL, ht⟩ := h.now
  refine (t_putLog P ls x k r W hL hr).mono ?_
  rintro e W' ⟨rfl, ls2, hL2, ht2, _⟩
  exact ⟨rfl, h.turn hL ht hL2 ht2⟩
/-- What is taken lies in a block that was there ahead of the call. -/
theorem t_takeO (As : Option Addr) (ns c : Nat) (st : List Int) (h : Old w W W0 P P' Q ls0 lsn D G x y B cs t) (hx : LogOk x) (hU : U64At w As st) (hns : st.length = ns) (hns2 : ns ≤ 60000) :
    Calls Tryz.prog 16 #[.pointer (some ⟨P, 0, none⟩), .slice As ns c] W fun e W' => e = .returned (.int .i64 (takeN x st x.cores : Nat)) ∧ Old w W' W0 P P' Q ls0 lsn D G (takeP x st) y B cs t := by
  obtain ⟨ls, hL, ht⟩ := h.now
  refine (t_takeLog P ls x W hL hx As ns c st (hU.below h.bel) hns (by omega) (arg_apart hU h.lowP hL)).mono ?_
  rintro e W' ⟨rfl, ls2, hL2, ht2⟩
  exact ⟨rfl, h.turn hL ht hL2 ht2⟩
/-- One stamp in a new block. -/
theorem t_take1O (s : Int) (h : Old w W W0 P P' Q ls0 lsn D G x y B cs t) (hx : LogOk x) :
    Calls Tryz.prog 16 #[.pointer (some ⟨P, 0, none⟩), .slice (some ⟨W.heap.size, 0, none⟩) 1 1] (W.alloc (.cells #[.int .u64 s] 31)) fun e W' => e = .returned (.int .i64 (takeN x [s] x.cores : Nat)) ∧ Old w W' W0 P P' Q ls0 lsn D G (takeP x [s]) y B cs t := by
  obtain ⟨ls, hL, ht⟩ := h.now
  have hb := below_a1' W (.cells #[.int .u64 s] 31)
  have hU : U64At (W.alloc (.cells #[.int .u64 s] 31)) (some ⟨W.heap.size, 0, none⟩) [s] := fun _ => ⟨W.heap.size, 0, rfl, by simp, fun k v hk => by
    rcases k with _ | k
    · obtain rfl := Option.some.inj hk
      simp only [World.cell?, heap_alloc_new]
      rfl
    · simp at hk⟩
  have ht1 : Turn W (W.alloc (.cells #[.int .u64 s] 31)) (Fl P ls) (Fl P ls) := Turn.of_below _ hb
  refine (t_takeLog P ls x _ (hL.below hb) hx (some ⟨W.heap.size, 0, none⟩) 1 1 [s] hU rfl (by decide) (fun _ b o e hf => ?_)).mono ?_
  · simp only [Option.some.injEq, Addr.mk.injEq] at e
    have := (hL.fl hf).2
    omega
  · rintro e W' ⟨rfl, ls2, hL2, ht2⟩
    exact ⟨rfl, h.turn hL ht hL2 (ht1.trans ht2)⟩
end
theorem docU_len {x : PLog} (s : Int) (hx : LogOk x) (h8 : x.cores ≤ 8) (hl : ∀ k, k < 8 → (x.rows k).length ≤ 256) : (uptoR s (docL x)).length ≤ 2048 := Nat.le_trans (List.length_filter_le _ _) (docL_len hx h8 hl)
theorem t_uptoX (P Q : Nat) (x y : PLog) (s : Int) (w W : World) (h : Bo w W P Q x y) (hx : LogOk x) {N : Nat} (hN : (uptoR s (docL x)).length = N) :
    Calls Tryz.prog 18 #[.pointer (some ⟨P, 0, none⟩), .int .u64 s] W fun e W' => ∃ A c, e = .returned (.slice A N c) ∧ RecsAt W' A (uptoR s (docL x)) ∧ Below W.heap.size W W' := by
  obtain ⟨ls, D, G, h⟩ := h
  refine (t_uptoLog P ls x s W h.log hx).mono ?_
  rintro e W' ⟨A, m, c, done, rfl, hm, hu, ho, hb⟩
  have h1 : docL x = done.map (recAt x) := merge_doc hx h.log.cores8.2 hm
  have h2 : uptoR s (docL x) = (docL x).take m := by rw [h1]; exact upto_doc hu
  have h3 : m = N := by
    rw [← hN, h2, List.length_take, h1]
    have := hu.1
    omega
  subst h3
  rw [← h1, ← h2] at ho
  exact ⟨A, c, rfl, recs_of_row ho hN (fun r hr => docL_ok h.log r ((List.mem_filter.1 hr).1)), hb⟩
theorem t_uptoY (P Q : Nat) (x y : PLog) (s : Int) (w W : World) (h : Bo w W P Q x y) (hy : LogOk y) (hok : ∀ r ∈ docL y, RecOk r) {N : Nat} (hN : (uptoR s (docL y)).length = N) :
    Calls Tryz.prog 30 #[.pointer (some ⟨Q, 0, none⟩), .int .u64 s] W fun e W' => ∃ A c, e = .returned (.slice A N c) ∧ RecsAt W' A (uptoR s (docL y)) ∧ Below W.heap.size W W' := by
  obtain ⟨ls, D, G, h⟩ := h
  refine (t_docUpto Q D G y s W h.doc hy).mono ?_
  rintro e W' ⟨A, n, c, rfl, hn, ho, hb⟩
  obtain rfl : n = N := hn.symm.trans hN
  exact ⟨A, c, rfl, recs_of_row ho hN (fun r hr => hok r ((List.mem_filter.1 hr).1)), hb⟩
theorem t_sameX (P Q : Nat) (x : PLog) (k : Int) (w W : World) (h : Bo w W P Q x x) (hx : LogOk x) :
    Calls Tryz.prog 29 #[.pointer (some ⟨P, 0, none⟩), .pointer (some ⟨Q, 0, none⟩), .int .i64 k] W fun e W' => e = .returned (.bool true) ∧ Below W.heap.size W W' := by
  obtain ⟨ls, D, G, h⟩ := h
  exact t_same23 P ls x Q D G k W h.log hx h.doc
theorem Bo.docOk {w W : World} {P Q : Nat} {x : PLog} (h : Bo w W P Q x x) : ∀ r ∈ docL x, RecOk r := by
  obtain ⟨ls, D, G, h⟩ := h
  exact docL_ok h.log
theorem Bo.docLen {w W : World} {P Q : Nat} {x : PLog} (s : Int) (h : Bo w W P Q x x) (hx : LogOk x) : (uptoR s (docL x)).length ≤ 2048 := by
  obtain ⟨ls, D, G, h⟩ := h
  exact docU_len s hx h.log.cores8.2 h.log.len
theorem run_append_nilU (w : World) (A : Option Addr) (cap : Nat) (l : List Int) (m : Nat) (hm : l.length = m) (h : U64At w A l) (hm2 : m ≤ 100000) (ty : TypeId) :
    ∃ v w', (Builtin.append_ #[23, 23] ty #[.slice none 0 0, .slice A m cap]).run Tryz.prog w = .ok v w' ∧ w'.ownsRow w.heap.size 31 1 v m (l.map (Value.int .u64)) ∧ Below w.heap.size w w' := by
  obtain ⟨i0, hi, hz0, hz1, hz2⟩ := infoU
  cases A with
  | none =>
    have hl : l = [] := by
      cases l with
      | nil => rfl
      | cons a l =>
        obtain ⟨b, o, h1, _⟩ := h (by simp)
        simp at h1
    subst hl
    obtain rfl : m = 0 := hm.symm
    refine ⟨.slice none 0 0, w, ?_, World.ownsRow_nil _ _ _ _, Below.refl _ _⟩
    simp [Builtin.append_, run_underlying Tryz.underlying23, sizeOf, typeInfo, hi, Builtin.lenOf, Builtin.firstCells]
  | some a =>
    obtain ⟨v', w', hrun, h2, h3, _, _⟩ := run_append_own_at (P := Tryz.prog) w w.heap.size 23 ty 31 i0 _ 1 8 Tryz.underlying23 hi hz0 hz1 hz2 rfl (by decide) (.slice none 0 0) 0 [] (World.ownsRow_nil _ _ _ _) a m cap (l.map (Value.int .u64))
      (by rw [List.length_map, hm]; omega) (fun j u hu => by
        have hne : l ≠ [] := fun e => by rw [e] at hu; simp at hu
        obtain ⟨b, o, h1, _, h3⟩ := h hne
        obtain rfl := Option.some.inj h1
        rw [add_flat]
        rw [List.getElem?_map] at hu
        cases hj : l[j]? with
        | none => rw [hj] at hu; cases hu
        | some v =>
          rw [hj] at hu
          obtain rfl := Option.some.inj hu
          exact h3 j v hj) (fun u hu => by obtain ⟨v, _, rfl⟩ := List.mem_map.1 hu; rfl) (by unfold maxLen; omega) (by omega) (Nat.le_refl _)
    rw [Nat.zero_add, List.nil_append] at h2
    exact ⟨v', w', hrun, h2, below_none h3⟩
theorem u64_of_own {W : World} {base n : Nat} {v : Value} {l : List Int} (h : W.ownsRow base 31 1 v n (l.map (Value.int .u64))) : ∃ A c, v = .slice A n c ∧ U64At W A l ∧ ∀ b o, A = some ⟨b, o, none⟩ → base ≤ b ∧ b < W.heap.size := by
  rcases h.2 with ⟨h1, h2⟩ | ⟨g, cap, cur, h1, _⟩
  · obtain ⟨rfl, hl⟩ : n = 0 ∧ l = [] := by
      have := h.1
      cases l with
      | nil => exact ⟨by simpa using this.symm, rfl⟩
      | cons a l => rw [List.length_map, List.length_cons] at this; omega
    subst h1 hl
    exact ⟨none, 0, rfl, fun e => absurd rfl e, fun b o e => by cases e⟩
  · subst h1
    have hlt := h.lt g rfl
    refine ⟨_, _, rfl, fun _ => ⟨g, 0, rfl, hlt.2, fun k x hk => ?_⟩, fun b o e => ?_⟩
    · rw [Nat.zero_add, h.cellAt k (by have := h.1; have h3 := (List.getElem?_eq_some_iff.1 hk).1; rw [List.length_map] at this; omega), List.getElem?_map, hk]
      rfl
    · simp only [Option.some.injEq, Addr.mk.injEq] at e
      exact e.1 ▸ hlt
/-- A row of stamps of the walk's own, beside both logs. -/
def AppAt (P Q : Nat) (ls : Nat → Value) (l : List Int) (n : Nat) (v : Value) (W : World) : Prop := ∃ A c, v = .slice A n c ∧ U64At W A l ∧ ∀ b o, A = some ⟨b, o, none⟩ → ¬ Fl P ls b ∧ b ≠ Q ∧ b < W.heap.size
theorem AppAt.stay {P Q : Nat} {ls : Nat → Value} {l : List Int} {n : Nat} {v : Value} {W W' : World} (h : AppAt P Q ls l n v W) (hr : RelW2 P Q ls W W') : AppAt P Q ls l n v W' := by
  obtain ⟨A, c, h1, h2, h3⟩ := h
  refine ⟨A, c, h1, fun hn => ?_, fun b o e => ⟨(h3 b o e).1, (h3 b o e).2.1, Nat.lt_of_lt_of_le (h3 b o e).2.2 hr.1⟩⟩
  obtain ⟨b, o, e, hb, hc⟩ := h2 hn
  obtain ⟨k1, k2, k3⟩ := h3 b o e
  exact ⟨b, o, e, Nat.lt_of_lt_of_le hb hr.1, fun k x hk => (World.cell?_of_block (a := ⟨b, _, none⟩) (hr.2 b k3 k1 k2)).trans (hc k x hk)⟩
theorem RelW2.of_below {P Q : Nat} {ls : Nat → Value} {W W' : World} (h : RelB W W') : RelW2 P Q ls W W' := ⟨Below.size h, fun b hb _ _ => Below.block h b hb⟩
theorem RelW2.of_grown {P Q : Nat} {ls : Nat → Value} {W W' : World} (h : W.grownBy W' (some Q)) : RelW2 P Q ls W W' := ⟨h.size, fun b hb _ hne => h.block b hb (fun e => hne (Option.some.inj e))⟩
end Go.Proofs.YtehckjkihaalfaaGreat
