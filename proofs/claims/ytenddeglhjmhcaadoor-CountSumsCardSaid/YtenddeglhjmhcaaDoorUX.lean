/- count.Recs of one record. -/
import Derived.Test.YtenddeglhjmhcaaDoorUT
import Derived.Test.YtenddeglhjmhcaaDoorUW
namespace Go.Proofs.YtenddeglhjmhcaaDoor
open Go.RowKit

/-- A record, of its kind alone. -/
def recV (d : Int) : List Value := [.int .u64 0, .int .u8 d, .int .u32 0, .string ⟨#[]⟩, .int .u32 0, .int .u8 0, .int .u32 0, .string ⟨#[]⟩, .int .u32 0, .int .u32 0, .int .i64 0, .string ⟨#[]⟩]
theorem infoRec : (Tryd.prog.info? 55).map (·.size) = some 12 := by kernel_rfl
theorem rec_one (d : Int) : ∀ v ∈ recV d, v.oneCell' = true := by
  intro v hv
  simp only [recV, List.mem_cons, List.not_mem_nil, or_false] at hv
  rcases hv with rfl | rfl | rfl | rfl | rfl | rfl | rfl | rfl | rfl | rfl | rfl | rfl <;> rfl
theorem infoA8 : (Tryd.prog.info? 51).map (·.size) = some 8 := by kernel_rfl
theorem below_store2 {W W' : World} {o : Obj} (h : (W.alloc o).grownBy W' (some W.heap.size)) : Below W.heap.size W W' := by
  have h0 : Below W.heap.size W (W.alloc o) := (Below.refl _ _).alloc (Nat.le_refl _) _
  exact ⟨h.os.trans h0.os, h.tape.trans h0.tape, h.output.trans h0.output, Nat.le_trans h0.size h.size, fun k hk => (h.block k (Nat.lt_of_lt_of_le hk h0.size) fun e => by injection e with e; omega).trans (h0.block k hk)⟩
def n8 : Nat → List Int | 0 => [0, 0, 0, 0, 0, 0, 0, 0] | _ => [0, 0, 0, 0, 0, 0, 0, 1]
theorem results_arr {T : TypeId} {n : Nat} {fn : Func} {a b : Nat} {tmps : Array Value} {W : World} {t : List Int} (hu : ∃ d : TypeDesc, Tryd.prog.underlying T = some d ∧ d.isRow = true) (hi : (Tryd.prog.info? T).map (·.size) = some n) (h : fn.results = #[.cell a T]) (ha : tmps.getD a undef = .pointer (some ⟨b, 0, none⟩)) (hT : ArrB T W b t) (ht : t.length = n) : (results fn tmps).run Tryd.prog W = .ok (.agg (t.map intV).toArray) W := by
  obtain ⟨d, hd, hr⟩ := hu
  have hl := run_loadVar_mid (P := Tryd.prog) W b 0 T (t.map intV) d hT.range hd hr (by rw [List.length_map, ht]; exact hi)
  rw [Array.getD_eq_getD_getElem?] at ha
  unfold results
  rw [h]
  simp [ha, asAddr, hl]
set_option maxRecDepth 100000 in
set_option maxHeartbeats 4000000 in
theorem t_recs (b : Nat) (w : World) (h : w.heap[b]? = some (.cells (recV 7).toArray 55 (0, 0))) :
    Calls Tryd.prog 14 #[.slice (some ⟨b, 0, none⟩) 1 1] w fun e w' => e = .returned (.agg (([0, 0, 0, 0, 0, 0, 0, 1] : List Int).map intV).toArray) ∧ Below w.heap.size w w' := by
  have HR := Lib.hid h
  clear h
  go_enter Tryd.func14, Tryd.ntmps14
  go_wp2
  have h0 : Hid (ArrB 51 (w.alloc (.cells #[.int .i64 0, .int .i64 0, .int .i64 0, .int .i64 0, .int .i64 0, .int .i64 0, .int .i64 0, .int .i64 0] 51)) w.heap.size (n8 0) ∧ Below w.heap.size w (w.alloc (.cells #[.int .i64 0, .int .i64 0, .int .i64 0, .int .i64 0, .int .i64 0, .int .i64 0, .int .i64 0, .int .i64 0] 51))) := ⟨heap_alloc_new _ _, (Below.refl _ _).alloc (Nat.le_refl _) _⟩
  go_loopw [7] (fun v W => ∃ i : Nat, v = .int .i64 (i : Int) ∧ i ≤ 1 ∧ Hid (ArrB 51 W w.heap.size (n8 i) ∧ Below w.heap.size w W)) (fun v _ => 1 - (intOf v).toNat)
  case atStart => exact ⟨0, rfl, Nat.zero_le _, h0⟩
  case round =>
    clear h0
    obtain ⟨i, rfl, hi, HS⟩ := hrel
    by_cases he : i = 1
    · subst he
      have hA : wr.heap[w.heap.size]? = some (.cells ((n8 1).map intV).toArray 51 (0, 0)) := HS.out.1
      have HA := Lib.hid hA
      clear hA
      go_wp2_with (first
        | (refine wpList_load_mid rfl 51 _ rfl w.heap.size 0 rfl ((n8 1).map intV) _ (cel_range HA.out) Tryd.underlying51 rfl infoA8 ?_)
        | (refine wpList_store_cel rfl 51 _ _ rfl w.heap.size 8 ((n8 1).map intV) ((n8 1).map intV) rfl rfl infoA8 (fun v hv => by obtain ⟨x, _, rfl⟩ := List.mem_map.1 hv; rfl) rfl rfl HA.out ?_; intro w4 h4 hg4))
      exact ⟨rfl, _, results_arr (a := 2) (n := 8) (t := n8 1) ⟨_, Tryd.underlying51, rfl⟩ infoA8 rfl rfl h4 rfl, rfl, below_grown HS.out.2 hg4 (Nat.le_refl _)⟩
    · obtain rfl : i = 0 := by omega
      have HB := Lib.hid (cel_range ((HS.out.2.block _ (Array.getElem?_eq_some_iff.1 HR.out).1).trans HR.out))
      have HZ : Hid ((wr.alloc (.cells (recV 0).toArray 55)).heap[wr.heap.size]? = some (.cells (recV 0).toArray 55 (0, 0))) := heap_alloc_new _ _
      rw [show (recV 0).toArray = #[.int .u64 0, .int .u8 0, .int .u32 0, .string ⟨#[]⟩, .int .u32 0, .int .u8 0, .int .u32 0, .string ⟨#[]⟩, .int .u32 0, .int .u32 0, .int .i64 0, .string ⟨#[]⟩] from rfl] at HZ
      go_wp2_with (first
        | (refine wpList_load_mid rfl 55 _ rfl b 0 rfl (recV 7) _ HB.out Tryd.underlying55 rfl infoRec ?_)
        | (refine wpList_store_cel rfl 55 _ _ rfl wr.heap.size 12 (recV 0) (recV 7) rfl rfl infoRec (rec_one 7) rfl rfl HZ.out ?_; intro w4 h4 hg4
           have HS4 : Hid (ArrB 51 w4 w.heap.size (n8 0) ∧ Below w.heap.size w w4) := ⟨HS.out.1.below (below_store2 hg4), ptrans HS.out.2 (below_store2 hg4)⟩
           have HD4 := Lib.hid h4
           clear h4 hg4))
      obtain ⟨Br, hBr⟩ : ∃ Br, wr.heap.size = Br := ⟨_, rfl⟩
      rw [hBr] at HD4 ⊢
      clear hBr
      refine wp_region_frontM 3 (phi [isV (.slice (some ⟨w.heap.size, 0, none⟩) 8 8), isV (.pointer (some ⟨Br, 1, none⟩)), isV (.int .u8 7)]) (by kernel_rfl) (by kernel_rfl) (by kernel_rfl) ?_ ?_ ?_
      · refine stays_phiF ?_
        simp only [List.forall_mem_cons]
        exact ⟨fun _ _ _ h _ => h, fun _ _ _ h _ => h, fun _ _ _ h _ => h, fun _ h => absurd h (by simp)⟩
      · refine ⟨?_, ?_, ?_, trivial⟩
        · refine opM_mk rfl fun aa W2 hB hp hq K hK => ?_
          have e2 : aa.tmps[2]?.getD undef = .pointer (some ⟨w.heap.size, 0, none⟩) := hp 2 (by kernel_rfl)
          clear hp hq
          go_simp
          exact hK _ _ (Below.refl _ _) rfl
        · refine opM_mk rfl fun aa W2 hB hp hq K hK => ?_
          have e4 : aa.tmps[4]?.getD undef = .pointer (some ⟨Br, 0, none⟩) := hp 4 (by kernel_rfl)
          clear hp hq
          go_simp
          exact hK _ _ (Below.refl _ _) rfl
        · refine opM_mk rfl fun aa W2 hB hp hq K hK => ?_
          have e12 : aa.tmps[12]?.getD undef = .pointer (some ⟨Br, 1, none⟩) := hq 1 _ (by kernel_rfl) rfl
          have c1 : W2.cell? ⟨Br, 1, none⟩ = some (.int .u8 7) := cell_bel ((cell_of HD4.out).trans rfl) hB
          clear hp hq
          go_simp
          exact hK _ _ (Below.refl _ _) rfl
      · intro vs W hB hv
        have f0 : vs 0 = .slice (some ⟨w.heap.size, 0, none⟩) 8 8 := hv 0 (by decide) (by kernel_rfl)
        have f1 : vs 1 = .pointer (some ⟨Br, 1, none⟩) := hv 1 (by decide) (by kernel_rfl)
        have f2 : vs 2 = .int .u8 7 := hv 2 (by decide) (by kernel_rfl)
        have HM := Lib.hid (t_more 51 w.heap.size (n8 0) 0 8 8 7 (by decide) 7 rfl 0 rfl (by decide) (by decide) W (HS4.out.1.below hB))
        have HBW := Lib.hid (ptrans HS4.out.2 hB)
        clear hv
        refine (show wpAny Tryd.prog .any _ _ 1 _ _ W from ?_)
        refine wpAny_one (i := 3) (by kernel_rfl) (by rfl) rfl (fun K hK => ?_)
        simp only [List.take_succ_cons, List.take_zero, putAll, Act.put, List.setIfInBounds_toArray, List.set_cons_succ, List.set_cons_zero, Nat.zero_add, Nat.reduceAdd, f0, f1, f2] at hK ⊢
        go_simp
        go_at_call 21
        refine HM.out.mono ?_
        rintro e w7 ⟨rfl, h7, hg7⟩
        rw [show (n8 0).set (0 + 7) (wrap64 (0 + 1)) = n8 1 from by rw [show wrap64 (0 + 1) = 1 from wrap_id ⟨by decide, by decide⟩]; rfl] at h7
        have HF : Hid (ArrB 51 w7 w.heap.size (n8 1) ∧ Below w.heap.size w w7) := ⟨h7, below_grown HBW.out hg7 (Nat.le_refl _)⟩
        clear h7 hg7
        refine hK _ _ (wpAny_end (by kernel_rfl) ?_)
        clear hK
        go_wp2
        exact ⟨⟨1, by go_num, by decide, HF⟩, by simp [intOf]⟩
end Go.Proofs.YtenddeglhjmhcaaDoor
