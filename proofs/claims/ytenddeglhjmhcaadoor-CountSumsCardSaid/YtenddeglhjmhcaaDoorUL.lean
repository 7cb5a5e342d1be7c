/- The document's Sum. -/
import Derived.Test.YtenddeglhjmhcaaDoorUK
namespace Go.Proofs.YtenddeglhjmhcaaDoor
open Go.RowKit

set_option maxRecDepth 100000 in
theorem built_zero : Tryd.prog.built 26 [] = some (zT.map intV).toArray := by kernel_rfl
/-- The sum so far, behind the empty result. -/
def SumS2 (w W : World) (s : List Int) : Prop := TalB W w.heap.size zT ∧ TalB W (w.heap.size + 1) s ∧ Below w.heap.size w W
theorem SumS2.below {w W W' : World} {s : List Int} (h : SumS2 w W s) (hb : Below W.heap.size W W') : SumS2 w W' s := ⟨h.1.below hb, h.2.1.below hb, ptrans h.2.2 hb⟩
theorem SumS2.set {w W : World} {s t : List Int} (h : SumS2 w W s) (hs : s.length = 22) (ht : t.length = 22) : SumS2 w (W.setCells (w.heap.size + 1) 0 (t.map intV)) t := by
  obtain ⟨h1, h2⟩ := h.2.1.put hs ht
  exact ⟨(h2.block _ (Array.getElem?_eq_some_iff.1 h.1).1 (by intro e; injection e with e; omega)).trans h.1, h1, below_grown h.2.2 h2 (by omega)⟩
set_option maxRecDepth 100000 in
set_option maxHeartbeats 8000000 in
theorem t_rsum (A : Option Addr) (n c : Nat) (l : List (List Int)) (w : World) (hl : TalsAt w A l) (hn : l.length = n) (hn2 : n ≤ 1000) (hf : ∀ t ∈ l, Tal t) :
    Calls Tryd.prog 6 #[.slice A n c] w fun e w' => e = .returned (talV (sumT l)) ∧ Below w.heap.size w w' := by
  have HL := Lib.hid hl
  have HN := Lib.hid hn
  have HF := Lib.hid hf
  clear hl hn hf
  have hs0 := sum_start w
  rw [zT_arr] at hs0
  have HS0 := Lib.hid hs0
  clear hs0
  go_enter Tryd.func6, Tryd.ntmps6
  go_wp2_with (first
    | (refine wpList_buildTo rfl 26 _ rfl _ rfl (zT.map intV).toArray (by simpa using built_zero) ?_)
    | (refine wpList_store_tal rfl _ _ rfl (w.heap.size + 1) zT zT rfl rfl rfl rfl HS0.out.2.1 ?_; intro w1 h1 hg1
       have HS1 : Hid (SumS2 w w1 (sumT (l.take 0))) := ⟨(hg1.block _ (Array.getElem?_eq_some_iff.1 HS0.out.1).1 (by intro e; injection e with e; omega)).trans HS0.out.1, h1, below_grown HS0.out.2.2 hg1 (by omega)⟩
       clear h1 hg1))
  go_loopw [4] (fun v W => ∃ i : Nat, v = .int .i64 (i : Int) ∧ i ≤ n ∧ Hid (SumS2 w W (sumT (l.take i)))) (fun v _ => n - (intOf v).toNat)
  case atStart => exact ⟨0, rfl, Nat.zero_le _, HS1⟩
  case round =>
    clear HS1
    obtain ⟨i, rfl, hi, HS⟩ := hrel
    by_cases he : i = n
    · subst he
      have HE : Hid (SumS2 w wr (sumT l)) := by
        have h := HS.out
        rw [List.take_of_length_le (by rw [HN.out]; exact Nat.le_refl _)] at h
        exact h
      clear HS
      have HLS := Lib.hid (sumT_tal l HF.out).1
      go_wp2_with (first
        | (refine wpList_load_tal rfl _ rfl (w.heap.size + 1) (sumT l) HLS.out rfl HE.out.2.1 ?_)
        | (refine wpList_store_tal rfl _ _ rfl w.heap.size zT (sumT l) rfl HLS.out rfl rfl HE.out.1 ?_; intro w4 h4 hg4))
      exact ⟨rfl, _, results_tal (a := 2) rfl rfl h4 HLS.out, rfl, below_grown HE.out.2.2 hg4 (Nat.le_refl _)⟩
    · have hin : i < n := by omega
      obtain ⟨x, hx⟩ : ∃ x, l[i]? = some x := ⟨_, List.getElem?_eq_getElem (by rw [HN.out]; exact hin)⟩
      obtain ⟨b, o, rfl, hb, hr⟩ := HL.out.get hx
      have hxt := HF.out x (List.mem_of_getElem? hx)
      have HRX : Hid (∀ W, Below wr.heap.size wr W → W.rangeAt b (o + i * 22) (x.map intV)) := fun W h => hr W (ptrans HS.out.2.2 h)
      have HXT := Lib.hid hxt
      have hsn : sumT (l.take (i + 1)) = addT (sumT (l.take i)) x := by rw [List.take_add_one, hx, Option.toList_some, sum_snoc]
      have HSN := Lib.hid hsn
      have hst : Tal (sumT (l.take i)) := sumT_tal _ fun t ht => HF.out t (List.mem_of_mem_take ht)
      have HST0 := Lib.hid hst
      obtain ⟨s, hs⟩ : ∃ s, sumT (l.take i) = s := ⟨_, rfl⟩
      rw [hs] at HS HSN HST0
      have HSL := Lib.hid HST0.out.1
      have HXL := Lib.hid HXT.out.1
      clear hx hb hr hxt hsn hst hs
      go_wp2
      refine wp_region_last 6 RelB (phi [isV (talV s), isV (.slice (some ⟨b, o, none⟩) n c), isV (.int .i64 (i : Int)), isV (.pointer (some ⟨b, o + i * 22, none⟩)), isV (talV x), isV (talV (addT s x))]) (fun W => SumS2 w W (addT s x)) (by kernel_rfl) (by kernel_rfl) (by kernel_rfl) (RelB.of (below_drew _)) (fun _ _ _ a b => a.trans b) ?_ ?_ ?_ ?_
      · refine stays_phiR ?_
        simp only [List.forall_mem_cons]
        exact ⟨fun _ _ _ h _ => h, fun _ _ _ h _ => h, fun _ _ _ h _ => h, fun _ _ _ h _ => h, fun _ _ _ h _ => h, fun _ _ _ h _ => h, fun _ h => absurd h (by simp)⟩
      · refine ⟨?_, ?_, ?_, ?_, ?_, ?_, trivial⟩
        · refine opR_mk rfl fun aa W2 hB hp hq K hK => ?_
          have e3 : aa.tmps[3]?.getD undef = .pointer (some ⟨w.heap.size + 1, 0, none⟩) := hp 3 (by kernel_rfl)
          clear hp hq
          refine wp_load_mid 26 _ rfl (w.heap.size + 1) 0 (ev_tmp e3) (s.map intV) _ (HS.out.below hB).2.1.range Tryd.underlying26 rfl (by rw [List.length_map, HST0.out.1]; exact infoT) ?_
          exact hK _ _ (RelB.refl _) rfl
        · refine opR_mk rfl fun aa W2 hB hp hq K hK => ?_
          have e0 : aa.tmps[0]?.getD undef = .slice (some ⟨b, o, none⟩) n c := hp 0 (by kernel_rfl)
          clear hp hq
          go_simp
          exact hK _ _ (RelB.refl _) rfl
        · refine opR_mk rfl fun aa W2 hB hp hq K hK => ?_
          have e4 : aa.tmps[4]?.getD undef = .int .i64 (i : Int) := hp 4 (by kernel_rfl)
          clear hp hq
          go_simp
          exact hK _ _ (RelB.refl _) rfl
        · refine opR_mk rfl fun aa W2 hB hp hq K hK => ?_
          have e13 : aa.tmps[13]?.getD undef = .slice (some ⟨b, o, none⟩) n c := hq 1 _ (by kernel_rfl) rfl
          have e14 : aa.tmps[14]?.getD undef = .int .i64 (i : Int) := hq 2 _ (by kernel_rfl) rfl
          clear hp hq
          go_simp
          exact hK _ _ (RelB.refl _) rfl
        · refine opR_mk rfl fun aa W2 hB hp hq K hK => ?_
          have e15 : aa.tmps[15]?.getD undef = .pointer (some ⟨b, o + i * 22, none⟩) := hq 3 _ (by kernel_rfl) rfl
          clear hp hq
          refine wp_load_mid 26 _ rfl b (o + i * 22) (ev_tmp e15) (x.map intV) _ (HRX.out W2 hB) Tryd.underlying26 rfl (by rw [List.length_map, HXT.out.1]; exact infoT) ?_
          exact hK _ _ (RelB.refl _) rfl
        · refine opR_mk rfl fun aa W2 hB hp hq K hK => ?_
          have e12 : aa.tmps[12]?.getD undef = talV s := hq 0 _ (by kernel_rfl) rfl
          have e16 : aa.tmps[16]?.getD undef = talV x := hq 4 _ (by kernel_rfl) rfl
          clear hp hq
          go_simp
          go_at_call 16
          (with_reducible refine (t_add s x HSL.out HXL.out 1 _).mono ?_)
          rintro e5 w7 ⟨rfl, h7⟩
          rw [zip_one]
          exact hK _ _ h7 rfl
      · intro oN hoN aa W2 hB hp hq K hK
        obtain rfl := Option.some.inj hoN
        have e17 : aa.tmps[17]?.getD undef = talV (addT s x) := hq 5 _ (by decide) rfl
        have e3 : aa.tmps[3]?.getD undef = .pointer (some ⟨w.heap.size + 1, 0, none⟩) := hp 3 (by kernel_rfl)
        have hs2 := HS.out.below hB
        have hal := (addT_tal HST0.out.1 HXT.out.1).1
        have hl : ((addT s x).map intV).toArray.size = 22 := by simp [hal]
        clear hp hq
        refine wp_store_mid 26 _ _ rfl (w.heap.size + 1) 0 ((addT s x).map intV).toArray (ev_tmp e3) (ev_tmp e17) (by rw [hl]; exact hs2.2.1.there HST0.out.1) (by rw [hl]; exact infoT) (all_oneCell_toArray fun v hv => by obtain ⟨x, _, rfl⟩ := List.mem_map.1 hv; rfl) ?_
        rw [List.toList_toArray]
        exact hK _ (hs2.set HST0.out.1 hal)
      · intro vs W3 hF hv
        have HF3 := Lib.hid hF
        clear hF hv
        simp only [putAll, Act.put, List.setIfInBounds_toArray, List.set_cons_succ, List.set_cons_zero, Nat.zero_add, Nat.reduceAdd]
        go_wp2
        exact ⟨⟨i + 1, by go_num, by omega, by rw [HSN.out]; exact HF3⟩, by simp [intOf]; omega⟩
end Go.Proofs.YtenddeglhjmhcaaDoor
