/- alive of the logs, walked. -/
import Derived.Test.YtehckjkihaalfaaGreatEM
import Derived.Test.YtehckjkihaalfaaGreatBS
namespace Go.Proofs.YtehckjkihaalfaaGreat
open Go.RowKit Go.Maps

theorem atR_check (s : Int) : checkB (atR s) = true := by rfl
theorem atR_ok {s : Int} (h : 0 ≤ s ∧ s ≤ 18446744073709551615) : RecOk (atR s) := ⟨⟨h, (by decide : (0 : Int) ≤ 7 ∧ (7 : Int) ≤ 255), (by decide : (0 : Int) ≤ 0 ∧ (0 : Int) ≤ 4294967295), (by decide : (0 : Int) ≤ 1 ∧ (1 : Int) ≤ 4294967295), (by decide : (0 : Int) ≤ 0 ∧ (0 : Int) ≤ 255), (by decide : (0 : Int) ≤ 0 ∧ (0 : Int) ≤ 4294967295), (by decide : (0 : Int) ≤ 0 ∧ (0 : Int) ≤ 4294967295), (by decide : (0 : Int) ≤ 0 ∧ (0 : Int) ≤ 4294967295)⟩, Nat.zero_le _, Nat.zero_le _, Nat.zero_le _⟩
/-- alive's log. -/
def xA : Nat → PLog
  | 0 => newP 2 3
  | 1 => putL (newP 2 3) 0 (atR 5)
  | 2 => putL (putL (newP 2 3) 0 (atR 5)) 1 (atR 3)
  | _ => putL (putL (putL (newP 2 3) 0 (atR 5)) 1 (atR 3)) 0 (atR 8)
theorem putE_ok {x : PLog} {k : Int} {r : R} (h : 0 ≤ k ∧ k < x.cores ∧ checkB r = true ∧ x.last k.toNat < r.stamp) (hl : (x.rows k.toNat).length < x.most) : putE x k r = 0 := by unfold putE; rw [if_pos h, if_pos hl]
theorem putL_ok {x : PLog} {k : Int} {r : R} (h : putE x k r = 0) : putL x k r = { x with rows := setF x.rows k.toNat (x.rows k.toNat ++ [r]), last := setF x.last k.toNat r.stamp } := by unfold putL; rw [if_pos h]
theorem pE0 : putE (xA 0) 0 (atR 5) = 0 := putE_ok ⟨by decide, by decide, rfl, by decide⟩ (by decide)
theorem x1_eq : xA 1 = { newP 2 3 with rows := setF (newP 2 3).rows 0 [atR 5], last := setF (newP 2 3).last 0 5 } := putL_ok pE0
theorem pE1 : putE (xA 1) 1 (atR 3) = 0 := by
  rw [x1_eq]
  exact putE_ok ⟨by decide, by decide, rfl, by decide⟩ (by decide)
theorem x2_eq : xA 2 = { newP 2 3 with rows := setF (setF (newP 2 3).rows 0 [atR 5]) 1 [atR 3], last := setF (setF (newP 2 3).last 0 5) 1 3 } := (putL_ok pE1).trans (by rw [x1_eq]; rfl)
theorem pE2 : putE (xA 2) 0 (atR 8) = 0 := by
  rw [x2_eq]
  exact putE_ok ⟨by decide, by decide, rfl, by decide⟩ (by decide)
theorem x3_eq : xA 3 = { newP 2 3 with rows := setF (setF (setF (newP 2 3).rows 0 [atR 5]) 1 [atR 3]) 0 [atR 5, atR 8], last := setF (setF (setF (newP 2 3).last 0 5) 1 3) 0 8 } := (putL_ok pE2).trans (by rw [x2_eq]; rfl)
theorem xA_ok3 : LogOk (xA 3) := ((LogOk.new 2 3).put (by decide) 0 (atR 5)).put (by rw [putL_cores]; decide) 1 (atR 3) |>.put (by rw [putL_cores, putL_cores]; decide) 0 (atR 8)
theorem rows3 (k : Nat) : (xA 3).rows k = if k = 0 then [atR 5, atR 8] else if k = 1 then [atR 3] else [] := by
  rw [x3_eq]
  show setF (setF (setF (newP 2 3).rows 0 [atR 5]) 1 [atR 3]) 0 [atR 5, atR 8] k = _
  unfold setF
  by_cases h : k = 0
  · rw [if_pos h, if_pos h]
  · rw [if_neg h]
    by_cases h1 : k = 1
    · rw [if_pos h1, if_neg h, if_pos h1]
    · rw [if_neg h1, if_neg h, if_neg h, if_neg h1]
      rfl
theorem cores3 : (xA 3).cores = 2 := by rw [x3_eq]; rfl
theorem tag3 : IsTag (xA 3) [(1, atR 3), (0, atR 5), (0, atR 8)] := by
  refine ⟨by simp [tLt, atR], fun a => ?_⟩
  obtain ⟨k, r⟩ := a
  rw [cores3, rows3]
  simp only [List.mem_cons, Prod.mk.injEq, List.not_mem_nil, or_false]
  constructor
  · rintro (⟨rfl, rfl⟩ | ⟨rfl, rfl⟩ | ⟨rfl, rfl⟩) <;> simp
  · rintro ⟨h1, h2⟩
    rcases (by omega : k = 0 ∨ k = 1) with rfl | rfl
    · rw [if_pos rfl] at h2
      simp only [List.mem_cons, List.not_mem_nil, or_false] at h2
      rcases h2 with rfl | rfl <;> simp
    · rw [if_neg (by decide), if_pos rfl] at h2
      simp only [List.mem_cons, List.not_mem_nil, or_false] at h2
      subst h2
      simp
theorem merged3 {d : List (Nat × Nat)} (h : IsMerge (xA 3) d) : d.map (recAt (xA 3)) = [atR 3, atR 5, atR 8] := by
  have h1 := congrArg (List.map Prod.snd) (h.tags.unique tag3)
  rw [List.map_map] at h1
  exact h1
/-- Behind its Take. -/
def yA : PLog := takeP (xA 3) [5, 9]
theorem yA_ok : LogOk yA := xA_ok3.take _
theorem rowsY (k : Nat) : yA.rows k = if k = 0 then [atR 8] else if k = 1 then [atR 3] else [] := by
  show takeR [5, 9] ((xA 3).rows k) = _
  rw [rows3]
  by_cases h : k = 0
  · rw [if_pos h, if_pos h]; rfl
  · by_cases h1 : k = 1
    · rw [if_neg h, if_pos h1, if_neg h]; rfl
    · rw [if_neg h, if_neg h1, if_neg h]; rfl
theorem coresY : yA.cores = 2 := cores3
theorem mergedY {d : List (Nat × Nat)} (h : IsMerge yA d) : d.map (recAt yA) = [atR 3, atR 8] := by
  have h1 := congrArg (List.map Prod.snd) (h.tags.unique (tag3.filter [5, 9]))
  rw [List.map_map] at h1
  exact h1
theorem uptoY {d : List (Nat × Nat)} (h : IsMerge yA d) {m : Nat} (hm : UptoIs (d.map (recAt yA)) 4 m) : m = 1 ∧ (d.map (recAt yA)).take m = [atR 3] := by
  rw [mergedY h] at hm ⊢
  obtain ⟨h1, h2⟩ := hm
  have h3 := (h2 0 (by decide)).1 (by decide)
  have h4 : ¬ 1 < m := fun h => absurd ((h2 1 (by decide)).2 h) (by decide)
  obtain rfl : m = 1 := by omega
  exact ⟨rfl, rfl⟩
theorem takeN3 : takeN (xA 3) [5, 9] (xA 3).cores = 1 := by
  rw [cores3]
  show 0 + (((xA 3).rows 0).length - (takeR [5, 9] ((xA 3).rows 0)).length) + (((xA 3).rows 1).length - (takeR [5, 9] ((xA 3).rows 1)).length) = 1
  rw [rows3, rows3]
  rfl
theorem putY : putE yA 0 (atR 8) = 2 := by
  have : yA.last 0 = 8 := by show (xA 3).last 0 = 8; rw [x3_eq]; rfl
  unfold putE
  rw [if_neg]
  rintro ⟨_, _, _, h⟩
  have h' : yA.last 0 < 8 := h
  omega
theorem lenY : lenN yA yA.cores = 2 := by
  rw [coresY]
  show 0 + (yA.rows 0).length + (yA.rows 1).length = 2
  rw [rowsY, rowsY]
  rfl
theorem recs_of_flat {W : World} {B : Nat} {l : List R} {ty : TypeId} {fr : Nat × Nat} (h : W.heap[B]? = some (.cells (flatR l).toArray ty fr)) (hok : ∀ r ∈ l, RecOk r) : RecsAt W (some ⟨B, 0, none⟩) l :=
  ⟨fun _ => ⟨B, 0, rfl, lt_heap h, fun k r hk i v hv => by
    have := flatR_get hk hv
    simp only [World.cell?, h]
    rw [Nat.zero_add]
    simpa using this⟩, hok⟩
theorem t_mergeA (P : Nat) (ls : Nat → Value) (w : World) (h : LogAt w P ls (xA 3)) : Calls Tryz.prog 14 #[.pointer (some ⟨P, 0, none⟩)] w fun e w' => ∃ A c, e = .returned (.slice A 3 c) ∧ w'.ownsRow w.heap.size 34 12 (.slice A 3 c) 3 (flatR [atR 3, atR 5, atR 8]) ∧ Below w.heap.size w w' := by
  refine (t_merge P ls (xA 3) w h xA_ok3).mono ?_
  rintro e w' ⟨A, c, done, rfl, hm, ho, hb⟩
  have hl : done.length = 3 := by have := congrArg List.length (merged3 hm); simpa using this
  rw [merged3 hm, hl] at ho
  exact ⟨A, c, by rw [hl], ho, hb⟩
theorem t_uptoA (P : Nat) (ls : Nat → Value) (w : World) (h : LogAt w P ls yA) : Calls Tryz.prog 18 #[.pointer (some ⟨P, 0, none⟩), .int .u64 4] w fun e w' => ∃ A c, e = .returned (.slice A 1 c) ∧ RecsAt w' A [atR 3] ∧ Below w.heap.size w w' := by
  refine (t_uptoLog P ls yA 4 w h yA_ok).mono ?_
  rintro e w' ⟨A, m, c, done, rfl, hm, hu, ho, hb⟩
  obtain ⟨rfl, hl⟩ := uptoY hm hu
  rw [hl] at ho
  exact ⟨A, c, rfl, recs_of_row ho rfl (fun r hr => by rw [List.mem_singleton] at hr; subst hr; exact atR_ok (by decide)), hb⟩
theorem recs3_ok : ∀ r ∈ [atR 3, atR 5, atR 8], RecOk r := fun r hr => by
  simp only [List.mem_cons, List.not_mem_nil, or_false] at hr
  rcases hr with rfl | rfl | rfl <;> exact atR_ok (by decide)
theorem t_takeA (P : Nat) (ls : Nat → Value) (w : World) (h : LogAt w P ls (xA 3)) : Calls Tryz.prog 16 #[.pointer (some ⟨P, 0, none⟩), .slice (some ⟨w.heap.size, 0, none⟩) 2 2] (w.alloc (.cells #[.int .u64 5, .int .u64 9] 31)) fun e w' => e = .returned (.int .i64 1) ∧ ∃ ls', LogAt w' P ls' yA ∧ Turn w w' (Fl P ls) (Fl P ls') := by
  refine (t_takeLog P ls (xA 3) _ (h.below (below_a1' w _)) xA_ok3 (some ⟨w.heap.size, 0, none⟩) 2 2 [5, 9] (fun _ => ⟨w.heap.size, 0, rfl, by simp, fun k x hk => ?_⟩) rfl (by decide) (fun _ b o e hf => ?_)).mono ?_
  · rcases k with _ | _ | k
    · obtain rfl := Option.some.inj hk
      simp only [World.cell?, heap_alloc_new]
      rfl
    · obtain rfl := Option.some.inj hk
      simp only [World.cell?, heap_alloc_new]
      rfl
    · simp at hk
  · simp only [Option.some.injEq, Addr.mk.injEq] at e
    have := (h.fl hf).2
    omega
  · rintro e w' ⟨rfl, ls', hL, ht⟩
    rw [takeN3]
    exact ⟨rfl, ls', hL, (Turn.of_below _ (below_a1' w _)).trans ht⟩
theorem t_roomA (P : Nat) (ls : Nat → Value) (w : World) (h : LogAt w P ls yA) : Calls Tryz.prog 51 #[.pointer (some ⟨P, 0, none⟩), .int .i64 0] w fun e w' => e = .returned (.int .i64 2) ∧ Below w.heap.size w w' := by
  have hm : yA.most = 3 := by show (xA 3).most = 3; rw [x3_eq]; rfl
  have h0 := t_roomLog P ls yA 0 w h (by rw [coresY]; decide)
  rw [hm, rowsY] at h0
  exact h0
theorem t_lastA (P : Nat) (ls : Nat → Value) (w : World) (h : LogAt w P ls yA) : Calls Tryz.prog 52 #[.pointer (some ⟨P, 0, none⟩), .int .i64 0] w fun e w' => e = .returned (.int .u64 8) ∧ w = w' := by
  have hl : yA.last 0 = 8 := by show (xA 3).last 0 = 8; rw [x3_eq]; rfl
  have h0 := t_lastLog P ls yA 0 w h (by rw [coresY]; decide)
  rw [hl] at h0
  exact h0
theorem t_atV (k : Int) (w : World) : Calls Tryz.prog 28 #[.int .u64 k] w fun e w' => e = .returned (.agg #[.int .u64 k, .int .u8 7, .int .u32 0, .string ⟨#[]⟩, .int .u32 1, .int .u8 0, .int .u32 0, .string ⟨#[]⟩, .int .u32 0, .int .u32 0, .int .i64 0, .string ⟨#[]⟩]) ∧ Below w.heap.size w w' := t_at23 k w
theorem t_putY (P : Nat) (ls : Nat → Value) (w : World) (h : LogAt w P ls yA) : Calls Tryz.prog 13 #[.pointer (some ⟨P, 0, none⟩), .int .i64 0, .agg #[.int .u64 8, .int .u8 7, .int .u32 0, .string ⟨#[]⟩, .int .u32 1, .int .u8 0, .int .u32 0, .string ⟨#[]⟩, .int .u32 0, .int .u32 0, .int .i64 0, .string ⟨#[]⟩]] w fun e w' => e = .returned (.int .i64 2) ∧ Below w.heap.size w w' := by
  have h0 := t_putLog P ls yA 0 (atR 8) w h (atR_ok (by decide))
  rw [putY] at h0
  exact h0.mono fun e w' ⟨h1, _, _, _, h2⟩ => ⟨h1, h2 (by decide)⟩
theorem t_sameA (A : Option Addr) (c : Nat) (w : World) (h : RecsAt w A [atR 3, atR 5, atR 8]) : Calls Tryz.prog 17 #[.slice A 3 c, .slice (some ⟨w.heap.size, 0, none⟩) 3 3] (w.alloc (.cells #[.int .u64 3, .int .u8 7, .int .u32 0, .string ⟨#[]⟩, .int .u32 1, .int .u8 0, .int .u32 0, .string ⟨#[]⟩, .int .u32 0, .int .u32 0, .int .i64 0, .string ⟨#[]⟩, .int .u64 5, .int .u8 7, .int .u32 0, .string ⟨#[]⟩, .int .u32 1, .int .u8 0, .int .u32 0, .string ⟨#[]⟩, .int .u32 0, .int .u32 0, .int .i64 0, .string ⟨#[]⟩, .int .u64 8, .int .u8 7, .int .u32 0, .string ⟨#[]⟩, .int .u32 1, .int .u8 0, .int .u32 0, .string ⟨#[]⟩, .int .u32 0, .int .u32 0, .int .i64 0, .string ⟨#[]⟩] 34)) fun e w' => e = .returned (.bool true) ∧ Below w.heap.size w w' := by
  have h2 : RecsAt (w.alloc (.cells #[.int .u64 3, .int .u8 7, .int .u32 0, .string ⟨#[]⟩, .int .u32 1, .int .u8 0, .int .u32 0, .string ⟨#[]⟩, .int .u32 0, .int .u32 0, .int .i64 0, .string ⟨#[]⟩, .int .u64 5, .int .u8 7, .int .u32 0, .string ⟨#[]⟩, .int .u32 1, .int .u8 0, .int .u32 0, .string ⟨#[]⟩, .int .u32 0, .int .u32 0, .int .i64 0, .string ⟨#[]⟩, .int .u64 8, .int .u8 7, .int .u32 0, .string ⟨#[]⟩, .int .u32 1, .int .u8 0, .int .u32 0, .string ⟨#[]⟩, .int .u32 0, .int .u32 0, .int .i64 0, .string ⟨#[]⟩] 34)) (some ⟨w.heap.size, 0, none⟩) [atR 3, atR 5, atR 8] := recs_of_flat (heap_alloc_new w (.cells (flatR [atR 3, atR 5, atR 8]).toArray 34)) h.ok
  refine (t_same A _ 3 3 c 3 [atR 3, atR 5, atR 8] [atR 3, atR 5, atR 8] true (by simp) _ (h.below (below_a1' w _)) rfl (by decide) h2 rfl (by decide)).mono ?_
  rintro e w' ⟨rfl, hb⟩
  exact ⟨rfl, ptrans (below_a1' w _) hb⟩
theorem t_sameU (A : Option Addr) (c : Nat) (w : World) (h : RecsAt w A [atR 3]) : Calls Tryz.prog 17 #[.slice A 1 c, .slice (some ⟨w.heap.size, 0, none⟩) 1 1] (w.alloc (.cells #[.int .u64 3, .int .u8 7, .int .u32 0, .string ⟨#[]⟩, .int .u32 1, .int .u8 0, .int .u32 0, .string ⟨#[]⟩, .int .u32 0, .int .u32 0, .int .i64 0, .string ⟨#[]⟩] 34)) fun e w' => e = .returned (.bool true) ∧ Below w.heap.size w w' := by
  have h2 : RecsAt (w.alloc (.cells #[.int .u64 3, .int .u8 7, .int .u32 0, .string ⟨#[]⟩, .int .u32 1, .int .u8 0, .int .u32 0, .string ⟨#[]⟩, .int .u32 0, .int .u32 0, .int .i64 0, .string ⟨#[]⟩] 34)) (some ⟨w.heap.size, 0, none⟩) [atR 3] := recs_of_flat (heap_alloc_new w (.cells (flatR [atR 3]).toArray 34)) h.ok
  refine (t_same A _ 1 1 c 1 [atR 3] [atR 3] true (by simp) _ (h.below (below_a1' w _)) rfl (by decide) h2 rfl (by decide)).mono ?_
  rintro e w' ⟨rfl, hb⟩
  exact ⟨rfl, ptrans (below_a1' w _) hb⟩
set_option maxRecDepth 100000 in
set_option maxHeartbeats 16000000 in
theorem t_alive23 (w : World) : Calls Tryz.prog 11 #[] w fun e w' => e = .returned (.bool true) ∧ Below w.heap.size w w' := by
  have hnew : ∀ W, Calls Tryz.prog 12 #[.int .i64 2, .int .i64 3] W fun e w' => e = .returned (.tuple #[.pointer (some ⟨W.heap.size, 0, none⟩), .int .i64 0]) ∧ LogAt w' W.heap.size (fun _ => .slice none 0 0) (newP 2 3) ∧ Below W.heap.size W w' := fun W => t_newLog 2 3 (by omega) W
  go_enter Tryz.func11, Tryz.ntmps11
  have hb5 : (0 : Int) ≤ 5 ∧ (5 : Int) ≤ 18446744073709551615 := by decide
  have hb3 : (0 : Int) ≤ 3 ∧ (3 : Int) ≤ 18446744073709551615 := by decide
  have hb8 : (0 : Int) ≤ 8 ∧ (8 : Int) ≤ 18446744073709551615 := by decide
  go_upto_region 8 with (first
    | (go_at_call 12; (with_reducible refine (hnew _).mono ?_); rintro e w1 ⟨rfl, hL, hb⟩; have HL : Hid (LogAt w1 w.heap.size (fun _ => .slice none 0 0) (xA 0)) := hL; have HB := Lib.hid hb; clear hL hb)
    | (go_at_call 12; (with_reducible refine (t_newLogNo _ _).mono ?_); rintro e w2 ⟨rfl, rfl⟩)
    | (go_at_call 28; (with_reducible refine (t_at23 _ _).mono ?_); rintro e w2 ⟨rfl, hb⟩; replace HL := Lib.hid (HL.out.below hb); replace HB := Lib.hid (HB.out.trans (hb.mono HB.out.size)); clear hb)
    | (go_at_call 13; (with_reducible refine (t_putLog _ _ (xA 0) 0 (atR 5) _ HL.out (atR_ok hb5)).mono ?_); rintro e w2 ⟨rfl, ls1, hL, ht, _⟩; replace HB := Lib.hid (HB.out.trans (ht.below (fun b hf => (HL.out.fl hf).1) HB.out.size)); replace HL : Hid (LogAt w2 w.heap.size ls1 (xA 1)) := hL; clear hL ht; rw [pE0])
    | (go_at_call 13; (with_reducible refine (t_putLog _ _ (xA 1) 1 (atR 3) _ HL.out (atR_ok hb3)).mono ?_); rintro e w2 ⟨rfl, ls2, hL, ht, _⟩; replace HB := Lib.hid (HB.out.trans (ht.below (fun b hf => (HL.out.fl hf).1) HB.out.size)); replace HL : Hid (LogAt w2 w.heap.size ls2 (xA 2)) := hL; clear hL ht; rw [pE1])
    | (go_at_call 13; (with_reducible refine (t_putLog _ _ (xA 2) 0 (atR 8) _ HL.out (atR_ok hb8)).mono ?_); rintro e w2 ⟨rfl, ls3, hL, ht, _⟩; replace HB := Lib.hid (HB.out.trans (ht.below (fun b hf => (HL.out.fl hf).1) HB.out.size)); replace HL : Hid (LogAt w2 w.heap.size ls3 (xA 3)) := hL; clear hL ht; rw [pE2])
    | (go_at_call 14; (with_reducible refine (t_mergeA _ _ _ HL.out).mono ?_); rintro e w2 ⟨A, c, rfl, ho, hb⟩; have HFB : Hid (∀ b, Fl w.heap.size ls3 b → b < _) := fun b hf => (HL.out.fl hf).2; have HRW := Lib.hid ho; replace HL := Lib.hid (HL.out.below hb); replace HB := Lib.hid (HB.out.trans (hb.mono HB.out.size)); clear ho hb)
    | (go_at_call 16; (with_reducible refine (t_takeA _ _ _ HL.out).mono ?_); rintro e w4 ⟨rfl, ls4, hL, ht⟩; have HRA := Lib.hid (recs_of_row (own_block (w' := w4) HRW.out (fun q hq => ht.block q (HRW.out.lt q hq).2 (fun hf => by have h1 := HFB.out q hf; have h2 := (HRW.out.lt q hq).1; omega))) rfl recs3_ok); replace HB := Lib.hid (HB.out.trans (ht.below (fun b hf => (HL.out.fl hf).1) HB.out.size)); replace HL : Hid (LogAt w4 w.heap.size ls4 yA) := hL; clear hL ht))
  clear HRW HFB
  go_wp2_with (first
    | (go_at_call 28; (with_reducible refine (t_atV _ _).mono ?_); rintro e w5 ⟨rfl, hb⟩; replace HL := Lib.hid (HL.out.below hb); (try replace HRA := Lib.hid (HRA.out.below hb)); (try replace HRU := Lib.hid (HRU.out.below hb)); replace HB := Lib.hid (HB.out.trans (hb.mono HB.out.size)); clear hb)
    | (go_at_call 17; (with_reducible refine (t_sameA _ _ _ HRA.out).mono ?_); rintro e w5 ⟨rfl, hb⟩; replace HL := Lib.hid (HL.out.below hb); replace HRA := Lib.hid (HRA.out.below hb); replace HB := Lib.hid (HB.out.trans (hb.mono HB.out.size)); clear hb)
    | (go_at_call 17; (with_reducible refine (t_sameU _ _ _ HRU.out).mono ?_); rintro e w5 ⟨rfl, hb⟩; replace HL := Lib.hid (HL.out.below hb); replace HB := Lib.hid (HB.out.trans (hb.mono HB.out.size)); clear hb)
    | (go_at_call 21; (with_reducible refine (t_lenLog _ _ yA _ HL.out).mono ?_); rintro e w5 ⟨rfl, rfl⟩; rw [lenY])
    | (go_at_call 51; (with_reducible refine (t_roomA _ _ _ HL.out).mono ?_); rintro e w5 ⟨rfl, hb⟩; replace HL := Lib.hid (HL.out.below hb); replace HB := Lib.hid (HB.out.trans (hb.mono HB.out.size)); clear hb)
    | (go_at_call 52; (with_reducible refine (t_lastA _ _ _ HL.out).mono ?_); rintro e w5 ⟨rfl, rfl⟩)
    | (go_at_call 18; (with_reducible refine (t_uptoA _ _ _ HL.out).mono ?_); rintro e w5 ⟨A2, c2, rfl, hr, hb⟩; have HRU := Lib.hid hr; replace HL := Lib.hid (HL.out.below hb); replace HB := Lib.hid (HB.out.trans (hb.mono HB.out.size)); clear hr hb)
    | (go_at_call 13; (with_reducible refine (t_putY _ _ _ HL.out).mono ?_); rintro e w5 ⟨rfl, hb⟩; replace HL := Lib.hid (HL.out.below hb); replace HB := Lib.hid (HB.out.trans (hb.mono HB.out.size)); clear hb))
  go_ret
  exact ⟨rfl, HB.out⟩
end Go.Proofs.YtehckjkihaalfaaGreat
