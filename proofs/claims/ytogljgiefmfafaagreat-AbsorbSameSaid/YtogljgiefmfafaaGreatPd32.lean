/- alive. -/
import Derived.Test.YtogljgiefmfafaaGreatPd31
namespace Go.Proofs.YtogljgiefmfafaaGreat.A
open Go.RowKit Go.Maps
def inoAt (rs : List R) (i : Nat) : Int := match rs[i]? with | some r => r.ino | none => -1
def hit (rs : List R) (k i : Nat) : Bool := match idleB rs k with | some to => decide (k ≤ i ∧ i ≤ to ∧ inoAt rs i = inoAt rs k) | none => false
def goneN (rs : List R) (k i : Nat) : Nat := (List.range k).countP (fun j => hit rs j i)
theorem goneN_succ (rs : List R) (k i : Nat) : goneN rs (k + 1) i = goneN rs k i + if hit rs k i then 1 else 0 := by
 unfold goneN; rw [List.range_succ, List.countP_append]; simp [List.countP_cons]
theorem goneN_le (rs : List R) (k i : Nat) : goneN rs k i ≤ k := by
 have := List.countP_le_length (p := fun j => hit rs j i) (l := List.range k)
 simpa [goneN] using this
theorem placed_mem : ∀ (rs : List R) (i : Nat) (y : Nat × R), y ∈ placed rs i → i ≤ y.1 ∧ y.1 < i + rs.length
 | [], _, _, h => by simp [placed] at h
 | r :: rs, i, y, h => by
  simp only [placed, List.mem_cons] at h
  rcases h with rfl | h
  · simp
  · have := placed_mem rs (i + 1) y h; simp; omega
theorem idleGo_mem (x : R) : ∀ (l : List (Nat × R)) (D : DataW Unit) (t : Nat), idleGo x D l = some t → ∃ y ∈ l, y.1 = t
 | [], _, _, h => by simp [idleGo] at h
 | (i, r) :: l, D, t, h => by
  unfold idleGo at h
  have ih := fun D' h' => idleGo_mem x l D' t h'
  have lift : (∃ y ∈ l, y.1 = t) → ∃ y ∈ (i, r) :: l, y.1 = t := fun ⟨y, hy, e⟩ => ⟨y, List.mem_cons_of_mem _ hy, e⟩
  repeat' split at h
  all_goals first
   | (cases h; done)
   | (cases h; exact ⟨(i, r), by simp, rfl⟩)
   | exact lift (ih _ h)
theorem idleB_lt {rs : List R} {k t : Nat} (h : idleB rs k = some t) : k < t ∧ t < rs.length := by
 unfold idleB at h
 split at h
 · split at h
   · obtain ⟨y, hy, rfl⟩ := idleGo_mem _ _ _ _ h
     have := placed_mem _ _ _ hy
     simp only [List.length_drop] at this
     omega
   · cases h
 · cases h
theorem law3 : Keyed Tryz.prog 3 := int_keyed Tryz.underlying3
theorem key3 (n : Nat) (h : n ≤ 9223372036854775807) : keyOf Tryz.prog 3 (.int .i64 n) = some (.int .i64 n) := keyOf_int_mk Tryz.underlying3 (by simp [Lit.wf, IntKind.min, IntKind.max, IntKind.signed, IntKind.bits]; omega)
theorem zero3 (w : World) : (zeroValue 3).run Tryz.prog w = .ok (.int .i64 0) w := by kernel_rfl
def NumMap (W : World) (Mg c : Nat) (G : Nat → Int) : Prop := ∃ D : DataW Value, W.ownsMap Tryz.prog 3 anyElem Mg c D ∧ IsMap D ∧ ∀ i : Nat, D.atKey (.int .i64 i) (.held (.int .i64 0)) = .held (.int .i64 (G i))
theorem NumMap.made (w : World) : NumMap (w.alloc (.map #[] 0)) w.heap.size 0 (fun _ => 0) := ⟨_, World.ownsMap_made w Tryz.prog 3 anyElem, isMap_empty, fun _ => rfl⟩
theorem NumMap.kept {W W' : World} {row : Option Nat} {Mg c : Nat} {G : Nat → Int} (h : NumMap W Mg c G) (hg : W.grownBy W' row) (hne : some Mg ≠ row) : NumMap W' Mg c G := by
 obtain ⟨D, h1, h2, h3⟩ := h; exact ⟨D, h1.kept hg hne, h2, h3⟩
theorem NumMap.drewN {W : World} {Mg c : Nat} {G : Nat → Int} (h : NumMap W Mg c G) (q : Nat) : NumMap (W.drewN q) Mg c G :=
 h.kept (row := none) ⟨rfl, rfl, rfl, Nat.le_refl _, fun _ _ _ => rfl⟩ (by simp)
theorem NumMap.mono {W : World} {Mg c c' : Nat} {G : Nat → Int} (h : NumMap W Mg c G) (hc : c ≤ c') : NumMap W Mg c' G := by
 obtain ⟨D, ⟨es, clock, hb, F, hs, e⟩, h2, h3⟩ := h; exact ⟨D, ⟨es, clock, hb, F, Nat.le_trans hs hc, e⟩, h2, h3⟩
theorem NumMap.look {W : World} {Mg c : Nat} {G : Nat → Int} (h : NumMap W Mg c G) (i : Nat) (hi : i ≤ 9223372036854775807) : (Instr.lookup 142 (.map (some Mg)) (.int .i64 i) false).run Tryz.prog W = .ok (.int .i64 (G i)) W := by
 obtain ⟨D, h1, h2, h3⟩ := h
 obtain ⟨v, ps, hrun, hv⟩ := h1.lookup law3 Tryz.underlying142 (zero3 W) (zd := .held (.int .i64 0)) rfl (key3 i hi)
 rw [h3] at hv
 simp only [anyElem, Option.some.injEq, Prod.mk.injEq, DataW.held.injEq] at hv
 rw [hrun, hv.1]
theorem NumMap.update {W : World} {Mg c : Nat} {G : Nat → Int} (h : NumMap W Mg c G) (hc : c < maxLen) (i : Nat) (hi : i ≤ 9223372036854775807) (v : Int) :
  ∃ W', (Instr.mapUpdate 142 (.map (some Mg)) (.int .i64 i) (.int .i64 v)).run Tryz.prog W = .ok () W' ∧ NumMap W' Mg (c + 1) (fun j => if j = i then v else G j) ∧ W.grownBy W' (some Mg) := by
 obtain ⟨D, h1, h2, h3⟩ := h
 obtain ⟨W', hrun, hown, hg⟩ := h1.update law3 Tryz.underlying142 hc (key3 i hi) (val := .int .i64 v) (d := .held (.int .i64 v)) (ps := []) rfl
 refine ⟨W', hrun, ⟨_, hown, h2.put _ _, fun j => ?_⟩, hg⟩
 by_cases e : j = i
 · subst e; simp only [if_true]; exact atKey_put_same h2 (by simp [WideAt.IsKeyLit]) _ _
 · simp only [e, if_false]; rw [atKey_put_other (by simp; omega)]; exact h3 j
def aliveOf (rs : List R) : List Nat := (List.range rs.length).filter (fun k => goneN rs rs.length k == 0)
def intCells (l : List Nat) : List Value := l.map fun (k : Nat) => .int .i64 (k : Int)
theorem row_block {w : World} {base n size : Nat} {e : TypeId} {v : Value} {xs : List Value} (h : w.ownsRow base e size v n xs) : ∀ q, v.ownBlock = some q → base ≤ q := fun q hq => by
 rcases h.2 with ⟨rfl, _⟩ | ⟨g, cap, cur, rfl, hb, _⟩
 · simp [Value.ownBlock] at hq
 · simp [Value.ownBlock] at hq; omega
theorem NumMap.ne_row {W : World} {Mg c : Nat} {G : Nat → Int} (h : NumMap W Mg c G) {base n size : Nat} {e : TypeId} {v : Value} {xs : List Value} (hr : W.ownsRow base e size v n xs) : some Mg ≠ v.ownBlock := by
 obtain ⟨D, ⟨es, clock, hb, _⟩, _⟩ := h
 rcases hr.2 with ⟨rfl, _⟩ | ⟨g, cap, cur, rfl, _, hg, _⟩
 · simp [Value.ownBlock]
 · simp only [Value.ownBlock]; rintro ⟨rfl⟩; rw [hb] at hg; cases hg
theorem info3 : ∃ i, Tryz.prog.info? 3 = some i ∧ i.zero = some (.int .i64 0) ∧ i.size = 1 ∧ i.bytes = 8 := info_parts (by kernel_rfl)
def aliveTo (rs : List R) (n j : Nat) : List Nat := (List.range j).filter (fun k => goneN rs n k == 0)
theorem aliveTo_succ (rs : List R) (n j : Nat) : aliveTo rs n (j + 1) = aliveTo rs n j ++ if goneN rs n j = 0 then [j] else [] := by
 unfold aliveTo; rw [List.range_succ, List.filter_append]
 by_cases h : goneN rs n j = 0 <;> simp [h]
theorem aliveTo_le (rs : List R) (n j : Nat) : (aliveTo rs n j).length ≤ j := by
 have := List.length_filter_le (fun k => goneN rs n k == 0) (List.range j)
 simpa [aliveTo] using this
set_option maxRecDepth 100000 in
set_option maxHeartbeats 4000000 in
theorem alive_any (A : Option Addr) (n c B : Nat) (rs : List R) (w : World) (h : Recs w B A n rs) (hB : B ≤ w.heap.size) (hn : n ≤ 1000) :
  Calls Tryz.prog 76 #[.slice A n c] w fun e W' => ∃ v, e = .returned v ∧ W'.ownsRow w.heap.size 3 1 v (aliveOf rs).length (intCells (aliveOf rs)) ∧ Below w.heap.size w W' := by
 have hmm := @run_makeMap Tryz.prog
 have hlen := h.len
 go_enter Tryz.func76, Tryz.ntmps76
 go_wp2
 go_loopw [12] (fun i wr => ∃ k : Nat, k ≤ n ∧ i = .int .i64 k ∧ NumMap wr w.heap.size (k * n) (fun j => (goneN rs k j : Int)) ∧ Below w.heap.size w wr) (fun i _ => n + 1 - (intOf i).toNat)
 case atStart => exact ⟨0, Nat.zero_le _, rfl, by simpa [goneN] using (NumMap.made w).mono (Nat.zero_le _), (Below.refl _ w).alloc (Nat.le_refl _) _⟩
 case round =>
  obtain ⟨k, hk, rfl, hG, hb⟩ := hrel
  by_cases he : k = n
  · have hkn : ¬ (k : Int) < n := by omega
    subst he
    have HG := Lib.hid hG
    have HB := Lib.hid hb
    clear hG hb
    go_wp2
    go_loopw [2, 48] (fun t i wr => ∃ (j : Nat) (v : Value), j ≤ k ∧ i = .int .i64 j ∧ t = v ∧ NumMap wr w.heap.size (k * k) (fun j => (goneN rs k j : Int)) ∧ wr.ownsRow w.heap.size 3 1 v (aliveTo rs k j).length (intCells (aliveTo rs k j)) ∧ Below w.heap.size w wr) (fun _ i _ => k + 1 - (intOf i).toNat)
    case atStart => exact ⟨0, _, Nat.zero_le _, rfl, rfl, HG.out, World.ownsRow_nil _ _ _ _, HB.out⟩
    case round =>
     obtain ⟨j, v, hj, rfl, rfl, hG, hrow, hb⟩ := hrel
     by_cases hjk : j = k
     · have hlt : ¬ (j : Int) < k := by omega
       subst hjk
       have hfin : aliveTo rs j j = aliveOf rs := by unfold aliveTo aliveOf; rw [hlen]
       rw [hfin] at hrow
       go_wp2
       go_ret
       exact ⟨_, rfl, hrow, hb⟩
     · have hlt : (j : Int) < k := by omega
       have hlk := hG.look j (by omega)
       have hle := aliveTo_le rs k j
       have hsz := hb.size
       have HS := Lib.hid (aliveTo_succ rs k j)
       by_cases h0 : goneN rs k j = 0
       · have h0' : (((goneN rs k j : Nat) : Int) == 0) = true := by rw [h0]; rfl
         have H0 := Lib.hid h0
         have HG2 := Lib.hid hG
         have HB2 := Lib.hid hb
         have HR2 := Lib.hid hrow
         obtain ⟨i0, hi, hz0, hz1, hz2⟩ := info3
         clear h0 hjk hG hb
         go_wp2_with (first | (at_builtin; refine wpList_append_own _ rfl _ _ 60 rfl w.heap.size 3 i0 (.int .i64 0) 1 8 Tryz.underlying60 hi hz0 hz1 hz2 rfl (by decide) _ _ _ rfl (hrow.alloc _) ⟨wr.heap.size, 0, none⟩ 1 1 [.int .i64 j] rfl rfl (cell_one_new _ _ _) (by simp [Value.oneCell']) (by unfold maxLen; omega) (by omega) (by simp; omega) ?_; intro v' w1 hown' hgrow _))
         have hblk := row_block hrow
         have hg := HG2.out.kept (row := none) (World.grownBy_alloc wr (.cells #[.int .i64 j] 3) none) (by simp)
         have hg' := hg.kept hgrow (NumMap.ne_row hg (hrow.alloc _))
         go_roundw
         case rel =>
          refine ⟨j + 1, _, by omega, by go_num, rfl, hg', ?_, (HB2.out.alloc hsz _).grown hgrow (by simp; omega) (fun q hq => hblk q hq)⟩
          rw [HS.out, if_pos H0.out]
          simpa [intCells] using hown'
         case measure => simp [intOf]; omega
       · have h0' : (((goneN rs k j : Nat) : Int) == 0) = false := by simpa using h0
         have H0 := Lib.hid h0
         have HG2 := Lib.hid hG
         have HB2 := Lib.hid hb
         have HR2 := Lib.hid hrow
         clear h0 hjk hG hb hrow
         go_wp2
         go_roundw
         case rel => exact ⟨j + 1, _, by omega, by go_num, rfl, HG2.out, by rw [HS.out, if_neg H0.out, List.append_nil]; exact HR2.out, HB2.out⟩
         case measure => simp [intOf]; omega
  · have hkn : k < n := by omega
    have hr := h.below hb hB (Nat.le_refl _)
    have hid := idle_any A n c wr.heap.size k rs wr (h.below hb hB (Nat.le_trans hB hb.size)) (Nat.le_refl _) (by unfold maxLen; omega) hkn
    rcases ho : idleB rs k with _ | to
    · rw [ho] at hid
      simp only [Option.getD_none, Option.isSome_none] at hid
      have hz : ∀ j, goneN rs (k + 1) j = goneN rs k j := fun j => by rw [goneN_succ]; unfold hit; rw [ho]; rfl
      have HZ := Lib.hid hz
      have HO := Lib.hid ho
      clear hz ho he
      go_wp2_with (first | (go_at_call 33; refine hid.mono ?_; rintro e w' ⟨rfl, hb'⟩))
      have hb2 := hb.trans (hb'.mono hb.size)
      have hG2 := hG.kept (grown_below hb') (by simp)
      have HG2 := Lib.hid hG2
      have HB2 := Lib.hid hb2
      clear hG hG2 hb2 hb' hb hr hid
      go_loopw [7] (fun i w2 => i = .int .i64 k ∧ w2 = w') (fun _ _ => 0)
      case atStart => exact ⟨rfl, rfl⟩
      case round =>
       obtain ⟨rfl, rfl⟩ := hrel
       go_wp2
       go_roundw
       case rel => exact ⟨k + 1, by omega, by go_num, by have := HG2.out.mono (c' := (k + 1) * n) (Nat.mul_le_mul_right _ (by omega)); simpa only [HZ.out] using this, HB2.out⟩
       case measure => simp [intOf]; omega
    · rw [ho] at hid
      simp only [Option.getD_some, Option.isSome_some] at hid
      obtain ⟨ho1, ho2⟩ := idleB_lt ho
      rw [hlen] at ho2
      have hh : ∀ j, hit rs k j = decide (k ≤ j ∧ j ≤ to ∧ inoAt rs j = inoAt rs k) := fun j => by unfold hit; rw [ho]
      have hz : ∀ j, goneN rs (k + 1) j = goneN rs k j + if hit rs k j then 1 else 0 := goneN_succ rs k
      have HZ := Lib.hid hz
      have HH := Lib.hid hh
      have HO := Lib.hid ho
      clear hz ho he hh
      go_wp2_with (first | (go_at_call 33; refine hid.mono ?_; rintro e w' ⟨rfl, hb'⟩))
      have hb2 := hb.trans (hb'.mono hb.size)
      have hG2 := hG.kept (grown_below hb') (by simp)
      have HG2 := Lib.hid hG2
      have HB2 := Lib.hid hb2
      clear hG hG2 hb2 hb' hb hr hid
      go_loopw [7] (fun i w2 => ∃ j : Nat, k ≤ j ∧ j ≤ to + 1 ∧ i = .int .i64 j ∧ NumMap w2 w.heap.size (k * n + (j - k)) (fun i => ((goneN rs k i + if i < j ∧ hit rs k i = true then 1 else 0 : Nat) : Int)) ∧ Below w.heap.size w w2) (fun i _ => to + 2 - (intOf i).toNat)
      case atStart =>
       refine ⟨k, Nat.le_refl _, by omega, rfl, ?_, HB2.out⟩
       have hf : (fun i => ((goneN rs k i + if i < k ∧ hit rs k i = true then 1 else 0 : Nat) : Int)) = (fun i => ((goneN rs k i : Nat) : Int)) := by
        funext i
        rw [if_neg]; · rfl
        rintro ⟨h1, h2⟩
        rw [HH.out] at h2; simp at h2; omega
       rw [hf]; simpa using HG2.out
      case round =>
       obtain ⟨j, hj1, hj2, rfl, hG3, hb3⟩ := hrel
       by_cases hjt : j = to + 1
       · have hle : ¬ (j : Int) ≤ to := by omega
         have HG3 := Lib.hid hG3
         have HB3 := Lib.hid hb3
         have hjt' := Lib.hid hjt
         clear hG3 hb3 hjt
         go_wp2
         go_roundw
         case rel =>
          refine ⟨k + 1, by omega, by go_num, ?_, HB3.out⟩
          have hc : k * n + (j - k) ≤ (k + 1) * n := by have := hjt'.out; rw [Nat.succ_mul]; omega
          have hf : (fun i => ((goneN rs k i + if i < j ∧ hit rs k i = true then 1 else 0 : Nat) : Int)) = (fun i => ((goneN rs (k + 1) i : Nat) : Int)) := by
           funext i
           rw [HZ.out]
           by_cases hi : hit rs k i = true
           · have : i < j := by have h2 := hi; rw [HH.out] at h2; simp at h2; have := hjt'.out; omega
             simp [hi, this]
           · simp [hi]
          rw [← hf]; exact HG3.out.mono hc
         case measure => simp [intOf]; omega
       · have hle : (j : Int) ≤ to := by omega
         have hjn : j < n := by omega
         have hr3 := h.below hb3 hB (Nat.le_refl _)
         obtain ⟨b, o, rj, rfl, _, hgj, hatj, _⟩ := hr3.get hjn
         obtain ⟨b', o', rk, e1, _, hgk, hatk, _⟩ := hr3.get hkn
         cases e1
         have c4 := hatj.c4
         have d4 := hatk.c4
         have hji : inoAt rs j = rj.ino := by unfold inoAt; rw [hgj]
         have hki : inoAt rs k = rk.ino := by unfold inoAt; rw [hgk]
         have hn1 : j ≤ 9223372036854775807 := by omega
         have hgl := goneN_le rs k j
         by_cases heq : rj.ino = rk.ino
         · have heq' : (rj.ino == rk.ino) = true := by simpa using heq
           have hhit : hit rs k j = true := by rw [HH.out]; simp; exact ⟨hj1, by omega, by rw [hji, hki, heq]⟩
           have hf : (fun i => if i = j then ((goneN rs k j : Nat) : Int) + 1 else ((goneN rs k i + if i < j ∧ hit rs k i = true then 1 else 0 : Nat) : Int)) = (fun i => ((goneN rs k i + if i < j + 1 ∧ hit rs k i = true then 1 else 0 : Nat) : Int)) := by
            funext i
            by_cases hij : i = j
            · subst hij; simp [hhit]
            · have : i < j + 1 ↔ i < j := by omega
              simp only [hij, if_false, this]
           have hlk : ∀ q, (Instr.lookup 142 (.map (some w.heap.size)) (.int .i64 j) false).run Tryz.prog (wr.drewN q) = .ok (.int .i64 (goneN rs k j : Nat)) (wr.drewN q) := fun q => by
            have := (hG3.drewN q).look j hn1
            simpa using this
           have HF := Lib.hid hf
           have HG3 := Lib.hid hG3
           have HB3 := Lib.hid hb3
           have HL := Lib.hid hlk
           clear hG3 hb3 hjt hr3 hgj hgk hatj hatk hji hki heq hhit hf hlk
           go_wp2
           go_quiet (fail)
           obtain ⟨w3, hrun, hG4, hg4⟩ := (HG3.out.drewN nq).update (by unfold maxLen; have : k * n ≤ 1000 * 1000 := Nat.mul_le_mul (by omega) hn; omega) j hn1 (((goneN rs k j : Nat) : Int) + 1)
           have hlk := HL.out nq
           have HG4 := Lib.hid hG4
           have Hg4 := Lib.hid hg4
           clear hG4 hg4
           go_wp2
           go_roundw
           case rel => exact ⟨j + 1, by omega, by omega, by go_num, by rw [← HF.out]; exact HG4.out.mono (by omega), (bdn HB3.out nq).grown Hg4.out HB3.out.size (by rintro i ⟨rfl⟩; exact Nat.le_refl _)⟩
           case measure => simp [intOf]; omega
         · have heq' : (rj.ino == rk.ino) = false := by simpa using heq
           have hhit : hit rs k j = false := by rw [HH.out]; simp; intro _ _ h4; rw [hji, hki] at h4; exact heq h4
           have hf : (fun i => ((goneN rs k i + if i < j + 1 ∧ hit rs k i = true then 1 else 0 : Nat) : Int)) = (fun i => ((goneN rs k i + if i < j ∧ hit rs k i = true then 1 else 0 : Nat) : Int)) := by
            funext i
            by_cases hij : i = j
            · subst hij; simp [hhit]
            · have : i < j + 1 ↔ i < j := by omega
              simp only [this]
           have HF := Lib.hid hf
           have HG3 := Lib.hid hG3
           have HB3 := Lib.hid hb3
           clear hG3 hb3 hjt hr3 hgj hgk hatj hatk hji hki heq hhit hf hgl
           go_wp2
           go_quiet (fail)
           go_wp2
           go_roundw
           case rel => exact ⟨j + 1, by omega, by omega, by go_num, by rw [HF.out]; exact (HG3.out.mono (by omega)).drewN _, bdn HB3.out _⟩
           case measure => simp [intOf]; omega
end Go.Proofs.YtogljgiefmfafaaGreat.A

namespace Go.Proofs.YtogljgiefmfafaaGreat.A
open Go.RowKit Go.Maps
def noR : R := ⟨0, 0, 0, ByteArray.empty, 0, 0, 0, ByteArray.empty, 0, 0, 0, ByteArray.empty⟩
theorem noR_ok : noR.Ok := by constructor <;> simp [noR]
def at_ (rs : List R) (k : Nat) : R := rs.getD k noR
def pick (rs : List R) (l : List Nat) : List R := l.map (at_ rs)
def recCells (l : List R) : List Value := l.flatMap R.cells
theorem recCells_snoc (l : List R) (r : R) : recCells (l ++ [r]) = recCells l ++ r.cells := by simp [recCells]
theorem recCells_get : ∀ (l : List R) (k j : Nat) (r : R), l[k]? = some r → j < 12 → (recCells l)[k * 12 + j]? = r.cells[j]?
 | [], _, _, _, h, _ => by simp at h
 | r :: l, 0, j, x, h, hj => by
  simp at h; subst h
  unfold recCells; rw [List.flatMap_cons, List.getElem?_append_left (by simp [R.cells]; omega)]; simp
 | r :: l, k + 1, j, x, h, hj => by
  have := recCells_get l k j x (by simpa using h) hj
  unfold recCells at *
  rw [List.flatMap_cons, List.getElem?_append_right (by simp [R.cells]; omega), show (k + 1) * 12 + j - r.cells.length = k * 12 + j by simp [R.cells]; omega]
  exact this
theorem recs_of_own {w : World} {base m : Nat} {v : Value} {l : List R} (h : w.ownsRow base 50 12 v m (recCells l)) (hl : l.length = m) (hok : ∀ r ∈ l, r.Ok) : ∃ A c, v = .slice A m c ∧ Recs w w.heap.size A m l := by
 rcases h.2 with ⟨rfl, rfl⟩ | ⟨g, cap, cur, rfl, _, hg, h1, h2, h3, h4⟩
 · exact ⟨none, 0, rfl, ⟨hl, fun h0 => absurd h0 (by omega), hok⟩⟩
 · refine ⟨_, _, rfl, ⟨hl, fun _ => ⟨g, 0, rfl, (Array.getElem?_eq_some_iff.1 hg).1, fun k r hk => ?_⟩, hok⟩⟩
   have hkm : k < m := by rw [← hl]; exact (List.getElem?_eq_some_iff.1 hk).1
   have hc : ∀ j, j < 12 → w.cell? ⟨g, 0 + k * 12 + j, none⟩ = r.cells[j]? := fun j hj => by
    have e1 := recCells_get l k j r hk hj
    rw [← h4, List.getElem?_take_of_lt (by omega)] at e1
    simp only [World.cell?, hg, Nat.zero_add]
    rw [← e1]
    simp
   exact ⟨hc 0 (by omega), hc 1 (by omega), hc 2 (by omega), hc 3 (by omega), hc 4 (by omega), hc 5 (by omega), hc 6 (by omega), hc 7 (by omega), hc 8 (by omega), hc 9 (by omega), hc 10 (by omega), hc 11 (by omega)⟩
def numTo (l : List Nat) : Nat → Nat → Nat
 | 0 => fun _ => 0
 | i + 1 => fun k => if l[i]? = some k then i + 1 else numTo l i k
theorem numTo_le (l : List Nat) (i k : Nat) : numTo l i k ≤ i := by
 induction i with
 | zero => simp [numTo]
 | succ i ih => unfold numTo; split <;> omega
def restOf (rs : List R) : List R := pick rs (aliveOf rs)
def goneB (rs : List R) (k : Nat) : Bool := let i := numTo (aliveOf rs) (aliveOf rs).length k; i == 0 || againB (restOf rs) (i - 1)
def leftOf (rs : List R) : List Nat := (List.range rs.length).filter (fun k => !goneB rs k)
def goneOf (rs : List R) : List Nat := (List.range rs.length).filter (fun k => goneB rs k)
theorem info31 : ∃ i, Tryz.prog.info? 50 = some i ∧ i.zero = some noR.val ∧ i.size = 12 ∧ i.bytes = 96 := info_parts (by kernel_rfl)
theorem cells_new (w : World) (l : List Value) (t : TypeId) : ∀ j u, l[j]? = some u → (w.alloc (.cells l.toArray t)).cell? (Addr.add ⟨w.heap.size, 0, none⟩ j) = some u := by
 intro j u h
 by_cases hj : j = 0
 · subst hj; simp [go_sem, Addr.add, h]
 · simp [go_sem, Addr.add, hj, h]
theorem row_read {w : World} {base m : Nat} {v : Value} {l : List Nat} (h : w.ownsRow base 3 1 v m (intCells l)) (hl : l.length = m) : ∃ A c, v = .slice A m c ∧ ∀ i k, l[i]? = some k → ∃ b, A = some ⟨b, 0, none⟩ ∧ w.cell? ⟨b, i, none⟩ = some (.int .i64 (k : Nat)) := by
 rcases h.2 with ⟨rfl, rfl⟩ | ⟨g, cap, cur, rfl, _, hg, h1, h2, h3, h4⟩
 · exact ⟨none, 0, rfl, fun i k hi => by have := (List.getElem?_eq_some_iff.1 hi).1; omega⟩
 · refine ⟨_, _, rfl, fun i k hi => ⟨g, rfl, ?_⟩⟩
   have him : i < m := by have := (List.getElem?_eq_some_iff.1 hi).1; omega
   have e1 : (intCells l)[i]? = some (.int .i64 (k : Nat)) := by unfold intCells; rw [List.getElem?_map, hi]; rfl
   rw [← h4, List.getElem?_take_of_lt (by omega)] at e1
   simp only [World.cell?, hg]
   rw [← e1]; simp
theorem aliveOf_lt {rs : List R} {k : Nat} (h : k ∈ aliveOf rs) : k < rs.length := by
 unfold aliveOf at h; simpa using (List.mem_filter.1 h).1
theorem aliveOf_le (rs : List R) : (aliveOf rs).length ≤ rs.length := by
 have := List.length_filter_le (fun k => goneN rs rs.length k == 0) (List.range rs.length)
 simpa [aliveOf] using this
def leftTo (rs : List R) (q : Nat) : List Nat := (List.range q).filter (fun k => !goneB rs k)
def goneTo (rs : List R) (q : Nat) : List Nat := (List.range q).filter (fun k => goneB rs k)
theorem leftTo_succ (rs : List R) (q : Nat) : leftTo rs (q + 1) = leftTo rs q ++ if goneB rs q = true then [] else [q] := by
 unfold leftTo; rw [List.range_succ, List.filter_append]
 cases h : goneB rs q <;> simp [h]
theorem goneTo_succ (rs : List R) (q : Nat) : goneTo rs (q + 1) = goneTo rs q ++ if goneB rs q = true then [q] else [] := by
 unfold goneTo; rw [List.range_succ, List.filter_append]
 cases h : goneB rs q <;> simp [h]
theorem leftTo_le (rs : List R) (q : Nat) : (leftTo rs q).length ≤ q := by
 have := List.length_filter_le (fun k => !goneB rs k) (List.range q)
 simpa [leftTo] using this
theorem goneTo_le (rs : List R) (q : Nat) : (goneTo rs q).length ≤ q := by
 have := List.length_filter_le (fun k => goneB rs k) (List.range q)
 simpa [goneTo] using this
def Apart (v v' : Value) : Prop := ∀ z, v.ownBlock = some z → v'.ownBlock ≠ some z
theorem Apart.none_left (v' : Value) (n c : Nat) : Apart (.slice none n c) v' := fun z h => by simp [Value.ownBlock] at h
theorem Apart.symm {v v' : Value} (h : Apart v v') : Apart v' v := fun z h1 h2 => h z h2 h1
theorem Apart.ne {v v' : Value} (h : Apart v v') : v.ownBlock = none ∨ v.ownBlock ≠ v'.ownBlock := by
 cases e : v.ownBlock with
 | none => exact .inl rfl
 | some z => exact .inr (fun e' => h z e e'.symm)
theorem Apart.grow {v vg v' : Value} {N : Nat} (h : Apart v vg) (hor : v'.ownBlock = vg.ownBlock ∨ v'.ownBlock = some N) (hlt : ∀ z, v.ownBlock = some z → z < N) : Apart v v' := fun z hz e => by
 rcases hor with h1 | h1
 · rw [h1] at e; exact h z hz e
 · rw [h1] at e; have := hlt z hz; simp at e; omega
theorem row_lt {w : World} {base n size : Nat} {e : TypeId} {v : Value} {xs : List Value} (h : w.ownsRow base e size v n xs) : ∀ q, v.ownBlock = some q → q < w.heap.size := fun q hq => by
 rcases h.2 with ⟨rfl, _⟩ | ⟨g, cap, cur, rfl, hb, hg, _⟩
 · simp [Value.ownBlock] at hq
 · simp [Value.ownBlock] at hq; subst hq; exact (Array.getElem?_eq_some_iff.1 hg).1
theorem row_below {w w' : World} {base n size : Nat} {e : TypeId} {v : Value} {xs : List Value} (h : w.ownsRow base e size v n xs) (hb : Below w.heap.size w w') : w'.ownsRow base e size v n xs := by
 rcases h with ⟨h1, h2 | ⟨g, cap, cur, hv, hg, hh, rest⟩⟩
 · exact ⟨h1, .inl h2⟩
 · exact ⟨h1, .inr ⟨g, cap, cur, hv, hg, (hb.block g (Array.getElem?_eq_some_iff.1 hh).1).trans hh, rest⟩⟩
theorem row_base {w : World} {base base' n size : Nat} {e : TypeId} {v : Value} {xs : List Value} (h : w.ownsRow base' e size v n xs) (hb : base ≤ base') : w.ownsRow base e size v n xs := by
 rcases h with ⟨h1, h2 | ⟨g, cap, cur, hv, hg, rest⟩⟩
 · exact ⟨h1, .inl h2⟩
 · exact ⟨h1, .inr ⟨g, cap, cur, hv, Nat.le_trans hb hg, rest⟩⟩
theorem pick_ok {rs : List R} (h : ∀ r ∈ rs, r.Ok) (l : List Nat) : ∀ r ∈ pick rs l, r.Ok := by
 intro r hr
 unfold pick at hr
 obtain ⟨k, _, rfl⟩ := List.mem_map.1 hr
 unfold at_
 rw [List.getD_eq_getElem?_getD]
 cases hg : rs[k]? with
 | none => exact noR_ok
 | some x => exact h x (List.mem_of_getElem? hg)
set_option maxRecDepth 100000 in
set_option maxHeartbeats 8000000 in
theorem split_any (A : Option Addr) (n c B : Nat) (rs : List R) (w : World) (h : Recs w B A n rs) (hB : B ≤ w.heap.size) (hn : n ≤ 1000) :
  Calls Tryz.prog 35 #[.slice A n c] w fun e W' => ∃ v v', e = .returned (.tuple #[v, v']) ∧ W'.ownsRow w.heap.size 3 1 v (leftOf rs).length (intCells (leftOf rs)) ∧ W'.ownsRow w.heap.size 3 1 v' (goneOf rs).length (intCells (goneOf rs)) ∧ Below w.heap.size w W' := by
 have hmm := @run_makeMap Tryz.prog
 have hlen := h.len
 have ha := alive_any A n c B rs w h hB hn
 have hal := aliveOf_le rs
 obtain ⟨al, hAl⟩ : ∃ al, aliveOf rs = al := ⟨_, rfl⟩
 have hlt : ∀ k ∈ al, k < n := fun k hk => by rw [← hAl] at hk; have := aliveOf_lt hk; omega
 have HAl := Lib.hid hAl
 have Hlt := Lib.hid hlt
 rw [hAl] at ha hal
 clear hAl hlt
 obtain ⟨m, hm⟩ : ∃ m, al.length = m := ⟨_, rfl⟩
 rw [hm] at ha hal
 have Hm := Lib.hid hm
 clear hm
 go_enter Tryz.func35, Tryz.ntmps35
 go_wp2_with (first | (go_at_call 76; refine ha.mono ?_; rintro e w' ⟨v, rfl, hrow, hb⟩; obtain ⟨Av, cv, rfl, hread⟩ := row_read hrow Hm.out; have Hread := Lib.hid hread; clear hread))
 go_loopw [5, 17] (fun t i wr => ∃ (j : Nat) (v : Value), j ≤ m ∧ i = .int .i64 j ∧ t = v ∧ wr.ownsRow w'.heap.size 50 12 v j (recCells (pick rs (al.take j))) ∧ Below w'.heap.size w' wr) (fun _ i _ => m + 1 - (intOf i).toNat)
 case atStart => exact ⟨0, _, Nat.zero_le _, rfl, rfl, by simpa [pick, recCells] using World.ownsRow_nil _ _ _ _, Below.refl _ _⟩
 case round =>
  obtain ⟨j, v, hj, rfl, rfl, hr1, hb1⟩ := hrel
  by_cases hjm : j = m
  · have hlt : ¬ (j : Int) < m := by omega
    subst hjm
    have hfin : pick rs (al.take j) = restOf rs := by unfold restOf; rw [HAl.out, List.take_of_length_le (by rw [Hm.out]; exact Nat.le_refl _)]
    rw [hfin] at hr1
    obtain ⟨Ar, cr, rfl, hrr⟩ := recs_of_own hr1 (by unfold restOf pick; rw [List.length_map, HAl.out, Hm.out]) (pick_ok h.ok _)
    have HRR := Lib.hid hrr
    clear hrr
    have hw1 := hb.trans (hb1.mono hb.size)
    have HR1 := Lib.hid hr1
    have HW1 := Lib.hid hw1
    have HP := Lib.hid hrow
    have HB1 := Lib.hid hb1
    clear hfin hr1 hw1 hrow hb1
    obtain ⟨W1, rfl⟩ : ∃ W1, W1 = wr := ⟨_, rfl⟩
    go_wp2
    go_loopw [32] (fun t wr => ∃ i : Nat, i ≤ j ∧ t = .int .i64 i ∧ NumMap wr W1.heap.size i (fun k => (numTo al i k : Int)) ∧ Below W1.heap.size W1 wr) (fun t _ => j + 1 - (intOf t).toNat)
    case atStart => exact ⟨0, Nat.zero_le _, rfl, by simpa [numTo] using NumMap.made W1, (Below.refl _ W1).alloc (Nat.le_refl _) _⟩
    case round =>
     obtain ⟨i, hi, rfl, hG, hb2⟩ := hrel
     by_cases hij : i = j
     · have hlt2 : ¬ (i : Int) < j := by omega
       subst hij
       obtain ⟨W2, rfl⟩ : ∃ W2, W2 = wr := ⟨_, rfl⟩
       have HG := Lib.hid hG
       have HB2 := Lib.hid hb2
       have hW2 := hb2.size
       clear hG hb2
       go_wp2
       go_loopw [2, 3, 44] (fun t2 t3 t wr => ∃ (q : Nat) (vl vg : Value), q ≤ n ∧ t = .int .i64 q ∧ t2 = vl ∧ t3 = vg ∧ wr.ownsRow W2.heap.size 3 1 vl (leftTo rs q).length (intCells (leftTo rs q)) ∧ wr.ownsRow W2.heap.size 3 1 vg (goneTo rs q).length (intCells (goneTo rs q)) ∧ Apart vl vg ∧ Below W2.heap.size W2 wr) (fun _ _ t _ => n + 1 - (intOf t).toNat)
       case atStart => exact ⟨0, _, _, Nat.zero_le _, rfl, rfl, rfl, World.ownsRow_nil _ _ _ _, World.ownsRow_nil _ _ _ _, Apart.none_left _ _ _, Below.refl _ _⟩
       case round =>
        obtain ⟨q, vl, vg, hq, rfl, rfl, rfl, hl, hg, hap, hb3⟩ := hrel
        by_cases hqn : q = n
        · have hlt3 : ¬ (q : Int) < n := by omega
          have e1 : leftTo rs q = leftOf rs := by unfold leftTo leftOf; rw [hlen, hqn]
          have e2 : goneTo rs q = goneOf rs := by unfold goneTo goneOf; rw [hlen, hqn]
          rw [e1] at hl
          rw [e2] at hg
          have HLf := Lib.hid (row_base hl (Nat.le_trans hb.size (Nat.le_trans HB1.out.size hW2)))
          have HGn := Lib.hid (row_base hg (Nat.le_trans hb.size (Nat.le_trans HB1.out.size hW2)))
          have HBn := Lib.hid ((HW1.out.trans (HB2.out.mono HW1.out.size)).trans (hb3.mono (Nat.le_trans HW1.out.size hW2)))
          clear hl hg hap hb3 e1 e2 hqn
          go_wp2
          go_ret2
          exact ⟨_, _, rfl, HLf.out, HGn.out, HBn.out⟩
        · have hlt3 : (q : Int) < n := by omega
          have hq1 : q < n := by omega
          have hll := leftTo_le rs q
          have hgl := goneTo_le rs q
          have hsz := hb3.size
          have hGq := HG.out.kept (grown_below hb3) (by simp)
          have hlk := hGq.look q (by omega)
          have HL := Lib.hid (leftTo_succ rs q)
          have HGo := Lib.hid (goneTo_succ rs q)
          have HLf := Lib.hid hl
          have HGn := Lib.hid hg
          have HAp := Lib.hid hap
          have HB3 := Lib.hid hb3
          obtain ⟨i0, hi3, hz0, hz1, hz2⟩ := info3
          have hbl := row_block hl
          have hbg := row_block hg
          have hll2 := row_lt hl
          have hlg2 := row_lt hg
          have HBL := Lib.hid hbl
          have HBG := Lib.hid hbg
          have HLL := Lib.hid hll2
          have HLG := Lib.hid hlg2
          have hgb : goneB rs q = ((numTo al i q == 0) || againB (restOf rs) (numTo al i q - 1)) := by unfold goneB; rw [HAl.out, Hm.out]
          have Hgb := Lib.hid hgb
          clear hl hg hap hb3 hqn hGq hbl hbg hll2 hlg2 hgb
          by_cases h0 : numTo al i q = 0
          · rw [h0] at hlk
            have hgt : goneB rs q = true := by rw [Hgb.out, h0]; rfl
            have Hgt := Lib.hid hgt
            clear hgt h0
            go_wp2_with (first | (at_builtin; refine wpList_append_own_at _ rfl _ _ 60 rfl W2.heap.size 3 i0 (.int .i64 0) 1 8 Tryz.underlying60 hi3 hz0 hz1 hz2 rfl (by decide) _ _ _ rfl (HGn.out.alloc _) ⟨wr.heap.size, 0, none⟩ 1 1 [.int .i64 q] rfl rfl (cell_one_new _ _ _) (by simp [Value.oneCell']) (by unfold maxLen; omega) (by omega) (by simp; omega) ?_; intro v' w1 hown' hgrow _ hor))
            go_roundw
            case rel =>
             refine ⟨q + 1, _, _, by omega, by go_num, rfl, rfl, ?_, ?_, HAp.out.grow hor (fun z hz => by have := HLL.out z hz; simp; omega), (HB3.out.alloc hsz _).grown hgrow (by simp; omega) (fun z hz => HBG.out z hz)⟩
             · rw [HL.out, if_pos Hgt.out, List.append_nil]; exact (HLf.out.alloc _).kept hgrow HAp.out.ne
             · rw [HGo.out, if_pos Hgt.out]; simpa [intCells] using hown'
            case measure => simp [intOf]; omega
          · obtain ⟨i', hi'⟩ : ∃ i', numTo al i q = i' + 1 := ⟨numTo al i q - 1, by omega⟩
            have hle := numTo_le al i q
            rw [hi'] at hlk hle
            have hlk2 : (Instr.lookup 142 (.map (some W1.heap.size)) (.int .i64 q) false).run Tryz.prog wr = .ok (.int .i64 ((i' : Int) + 1)) wr := by simpa using hlk
            have hag := again_any Ar i cr wr.heap.size i' (restOf rs) wr (HRR.out.below (HB2.out.trans (HB3.out.mono hW2)) (Nat.le_refl _) (Nat.le_trans hW2 hsz)) (Nat.le_refl _) (by unfold maxLen; omega) (by omega)
            have hgt0 : goneB rs q = againB (restOf rs) i' := by rw [Hgb.out, hi']; simp
            have hne : ((i' : Int) + 1 == 0) = false := by simp; omega
            clear h0 hlk hi'
            cases hav : againB (restOf rs) i' with
            | true =>
             rw [hav] at hag hgt0
             have Hgt := Lib.hid hgt0
             have HAg := Lib.hid hag
             clear hgt0 hag hav
             go_wp2_with (first | (go_at_call 77; refine HAg.out.mono ?_; rintro e w4 ⟨rfl, hb4⟩; have HB4 := Lib.hid (HB3.out.trans (hb4.mono hsz)); have HLf4 := Lib.hid (row_below HLf.out hb4); have HGn4 := Lib.hid (row_below HGn.out hb4); have hsz := Nat.le_trans hsz hb4.size; have hs4 := hb4.size; clear hb4) | (at_builtin; refine wpList_append_own_at _ rfl _ _ 60 rfl W2.heap.size 3 i0 (.int .i64 0) 1 8 Tryz.underlying60 hi3 hz0 hz1 hz2 rfl (by decide) _ _ _ rfl (HGn4.out.alloc _) ⟨w4.heap.size, 0, none⟩ 1 1 [.int .i64 q] rfl rfl (cell_one_new _ _ _) (by simp [Value.oneCell']) (by unfold maxLen; omega) (by omega) (by simp; omega) ?_; intro v' w1 hown' hgrow _ hor))
             go_roundw
             case rel =>
              refine ⟨q + 1, _, _, by omega, by go_num, rfl, rfl, ?_, ?_, HAp.out.grow hor (fun z hz => by have := HLL.out z hz; simp; omega), (HB4.out.alloc hsz _).grown hgrow (by simp; omega) (fun z hz => HBG.out z hz)⟩
              · rw [HL.out, if_pos Hgt.out, List.append_nil]; exact (HLf4.out.alloc _).kept hgrow HAp.out.ne
              · rw [HGo.out, if_pos Hgt.out]; simpa [intCells] using hown'
             case measure => simp [intOf]; omega
            | false =>
             rw [hav] at hag hgt0
             have Hgt := Lib.hid (show ¬ goneB rs q = true by rw [hgt0]; simp)
             have HAg := Lib.hid hag
             clear hgt0 hag hav
             go_wp2_with (first | (go_at_call 77; refine HAg.out.mono ?_; rintro e w4 ⟨rfl, hb4⟩; have HB4 := Lib.hid (HB3.out.trans (hb4.mono hsz)); have HLf4 := Lib.hid (row_below HLf.out hb4); have HGn4 := Lib.hid (row_below HGn.out hb4); have hsz := Nat.le_trans hsz hb4.size; have hs4 := hb4.size; clear hb4) | (at_builtin; refine wpList_append_own_at _ rfl _ _ 60 rfl W2.heap.size 3 i0 (.int .i64 0) 1 8 Tryz.underlying60 hi3 hz0 hz1 hz2 rfl (by decide) _ _ _ rfl (HLf4.out.alloc _) ⟨w4.heap.size, 0, none⟩ 1 1 [.int .i64 q] rfl rfl (cell_one_new _ _ _) (by simp [Value.oneCell']) (by unfold maxLen; omega) (by omega) (by simp; omega) ?_; intro v' w1 hown' hgrow _ hor))
             go_roundw
             case rel =>
              refine ⟨q + 1, _, _, by omega, by go_num, rfl, rfl, ?_, ?_, (HAp.out.symm.grow hor (fun z hz => by have := HLG.out z hz; simp; omega)).symm, (HB4.out.alloc hsz _).grown hgrow (by simp; omega) (fun z hz => HBL.out z hz)⟩
              · rw [HL.out, if_neg Hgt.out]; simpa [intCells] using hown'
              · rw [HGo.out, if_neg Hgt.out, List.append_nil]; exact (HGn4.out.alloc _).kept hgrow HAp.out.symm.ne
             case measure => simp [intOf]; omega
     · have hlt2 : (i : Int) < j := by omega
       obtain ⟨p, hp⟩ : ∃ p, al[i]? = some p := ⟨_, List.getElem?_eq_getElem (by rw [Hm.out]; omega)⟩
       have hpn : p < n := Hlt.out p (List.mem_of_getElem? hp)
       obtain ⟨bp, rfl, hcp⟩ := Hread.out i p hp
       have hbp : bp < w'.heap.size := World.block_lt_of_cell? w' _ hcp
       have hbp1 : bp < W1.heap.size := Nat.lt_of_lt_of_le hbp HB1.out.size
       have hcp' : wr.cell? ⟨bp, i, none⟩ = some (.int .i64 (p : Nat)) := (World.cell?_of_block (hb2.block bp hbp1)).trans ((World.cell?_of_block (HB1.out.block bp hbp)).trans hcp)
       obtain ⟨w3, hrun, hG3, hg3⟩ := hG.update (by unfold maxLen; omega) p (by omega) ((i : Int) + 1)
       have hf : (fun k => if k = p then ((i : Int) + 1) else ((numTo al i k : Nat) : Int)) = (fun k => ((numTo al (i + 1) k : Nat) : Int)) := by
        funext k
        unfold numTo
        rw [hp]
        by_cases hk : k = p
        · simp [hk]
        · have : ¬ p = k := fun e => hk e.symm
          simp [hk, this]; cases i <;> rfl
       rw [hf] at hG3
       have HG3 := Lib.hid hG3
       have HB2 := Lib.hid hb2
       have Hg3 := Lib.hid hg3
       have hij' : i < j := by omega
       clear hG3 hb2 hg3 hf hG hcp hij
       go_wp2
       go_roundw
       case rel => exact ⟨i + 1, by omega, by go_num, HG3.out, HB2.out.grown Hg3.out HB2.out.size (by rintro q ⟨rfl⟩; exact Nat.le_refl _)⟩
       case measure => simp [intOf]; omega
  · have hlt : (j : Int) < m := by omega
    have hjl : j < al.length := by rw [Hm.out]; omega
    obtain ⟨p, hp⟩ : ∃ p, al[j]? = some p := ⟨_, List.getElem?_eq_getElem hjl⟩
    have hpn : p < n := Hlt.out p (List.mem_of_getElem? hp)
    obtain ⟨bp, rfl, hcp⟩ := Hread.out j p hp
    have hbp : bp < w'.heap.size := World.block_lt_of_cell? w' _ hcp
    have hcp' : wr.cell? ⟨bp, j, none⟩ = some (.int .i64 (p : Nat)) := (World.cell?_of_block (hb1.block bp hbp)).trans hcp
    have hr3 := h.below (hb.trans (hb1.mono hb.size)) hB (Nat.le_refl _)
    obtain ⟨b, o, x, rfl, _, hgx, hat, _⟩ := hr3.get hpn
    have hax : at_ rs p = x := by unfold at_; rw [List.getD_eq_getElem?_getD, hgx]; rfl
    have htk : pick rs (al.take (j + 1)) = pick rs (al.take j) ++ [x] := by
     rw [List.take_add_one, hp]; simp [pick, hax]
    obtain ⟨i0, hi, hz0, hz1, hz2⟩ := info31
    obtain ⟨c0, c1, c2, c3, c4, c5, c6, c7, c8, c9, c10, c11⟩ := hat
    have HT := Lib.hid htk
    have HB1 := Lib.hid hb1
    have hsz := hb1.size
    have HR1 := Lib.hid hr1
    have hjm' : j < m := by omega
    clear htk hjm hr3 hgx hax hb1 hcp hr1
    go_wp2_with (first | (at_builtin; refine wpList_append_own _ rfl _ _ 22 rfl w'.heap.size 50 i0 noR.val 12 96 Tryz.underlying22 hi hz0 hz1 hz2 rfl (by decide) _ _ _ rfl (HR1.out.alloc _) ⟨wr.heap.size, 0, none⟩ 1 1 x.cells rfl rfl (cells_new _ _ _) (by simp [R.cells, Value.oneCell']) (by unfold maxLen; omega) (by omega) (by simp; omega) ?_; intro v' w1 hown' hgrow _))
    have hblk := row_block HR1.out
    go_roundw
    case rel =>
     refine ⟨j + 1, _, by omega, by go_num, rfl, ?_, (HB1.out.alloc hsz _).grown hgrow (by simp; omega) (fun q hq => hblk q hq)⟩
     rw [HT.out, recCells_snoc]; exact hown'
    case measure => simp [intOf]; omega
end Go.Proofs.YtogljgiefmfafaaGreat.A

namespace Go.Proofs.YtogljgiefmfafaaGreat.A
open Go.RowKit Go.Maps
def ofOf (rs : List R) : List R := pick rs (leftOf rs)
set_option maxRecDepth 100000 in
set_option maxHeartbeats 4000000 in
theorem gone_any (A : Option Addr) (n c B : Nat) (rs : List R) (w : World) (h : Recs w B A n rs) (hB : B ≤ w.heap.size) (hn : n ≤ 1000) :
  Calls Tryz.prog 34 #[.slice A n c] w fun e W' => ∃ v, e = .returned v ∧ W'.ownsRow w.heap.size 3 1 v (goneOf rs).length (intCells (goneOf rs)) ∧ Below w.heap.size w W' := by
 have hs := split_any A n c B rs w h hB hn
 go_enter Tryz.func34, Tryz.ntmps34
 go_wp2_with (first | (go_at_call 35; refine hs.mono ?_; rintro e w' ⟨v, v', rfl, hl, hg, hb⟩))
 go_ret
 exact ⟨_, rfl, hg, hb⟩
theorem leftOf_lt {rs : List R} {k : Nat} (h : k ∈ leftOf rs) : k < rs.length := by
 unfold leftOf at h; simpa using (List.mem_filter.1 h).1
theorem leftOf_le (rs : List R) : (leftOf rs).length ≤ rs.length := by
 have := List.length_filter_le (fun k => !goneB rs k) (List.range rs.length)
 simpa [leftOf] using this
set_option maxRecDepth 100000 in
set_option maxHeartbeats 4000000 in
theorem of_any (A : Option Addr) (n c B : Nat) (rs : List R) (w : World) (h : Recs w B A n rs) (hB : B ≤ w.heap.size) (hn : n ≤ 1000) :
  Calls Tryz.prog 11 #[.slice A n c] w fun e W' => ∃ v, e = .returned v ∧ W'.ownsRow w.heap.size 50 12 v (ofOf rs).length (recCells (ofOf rs)) ∧ Below w.heap.size w W' := by
 have hlen := h.len
 have ha := split_any A n c B rs w h hB hn
 have hal := leftOf_le rs
 obtain ⟨al, hAl⟩ : ∃ al, leftOf rs = al := ⟨_, rfl⟩
 have hlt : ∀ k ∈ al, k < n := fun k hk => by rw [← hAl] at hk; have := leftOf_lt hk; omega
 have HAl := Lib.hid hAl
 have Hlt := Lib.hid hlt
 rw [hAl] at ha hal
 clear hAl hlt
 obtain ⟨m, hm⟩ : ∃ m, al.length = m := ⟨_, rfl⟩
 rw [hm] at ha hal
 have Hm := Lib.hid hm
 clear hm
 go_enter Tryz.func11, Tryz.ntmps11
 go_wp2_with (first | (go_at_call 35; refine ha.mono ?_; rintro e w' ⟨v, v', rfl, hrow, _, hb⟩; obtain ⟨Av, cv, rfl, hread⟩ := row_read hrow Hm.out; have Hread := Lib.hid hread; clear hread))
 go_loopw [2, 14] (fun t i wr => ∃ (j : Nat) (v : Value), j ≤ m ∧ i = .int .i64 j ∧ t = v ∧ wr.ownsRow w'.heap.size 50 12 v j (recCells (pick rs (al.take j))) ∧ Below w'.heap.size w' wr) (fun _ i _ => m + 1 - (intOf i).toNat)
 case atStart => exact ⟨0, _, Nat.zero_le _, rfl, rfl, by simpa [pick, recCells] using World.ownsRow_nil _ _ _ _, Below.refl _ _⟩
 case round =>
  obtain ⟨j, v, hj, rfl, rfl, hr1, hb1⟩ := hrel
  by_cases hjm : j = m
  · have hlt : ¬ (j : Int) < m := by omega
    subst hjm
    have hfin : pick rs (al.take j) = ofOf rs := by unfold ofOf; rw [HAl.out, List.take_of_length_le (by rw [Hm.out]; exact Nat.le_refl _)]
    rw [hfin] at hr1
    have hlf : (ofOf rs).length = j := by unfold ofOf pick; rw [List.length_map, HAl.out, Hm.out]
    have HR1 := Lib.hid (row_base hr1 hb.size)
    have HLF := Lib.hid hlf
    have HW1 := Lib.hid (hb.trans (hb1.mono hb.size))
    clear hfin hr1 hrow hb1 hlf
    go_wp2
    go_ret
    exact ⟨_, rfl, by rw [HLF.out]; exact HR1.out, HW1.out⟩
  · have hlt : (j : Int) < m := by omega
    have hjl : j < al.length := by rw [Hm.out]; omega
    obtain ⟨p, hp⟩ : ∃ p, al[j]? = some p := ⟨_, List.getElem?_eq_getElem hjl⟩
    have hpn : p < n := Hlt.out p (List.mem_of_getElem? hp)
    obtain ⟨bp, rfl, hcp⟩ := Hread.out j p hp
    have hbp : bp < w'.heap.size := World.block_lt_of_cell? w' _ hcp
    have hcp' : wr.cell? ⟨bp, j, none⟩ = some (.int .i64 (p : Nat)) := (World.cell?_of_block (hb1.block bp hbp)).trans hcp
    have hr3 := h.below (hb.trans (hb1.mono hb.size)) hB (Nat.le_refl _)
    obtain ⟨b, o, x, rfl, _, hgx, hat, _⟩ := hr3.get hpn
    have hax : at_ rs p = x := by unfold at_; rw [List.getD_eq_getElem?_getD, hgx]; rfl
    have htk : pick rs (al.take (j + 1)) = pick rs (al.take j) ++ [x] := by
     rw [List.take_add_one, hp]; simp [pick, hax]
    obtain ⟨i0, hi, hz0, hz1, hz2⟩ := info31
    obtain ⟨c0, c1, c2, c3, c4, c5, c6, c7, c8, c9, c10, c11⟩ := hat
    have HT := Lib.hid htk
    have HB1 := Lib.hid hb1
    have hsz := hb1.size
    have HR1 := Lib.hid hr1
    have hjm' : j < m := by omega
    clear htk hjm hr3 hgx hax hb1 hcp hr1
    go_wp2_with (first | (at_builtin; refine wpList_append_own _ rfl _ _ 22 rfl w'.heap.size 50 i0 noR.val 12 96 Tryz.underlying22 hi hz0 hz1 hz2 rfl (by decide) _ _ _ rfl (HR1.out.alloc _) ⟨wr.heap.size, 0, none⟩ 1 1 x.cells rfl rfl (cells_new _ _ _) (by simp [R.cells, Value.oneCell']) (by unfold maxLen; omega) (by omega) (by simp; omega) ?_; intro v' w1 hown' hgrow _))
    have hblk := row_block HR1.out
    go_roundw
    case rel =>
     refine ⟨j + 1, _, by omega, by go_num, rfl, ?_, (HB1.out.alloc hsz _).grown hgrow (by simp; omega) (fun q hq => hblk q hq)⟩
     rw [HT.out, recCells_snoc]; exact hown'
    case measure => simp [intOf]; omega
end Go.Proofs.YtogljgiefmfafaaGreat.A
