/- alive. -/
import Derived.Test.YtnnidgjfjgkdpaaF
namespace Go.Proofs.Ytnnidgjfjgkdpaa
open Go.RowKit Go.Maps

def inoAt (rs : List R) (i : Nat) : Int := match rs[i]? with | some r => r.ino | none => -1
/-- Is a place of the idle life that begins at k? -/
def hit (rs : List R) (k i : Nat) : Bool := match idleB rs k with | some to => decide (k ≤ i ∧ i ≤ to ∧ inoAt rs i = inoAt rs k) | none => false
/-- Of how many of the first k. -/
def goneN (rs : List R) (k i : Nat) : Nat := (List.range k).countP (fun j => hit rs j i)
theorem goneN_succ (rs : List R) (k i : Nat) : goneN rs (k + 1) i = goneN rs k i + if hit rs k i then 1 else 0 := by
  unfold goneN; rw [List.range_succ, List.countP_append]; simp [List.countP_cons]
theorem goneN_le (rs : List R) (k i : Nat) : goneN rs k i ≤ k := by
  have := List.countP_le_length (p := fun j => hit rs j i) (l := List.range k)
  simpa [goneN] using this

theorem placed_mem : ∀ (rs : List R) (i : Nat) (y : Nat × R), y ∈ placed rs i → i ≤ y.1 ∧ y.1 < i + rs.length
  | [], _, _, h => by simp [placed] at h
  | r :: rs, i, y, h => by
    simp only [placed, List.mem_cons] at h
    rcases h with rfl | h
    · simp
    · have := placed_mem rs (i + 1) y h; simp; omega
theorem idleGo_mem (x : R) : ∀ (l : List (Nat × R)) (D : DataW Unit) (t : Nat), idleGo x D l = some t → ∃ y ∈ l, y.1 = t
  | [], _, _, h => by simp [idleGo] at h
  | (i, r) :: l, D, t, h => by
    unfold idleGo at h
    have ih := fun D' h' => idleGo_mem x l D' t h'
    have lift : (∃ y ∈ l, y.1 = t) → ∃ y ∈ (i, r) :: l, y.1 = t := fun ⟨y, hy, e⟩ => ⟨y, List.mem_cons_of_mem _ hy, e⟩
    repeat' split at h
    all_goals first
      | (cases h; done)
      | (cases h; exact ⟨(i, r), by simp, rfl⟩)
      | exact lift (ih _ h)
theorem idleB_lt {rs : List R} {k t : Nat} (h : idleB rs k = some t) : k < t ∧ t < rs.length := by
  unfold idleB at h
  split at h
  · split at h
    · obtain ⟨y, hy, rfl⟩ := idleGo_mem _ _ _ _ h
      have := placed_mem _ _ _ hy
      simp only [List.length_drop] at this
      omega
    · cases h
  · cases h

theorem law3 : Keyed Try.prog 3 := int_keyed Try.underlying3
theorem key3 (n : Nat) (h : n ≤ 9223372036854775807) : keyOf Try.prog 3 (.int .i64 n) = some (.int .i64 n) := keyOf_int_mk Try.underlying3 (by simp [Lit.wf, IntKind.min, IntKind.max, IntKind.signed, IntKind.bits]; omega)
theorem zero3 (w : World) : (zeroValue 3).run Try.prog w = .ok (.int .i64 0) w := by kernel_rfl
/-- A map from places to numbers. -/
def NumMap (W : World) (Mg c : Nat) (G : Nat → Int) : Prop := ∃ D : DataW Value, W.ownsMap Try.prog 3 anyElem Mg c D ∧ IsMap D ∧ ∀ i : Nat, D.atKey (.int .i64 i) (.held (.int .i64 0)) = .held (.int .i64 (G i))
theorem NumMap.made (w : World) : NumMap (w.alloc (.map #[] 0)) w.heap.size 0 (fun _ => 0) := ⟨_, World.ownsMap_made w Try.prog 3 anyElem, isMap_empty, fun _ => rfl⟩
theorem NumMap.kept {W W' : World} {row : Option Nat} {Mg c : Nat} {G : Nat → Int} (h : NumMap W Mg c G) (hg : W.grownBy W' row) (hne : some Mg ≠ row) : NumMap W' Mg c G := by
  obtain ⟨D, h1, h2, h3⟩ := h; exact ⟨D, h1.kept hg hne, h2, h3⟩
theorem NumMap.drewN {W : World} {Mg c : Nat} {G : Nat → Int} (h : NumMap W Mg c G) (q : Nat) : NumMap (W.drewN q) Mg c G :=
  h.kept (row := none) ⟨rfl, rfl, rfl, Nat.le_refl _, fun _ _ _ => rfl⟩ (by simp)
theorem NumMap.mono {W : World} {Mg c c' : Nat} {G : Nat → Int} (h : NumMap W Mg c G) (hc : c ≤ c') : NumMap W Mg c' G := by
  obtain ⟨D, ⟨es, clock, hb, F, hs, e⟩, h2, h3⟩ := h; exact ⟨D, ⟨es, clock, hb, F, Nat.le_trans hs hc, e⟩, h2, h3⟩
theorem NumMap.look {W : World} {Mg c : Nat} {G : Nat → Int} (h : NumMap W Mg c G) (i : Nat) (hi : i ≤ 9223372036854775807) : (Instr.lookup 60 (.map (some Mg)) (.int .i64 i) false).run Try.prog W = .ok (.int .i64 (G i)) W := by
  obtain ⟨D, h1, h2, h3⟩ := h
  obtain ⟨v, ps, hrun, hv⟩ := h1.lookup law3 Try.underlying60 (zero3 W) (zd := .held (.int .i64 0)) rfl (key3 i hi)
  rw [h3] at hv
  simp only [anyElem, Option.some.injEq, Prod.mk.injEq, DataW.held.injEq] at hv
  rw [hrun, hv.1]
theorem NumMap.lt {W : World} {Mg c : Nat} {G : Nat → Int} (h : NumMap W Mg c G) : Mg < W.heap.size := by
  obtain ⟨D, h1, _⟩ := h; exact h1.lt
theorem NumMap.update {W : World} {Mg c : Nat} {G : Nat → Int} (h : NumMap W Mg c G) (hc : c < maxLen) (i : Nat) (hi : i ≤ 9223372036854775807) (v : Int) :
    ∃ W', (Instr.mapUpdate 60 (.map (some Mg)) (.int .i64 i) (.int .i64 v)).run Try.prog W = .ok () W' ∧ NumMap W' Mg (c + 1) (fun j => if j = i then v else G j) ∧ W.grownBy W' (some Mg) := by
  obtain ⟨D, h1, h2, h3⟩ := h
  obtain ⟨W', hrun, hown, hg⟩ := h1.update law3 Try.underlying60 hc (key3 i hi) (val := .int .i64 v) (d := .held (.int .i64 v)) (ps := []) rfl
  refine ⟨W', hrun, ⟨_, hown, h2.put _ _, fun j => ?_⟩, hg⟩
  by_cases e : j = i
  · subst e; simp only [if_true]; exact atKey_put_same h2 (by simp [WideAt.IsKeyLit]) _ _
  · simp only [e, if_false]; rw [atKey_put_other (by simp; omega)]; exact h3 j

/-- The places that no idle life has. -/
def aliveOf (rs : List R) : List Nat := (List.range rs.length).filter (fun k => goneN rs rs.length k == 0)
/-- The cells of a row of places. -/
def intCells (l : List Nat) : List Value := l.map fun (k : Nat) => .int .i64 (k : Int)

theorem row_block {w : World} {base n size : Nat} {e : TypeId} {v : Value} {xs : List Value} (h : w.ownsRow base e size v n xs) : ∀ q, v.ownBlock = some q → base ≤ q := fun q hq => by
  rcases h.2 with ⟨rfl, _⟩ | ⟨g, cap, cur, rfl, hb, _⟩
  · simp [Value.ownBlock] at hq
  · simp [Value.ownBlock] at hq; omega
theorem NumMap.ne_row {W : World} {Mg c : Nat} {G : Nat → Int} (h : NumMap W Mg c G) {base n size : Nat} {e : TypeId} {v : Value} {xs : List Value} (hr : W.ownsRow base e size v n xs) : some Mg ≠ v.ownBlock := by
  obtain ⟨D, ⟨es, clock, hb, _⟩, _⟩ := h
  rcases hr.2 with ⟨rfl, _⟩ | ⟨g, cap, cur, rfl, _, hg, _⟩
  · simp [Value.ownBlock]
  · simp only [Value.ownBlock]; rintro ⟨rfl⟩; rw [hb] at hg; cases hg
theorem info3 : ∃ i, Try.prog.info? 3 = some i ∧ i.zero = some (.int .i64 0) ∧ i.size = 1 ∧ i.bytes = 8 := info_parts (by kernel_rfl)
def aliveTo (rs : List R) (n j : Nat) : List Nat := (List.range j).filter (fun k => goneN rs n k == 0)
theorem aliveTo_succ (rs : List R) (n j : Nat) : aliveTo rs n (j + 1) = aliveTo rs n j ++ if goneN rs n j = 0 then [j] else [] := by
  unfold aliveTo; rw [List.range_succ, List.filter_append]
  by_cases h : goneN rs n j = 0 <;> simp [h]
theorem aliveTo_le (rs : List R) (n j : Nat) : (aliveTo rs n j).length ≤ j := by
  have := List.length_filter_le (fun k => goneN rs n k == 0) (List.range j)
  simpa [aliveTo] using this

set_option maxRecDepth 100000 in
set_option maxHeartbeats 4000000 in
theorem alive_any (A : Option Addr) (n c B : Nat) (rs : List R) (w : World) (h : Recs w B A n rs) (hB : B ≤ w.heap.size) (hn : n ≤ 1000) :
    Calls Try.prog 20 #[.slice A n c] w fun e W' => ∃ v, e = .returned v ∧ W'.ownsRow w.heap.size 3 1 v (aliveOf rs).length (intCells (aliveOf rs)) ∧ Below w.heap.size w W' := by
  have hmm := @run_makeMap Try.prog
  have hlen := h.len
  go_enter Try.func20, Try.ntmps20
  go_wp2
  go_loopw [12] (fun i wr => ∃ k : Nat, k ≤ n ∧ i = .int .i64 k ∧ NumMap wr w.heap.size (k * n) (fun j => (goneN rs k j : Int)) ∧ Below w.heap.size w wr) (fun i _ => n + 1 - (intOf i).toNat)
  case atStart => exact ⟨0, Nat.zero_le _, rfl, by simpa [goneN] using (NumMap.made w).mono (Nat.zero_le _), (Below.refl _ w).alloc (Nat.le_refl _) _⟩
  case round =>
    obtain ⟨k, hk, rfl, hG, hb⟩ := hrel
    by_cases he : k = n
    · have hkn : ¬ (k : Int) < n := by omega
      subst he
      have HG := Lib.hid hG
      have HB := Lib.hid hb
      clear hG hb
      go_wp2
      go_loopw [2, 48] (fun t i wr => ∃ (j : Nat) (v : Value), j ≤ k ∧ i = .int .i64 j ∧ t = v ∧ NumMap wr w.heap.size (k * k) (fun j => (goneN rs k j : Int)) ∧ wr.ownsRow w.heap.size 3 1 v (aliveTo rs k j).length (intCells (aliveTo rs k j)) ∧ Below w.heap.size w wr) (fun _ i _ => k + 1 - (intOf i).toNat)
      case atStart => exact ⟨0, _, Nat.zero_le _, rfl, rfl, HG.out, World.ownsRow_nil _ _ _ _, HB.out⟩
      case round =>
        obtain ⟨j, v, hj, rfl, rfl, hG, hrow, hb⟩ := hrel
        by_cases hjk : j = k
        · have hlt : ¬ (j : Int) < k := by omega
          subst hjk
          have hfin : aliveTo rs j j = aliveOf rs := by unfold aliveTo aliveOf; rw [hlen]
          rw [hfin] at hrow
          go_wp2
          go_ret
          exact ⟨_, rfl, hrow, hb⟩
        · have hlt : (j : Int) < k := by omega
          have hlk := hG.look j (by omega)
          have hle := aliveTo_le rs k j
          have hsz := hb.size
          have HS := Lib.hid (aliveTo_succ rs k j)
          by_cases h0 : goneN rs k j = 0
          · have h0' : (((goneN rs k j : Nat) : Int) == 0) = true := by rw [h0]; rfl
            have H0 := Lib.hid h0
            have HG2 := Lib.hid hG
            have HB2 := Lib.hid hb
            have HR2 := Lib.hid hrow
            obtain ⟨i0, hi, hz0, hz1, hz2⟩ := info3
            clear h0 hjk hG hb
            go_wp2_with (first | (at_builtin; refine wpList_append_own _ rfl _ _ 26 rfl w.heap.size 3 i0 (.int .i64 0) 1 8 Try.underlying26 hi hz0 hz1 hz2 rfl (by decide) _ _ _ rfl (hrow.alloc _) ⟨wr.heap.size, 0, none⟩ 1 1 [.int .i64 j] rfl rfl (cell_one_new _ _ _) (by simp [Value.oneCell']) (by unfold maxLen; omega) (by omega) (by simp; omega) ?_; intro v' w1 hown' hgrow _))
            have hblk := row_block hrow
            have hg := HG2.out.kept (row := none) (World.grownBy_alloc wr (.cells #[.int .i64 j] 3) none) (by simp)
            have hg' := hg.kept hgrow (NumMap.ne_row hg (hrow.alloc _))
            go_roundw
            case rel =>
              refine ⟨j + 1, _, by omega, by go_num, rfl, hg', ?_, (HB2.out.alloc hsz _).grown hgrow (by simp; omega) (fun q hq => hblk q hq)⟩
              rw [HS.out, if_pos H0.out]
              simpa [intCells] using hown'
            case measure => simp [intOf]; omega
          · have h0' : (((goneN rs k j : Nat) : Int) == 0) = false := by simpa using h0
            have H0 := Lib.hid h0
            have HG2 := Lib.hid hG
            have HB2 := Lib.hid hb
            have HR2 := Lib.hid hrow
            clear h0 hjk hG hb hrow
            go_wp2
            go_roundw
            case rel => exact ⟨j + 1, _, by omega, by go_num, rfl, HG2.out, by rw [HS.out, if_neg H0.out, List.append_nil]; exact HR2.out, HB2.out⟩
            case measure => simp [intOf]; omega
    · have hkn : k < n := by omega
      have hr := h.below hb hB (Nat.le_refl _)
      have hid := idle_any A n c wr.heap.size k rs wr (h.below hb hB (Nat.le_trans hB hb.size)) (Nat.le_refl _) (by unfold maxLen; omega) hkn
      rcases ho : idleB rs k with _ | to
      · rw [ho] at hid
        simp only [Option.getD_none, Option.isSome_none] at hid
        have hz : ∀ j, goneN rs (k + 1) j = goneN rs k j := fun j => by rw [goneN_succ]; unfold hit; rw [ho]; rfl
        have HZ := Lib.hid hz
        have HO := Lib.hid ho
        clear hz ho he
        go_wp2_with (first | (go_at_call 13; refine hid.mono ?_; rintro e w' ⟨rfl, hb'⟩))
        have hb2 := hb.trans (hb'.mono hb.size)
        have hG2 := hG.kept (grown_below hb') (by simp)
        have HG2 := Lib.hid hG2
        have HB2 := Lib.hid hb2
        clear hG hG2 hb2 hb' hb hr hid
        go_loopw [7] (fun i w2 => i = .int .i64 k ∧ w2 = w') (fun _ _ => 0)
        case atStart => exact ⟨rfl, rfl⟩
        case round =>
          obtain ⟨rfl, rfl⟩ := hrel
          go_wp2
          go_roundw
          case rel => exact ⟨k + 1, by omega, by go_num, by have := HG2.out.mono (c' := (k + 1) * n) (Nat.mul_le_mul_right _ (by omega)); simpa only [HZ.out] using this, HB2.out⟩
          case measure => simp [intOf]; omega
      · rw [ho] at hid
        simp only [Option.getD_some, Option.isSome_some] at hid
        obtain ⟨ho1, ho2⟩ := idleB_lt ho
        rw [hlen] at ho2
        have hh : ∀ j, hit rs k j = decide (k ≤ j ∧ j ≤ to ∧ inoAt rs j = inoAt rs k) := fun j => by unfold hit; rw [ho]
        have hz : ∀ j, goneN rs (k + 1) j = goneN rs k j + if hit rs k j then 1 else 0 := goneN_succ rs k
        have HZ := Lib.hid hz
        have HH := Lib.hid hh
        have HO := Lib.hid ho
        clear hz ho he hh
        go_wp2_with (first | (go_at_call 13; refine hid.mono ?_; rintro e w' ⟨rfl, hb'⟩))
        have hb2 := hb.trans (hb'.mono hb.size)
        have hG2 := hG.kept (grown_below hb') (by simp)
        have HG2 := Lib.hid hG2
        have HB2 := Lib.hid hb2
        clear hG hG2 hb2 hb' hb hr hid
        go_loopw [7] (fun i w2 => ∃ j : Nat, k ≤ j ∧ j ≤ to + 1 ∧ i = .int .i64 j ∧ NumMap w2 w.heap.size (k * n + (j - k)) (fun i => ((goneN rs k i + if i < j ∧ hit rs k i = true then 1 else 0 : Nat) : Int)) ∧ Below w.heap.size w w2) (fun i _ => to + 2 - (intOf i).toNat)
        case atStart =>
          refine ⟨k, Nat.le_refl _, by omega, rfl, ?_, HB2.out⟩
          have hf : (fun i => ((goneN rs k i + if i < k ∧ hit rs k i = true then 1 else 0 : Nat) : Int)) = (fun i => ((goneN rs k i : Nat) : Int)) := by
            funext i
            rw [if_neg]; · rfl
            rintro ⟨h1, h2⟩
            rw [HH.out] at h2; simp at h2; omega
          rw [hf]; simpa using HG2.out
        case round =>
          obtain ⟨j, hj1, hj2, rfl, hG3, hb3⟩ := hrel
          by_cases hjt : j = to + 1
          · have hle : ¬ (j : Int) ≤ to := by omega
            have HG3 := Lib.hid hG3
            have HB3 := Lib.hid hb3
            have hjt' := Lib.hid hjt
            clear hG3 hb3 hjt
            go_wp2
            go_roundw
            case rel =>
              refine ⟨k + 1, by omega, by go_num, ?_, HB3.out⟩
              have hc : k * n + (j - k) ≤ (k + 1) * n := by have := hjt'.out; rw [Nat.succ_mul]; omega
              have hf : (fun i => ((goneN rs k i + if i < j ∧ hit rs k i = true then 1 else 0 : Nat) : Int)) = (fun i => ((goneN rs (k + 1) i : Nat) : Int)) := by
                funext i
                rw [HZ.out]
                by_cases hi : hit rs k i = true
                · have : i < j := by have h2 := hi; rw [HH.out] at h2; simp at h2; have := hjt'.out; omega
                  simp [hi, this]
                · simp [hi]
              rw [← hf]; exact HG3.out.mono hc
            case measure => simp [intOf]; omega
          · have hle : (j : Int) ≤ to := by omega
            have hjn : j < n := by omega
            have hr3 := h.below hb3 hB (Nat.le_refl _)
            obtain ⟨b, o, rj, rfl, _, hgj, hatj, _⟩ := hr3.get hjn
            obtain ⟨b', o', rk, e1, _, hgk, hatk, _⟩ := hr3.get hkn
            cases e1
            have c4 := hatj.c4
            have d4 := hatk.c4
            have hji : inoAt rs j = rj.ino := by unfold inoAt; rw [hgj]
            have hki : inoAt rs k = rk.ino := by unfold inoAt; rw [hgk]
            have hn1 : j ≤ 9223372036854775807 := by omega
            have hgl := goneN_le rs k j
            by_cases heq : rj.ino = rk.ino
            · have heq' : (rj.ino == rk.ino) = true := by simpa using heq
              have hhit : hit rs k j = true := by rw [HH.out]; simp; exact ⟨hj1, by omega, by rw [hji, hki, heq]⟩
              have hf : (fun i => if i = j then ((goneN rs k j : Nat) : Int) + 1 else ((goneN rs k i + if i < j ∧ hit rs k i = true then 1 else 0 : Nat) : Int)) = (fun i => ((goneN rs k i + if i < j + 1 ∧ hit rs k i = true then 1 else 0 : Nat) : Int)) := by
                funext i
                by_cases hij : i = j
                · subst hij; simp [hhit]
                · have : i < j + 1 ↔ i < j := by omega
                  simp only [hij, if_false, this]
              have hlk : ∀ q, (Instr.lookup 60 (.map (some w.heap.size)) (.int .i64 j) false).run Try.prog (wr.drewN q) = .ok (.int .i64 (goneN rs k j : Nat)) (wr.drewN q) := fun q => by
                have := (hG3.drewN q).look j hn1
                simpa using this
              have HF := Lib.hid hf
              have HG3 := Lib.hid hG3
              have HB3 := Lib.hid hb3
              have HL := Lib.hid hlk
              clear hG3 hb3 hjt hr3 hgj hgk hatj hatk hji hki heq hhit hf hlk
              go_wp2
              go_quiet (fail)
              obtain ⟨w3, hrun, hG4, hg4⟩ := (HG3.out.drewN nq).update (by unfold maxLen; have : k * n ≤ 1000 * 1000 := Nat.mul_le_mul (by omega) hn; omega) j hn1 (((goneN rs k j : Nat) : Int) + 1)
              have hlk := HL.out nq
              have HG4 := Lib.hid hG4
              have Hg4 := Lib.hid hg4
              clear hG4 hg4
              go_wp2
              go_roundw
              case rel => exact ⟨j + 1, by omega, by omega, by go_num, by rw [← HF.out]; exact HG4.out.mono (by omega), (bdn HB3.out nq).grown Hg4.out HB3.out.size (by rintro i ⟨rfl⟩; exact Nat.le_refl _)⟩
              case measure => simp [intOf]; omega
            · have heq' : (rj.ino == rk.ino) = false := by simpa using heq
              have hhit : hit rs k j = false := by rw [HH.out]; simp; intro _ _ h4; rw [hji, hki] at h4; exact heq h4
              have hf : (fun i => ((goneN rs k i + if i < j + 1 ∧ hit rs k i = true then 1 else 0 : Nat) : Int)) = (fun i => ((goneN rs k i + if i < j ∧ hit rs k i = true then 1 else 0 : Nat) : Int)) := by
                funext i
                by_cases hij : i = j
                · subst hij; simp [hhit]
                · have : i < j + 1 ↔ i < j := by omega
                  simp only [this]
              have HF := Lib.hid hf
              have HG3 := Lib.hid hG3
              have HB3 := Lib.hid hb3
              clear hG3 hb3 hjt hr3 hgj hgk hatj hatk hji hki heq hhit hf hgl
              go_wp2
              go_quiet (fail)
              go_wp2
              go_roundw
              case rel => exact ⟨j + 1, by omega, by omega, by go_num, by rw [HF.out]; exact (HG3.out.mono (by omega)).drewN _, bdn HB3.out _⟩
              case measure => simp [intOf]; omega
end Go.Proofs.Ytnnidgjfjgkdpaa
