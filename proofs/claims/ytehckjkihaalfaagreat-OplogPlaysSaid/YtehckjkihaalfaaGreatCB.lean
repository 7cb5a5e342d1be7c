/- Whether a record writes one of some inodes, walked. -/
import Derived.Test.YtehckjkihaalfaaGreatCA
namespace Go.Proofs.YtehckjkihaalfaaGreat
open Go.RowKit Go.Maps

/-- A row of inodes. -/
def InosAt (w : World) (A : Option Addr) (l : List Int) : Prop := l ≠ [] → ∃ b o, A = some ⟨b, o, none⟩ ∧ b < w.heap.size ∧ ∀ (k : Nat) (x : Int), l[k]? = some x → w.cell? ⟨b, o + k, none⟩ = some (.int .u32 x)
theorem InosAt.below {w w' : World} {A : Option Addr} {l : List Int} (h : InosAt w A l) (hb : Below w.heap.size w w') : InosAt w' A l := fun hn => by
  obtain ⟨b, o, h1, h2, h3⟩ := h hn
  exact ⟨b, o, h1, Nat.lt_of_lt_of_le h2 hb.size, fun k x hk => (World.cell?_of_block (a := ⟨b, _, none⟩) (hb.block b h2)).trans (h3 k x hk)⟩
def hasI (l : List Int) (v : Int) : Bool := l.any fun x => v == x
set_option maxRecDepth 100000 in
set_option maxHeartbeats 4000000 in
theorem t_atU32 (A : Option Addr) (n c : Nat) (l : List Int) (v : Int) (w : World) (h : InosAt w A l) (hn : l.length = n) (hn2 : n ≤ 60000) :
    Calls Tryz.prog 189 #[.slice A n c, .int .u32 v] w fun e w' => ∃ i : Int, e = .returned (.int .i64 i) ∧ decide (0 ≤ i) = hasI l v ∧ w = w' := by
  have H := Lib.hid h
  have HN := Lib.hid hn
  clear h hn
  go_enter Tryz.func189, Tryz.ntmps189
  go_wp2
  go_loopw [8] (fun x wr => ∃ k : Nat, x = .int .i64 (k : Int) ∧ k ≤ n ∧ w = wr ∧ Hid (hasI (l.take k) v = false)) (fun x _ => n - (intOf x).toNat)
  case atStart => exact ⟨0, rfl, Nat.zero_le _, rfl, rfl⟩
  case round =>
    obtain ⟨k, rfl, hk, rfl, HF⟩ := hrel
    by_cases he : k = n
    · have hf : Hid (hasI l v = false) := by
        have := HF.out
        rw [List.take_of_length_le (by rw [HN.out]; omega)] at this
        exact this
      go_wp2
      go_ret
      exact ⟨-1, rfl, by rw [hf.out]; rfl, rfl⟩
    · have hk2 : k < n := by omega
      obtain ⟨x, hx⟩ : ∃ x, l[k]? = some x := ⟨l[k]'(by rw [HN.out]; omega), List.getElem?_eq_getElem _⟩
      obtain ⟨b, o, rfl, hb, hc⟩ := H.out (fun e => by rw [e] at hx; simp at hx)
      have c0 := hc k x hx
      have HX := Lib.hid hx
      clear hc hx
      by_cases hv : v = x
      · have hv2 : (v == x) = true := by simpa using hv
        go_wp2
        go_ret
        refine ⟨k, rfl, ?_, rfl⟩
        have h1 : hasI l v = true := any_at _ _ _ _ HX.out (by simpa using hv)
        rw [h1]
        simp
      · have hv2 : (v == x) = false := by simpa using hv
        clear hv
        go_wp2
        go_roundw
        case rel => exact ⟨k + 1, rfl, hk2, by first | rfl | trivial, any_take_succ _ _ _ _ HX.out HF.out (by simpa using hv2)⟩
        case measure => simp only [intOf]; omega
set_option maxRecDepth 100000 in
set_option maxHeartbeats 4000000 in
theorem t_hasU32 (A : Option Addr) (n c : Nat) (l : List Int) (v : Int) (w : World) (h : InosAt w A l) (hn : l.length = n) (hn2 : n ≤ 60000) :
    Calls Tryz.prog 149 #[.slice A n c, .int .u32 v] w fun e w' => e = .returned (.bool (hasI l v)) ∧ w = w' := by
  go_enter Tryz.func149, Tryz.ntmps149
  go_wp2_with (go_at_call 189; (with_reducible refine (t_atU32 A n c l v _ h hn hn2).mono ?_); rintro e w' ⟨i, rfl, hi, rfl⟩; have HI := Lib.hid hi; clear hi)
  go_ret
  exact ⟨pret_bool HI.out, rfl⟩
def writesPt (inos : List Int) (p : Pt) : Bool := p.kind == 2 && p.write && hasI inos p.ino
def writesB (r : R) (inos : List Int) : Bool := (partsL r).any (writesPt inos)
set_option maxRecDepth 100000 in
set_option maxHeartbeats 4000000 in
theorem t_writes1 (p : Pt) (Bi : Nat) (A : Option Addr) (n c : Nat) (l : List Int) (w : World) (h : InosAt w A l) (hn : l.length = n) (hn2 : n ≤ 60000) (hB : w.heap[Bi]? = some (.cells #[.slice A n c] 62 (0, 0))) :
    Calls Tryz.prog 148 #[p.val, .pointer (some ⟨Bi, 0, none⟩)] w fun e w' => e = .returned (.bool (writesPt l p)) ∧ Below w.heap.size w w' := by
  obtain ⟨pk, pi, pn, pw⟩ := p
  have cB := box_cell hB
  have hlt : Bi < w.heap.size := lt_heap hB
  unfold writesPt
  simp only []
  cases h1 : (pk == 2)
  · go_enter Tryz.func148, Tryz.ntmps148
    go_wp2
    go_ret
    exact ⟨rfl, below_a1' w _⟩
  · cases h2 : pw
    · go_enter Tryz.func148, Tryz.ntmps148
      go_wp2
      go_ret
      exact ⟨rfl, below_a1' w _⟩
    · go_enter Tryz.func148, Tryz.ntmps148
      go_wp2_with (go_at_call 149; (with_reducible refine (t_hasU32 A n c l pi _ (h.below (below_a1' w _)) hn hn2).mono ?_); rintro e w' ⟨rfl, rfl⟩)
      go_ret
      exact ⟨rfl, below_a1' w _⟩
set_option maxRecDepth 100000 in
set_option maxHeartbeats 4000000 in
theorem t_indexPt (Ap : Option Addr) (m cp base : Nat) (lp : List Pt) (Bi : Nat) (A : Option Addr) (n c : Nat) (l : List Int) (w : World) (hp : w.ownsRow base 142 4 (.slice Ap m cp) m (flatP lp)) (hm : lp.length = m) (hm2 : m ≤ 60000)
    (h : InosAt w A l) (hn : l.length = n) (hn2 : n ≤ 60000) (hB : w.heap[Bi]? = some (.cells #[.slice A n c] 62 (0, 0))) :
    Calls Tryz.prog 188 #[.slice Ap m cp, .func (.func 148) #[] #[.pointer (some ⟨Bi, 0, none⟩)]] w fun e w' => ∃ i : Int, e = .returned (.int .i64 i) ∧ decide (0 ≤ i) = lp.any (writesPt l) ∧ Below w.heap.size w w' := by
  have HP := Lib.hid hp
  have HM := Lib.hid hm
  have H := Lib.hid h
  have HN := Lib.hid hn
  have HB := Lib.hid hB
  clear hp hm h hn hB
  go_enter Tryz.func188, Tryz.ntmps188
  go_wp2
  go_loopw [8] (fun x wr => ∃ k : Nat, x = .int .i64 (k : Int) ∧ k ≤ m ∧ Hid (Below w.heap.size w wr) ∧ Hid ((lp.take k).any (writesPt l) = false)) (fun x _ => m - (intOf x).toNat)
  case atStart => exact ⟨0, rfl, Nat.zero_le _, Below.refl _ _, rfl⟩
  case round =>
    obtain ⟨k, rfl, hk, HW, HF⟩ := hrel
    by_cases he : k = m
    · have hf : Hid (lp.any (writesPt l) = false) := by
        have := HF.out
        rw [List.take_of_length_le (by rw [HM.out]; omega)] at this
        exact this
      go_wp2
      go_ret
      exact ⟨-1, rfl, by rw [hf.out]; rfl, HW.out⟩
    · have hk2 : k < m := by omega
      obtain ⟨x, hx⟩ : ∃ x, lp[k]? = some x := ⟨lp[k]'(by rw [HM.out]; omega), List.getElem?_eq_getElem _⟩
      obtain ⟨g, hg, hc⟩ := part_cells HP.out HM.out HW.out hk2
      subst hg
      obtain ⟨c0, c1, c2, c3⟩ := hc x hx
      have HX := Lib.hid hx
      have hcall := t_writes1 x Bi A n c l wr (H.out.below HW.out) HN.out hn2 ((HW.out.block _ (lt_heap HB.out)).trans HB.out)
      unfold Pt.val at hcall
      clear hc hx
      cases hv : writesPt l x
      · rw [hv] at hcall
        go_wp2_with (go_at_call 148; (with_reducible refine hcall.mono ?_); rintro e w2 ⟨rfl, hb⟩; have H2 := Lib.hid (ptrans HW.out hb); clear hb)
        go_roundw
        case rel => exact ⟨k + 1, rfl, hk2, H2, any_take_succ _ _ _ _ HX.out HF.out hv⟩
        case measure => simp only [intOf]; omega
      · rw [hv] at hcall
        go_wp2_with (go_at_call 148; (with_reducible refine hcall.mono ?_); rintro e w2 ⟨rfl, hb⟩; have H2 := Lib.hid (ptrans HW.out hb); clear hb)
        go_ret
        refine ⟨k, rfl, ?_, H2.out⟩
        rw [any_at _ _ _ _ HX.out hv]
        simp
set_option maxRecDepth 100000 in
set_option maxHeartbeats 4000000 in
theorem t_containsPt (Ap : Option Addr) (m cp base : Nat) (lp : List Pt) (Bi : Nat) (A : Option Addr) (n c : Nat) (l : List Int) (w : World) (hp : w.ownsRow base 142 4 (.slice Ap m cp) m (flatP lp)) (hm : lp.length = m) (hm2 : m ≤ 60000)
    (h : InosAt w A l) (hn : l.length = n) (hn2 : n ≤ 60000) (hB : w.heap[Bi]? = some (.cells #[.slice A n c] 62 (0, 0))) :
    Calls Tryz.prog 147 #[.slice Ap m cp, .func (.func 148) #[] #[.pointer (some ⟨Bi, 0, none⟩)]] w fun e w' => e = .returned (.bool (lp.any (writesPt l))) ∧ Below w.heap.size w w' := by
  go_enter Tryz.func147, Tryz.ntmps147
  go_wp2_with (go_at_call 188; (with_reducible refine (t_indexPt Ap m cp base lp Bi A n c l _ hp hm hm2 h hn hn2 hB).mono ?_); rintro e w' ⟨i, rfl, hi, hb⟩; have HI := Lib.hid (And.intro hi hb); clear hi hb)
  go_ret
  exact ⟨pret_bool HI.out.1, HI.out.2⟩
theorem two_below {w w1 : World} {a b : Obj} (h : Below ((w.alloc a).alloc b).heap.size ((w.alloc a).alloc b) w1) : Below w.heap.size w w1 :=
  ptrans (((Below.refl _ _).alloc (Nat.le_refl _) _).alloc (by rw [World.alloc_size']; omega) _) h
theorem partsL_len (r : R) : (partsL r).length ≤ 9 := by
  unfold partsL
  repeat (split <;> try simp)
set_option maxRecDepth 100000 in
set_option maxHeartbeats 4000000 in
theorem t_writes (r : R) (hr : RecOk r) (A : Option Addr) (n c : Nat) (l : List Int) (w : World) (h : InosAt w A l) (hn : l.length = n) (hn2 : n ≤ 60000) :
    Calls Tryz.prog 122 #[r.val, .slice A n c] w fun e w' => e = .returned (.bool (writesB r l)) ∧ Below w.heap.size w w' := by
  have hpt := fun w => t_parts r hr.1 hr.2.1 hr.2.2.1 w
  unfold R.val at hpt ⊢
  have H := Lib.hid h
  clear h
  go_enter Tryz.func122, Tryz.ntmps122
  go_wp2_with (first
    | (go_at_call 70; (with_reducible refine (hpt _).mono ?_); rintro e w1 ⟨v, rfl, ho, hb⟩; obtain ⟨Ap, cp, rfl⟩ := row_slice ho; have HO := Lib.hid ho; have HB := Lib.hid hb; clear ho hb)
    | (go_at_call 147; (with_reducible refine (t_containsPt Ap _ cp _ (partsL r) (w.heap.size + 1) A n c l _ HO.out rfl (Nat.le_trans (partsL_len r) (by decide)) (H.out.below (two_below HB.out)) hn hn2 ((HB.out.block _ (by simp)).trans (new_at _ _ _ (by simp)))).mono ?_); rintro e w2 ⟨rfl, hb⟩; have HB2 := Lib.hid hb; clear hb))
  go_ret
  exact ⟨rfl, ptrans (two_below HB.out) HB2.out⟩
end Go.Proofs.YtehckjkihaalfaaGreat
