/- Whether a record writes one of some inodes, walked. -/
import Derived.Test.YtogljgiefmfafaaGreatPc15
import Derived.Handy
import Derived.Deep.AppendLies
import Derived.Deep.RegionHeld3
import Derived.Deep.DeepCutAuto
import Derived.Deep.RegionLaw
import Derived.Deep.CutBlock
namespace Go.Proofs.YtogljgiefmfafaaGreat
section
open Go.RowKit Go.Maps
def InosAt (w : World) (A : Option Addr) (l : List Int) : Prop := l ≠ [] → ∃ b o, A = some ⟨b, o, none⟩ ∧ b < w.heap.size ∧ ∀ (k : Nat) (x : Int), l[k]? = some x → w.cell? ⟨b, o + k, none⟩ = some (.int .u32 x)
theorem InosAt.below {w w' : World} {A : Option Addr} {l : List Int} (h : InosAt w A l) (hb : Below w.heap.size w w') : InosAt w' A l := fun hn => by
 obtain ⟨b, o, h1, h2, h3⟩ := h hn
 exact ⟨b, o, h1, Nat.lt_of_lt_of_le h2 hb.size, fun k x hk => (World.cell?_of_block (a := ⟨b, _, none⟩) (hb.block b h2)).trans (h3 k x hk)⟩
def hasI (l : List Int) (v : Int) : Bool := l.any fun x => v == x
set_option maxRecDepth 100000 in
set_option maxHeartbeats 4000000 in
theorem t_atU32 (A : Option Addr) (n c : Nat) (l : List Int) (v : Int) (w : World) (h : InosAt w A l) (hn : l.length = n) (hn2 : n ≤ 60000) :
  Calls Tryz.prog 247 #[.slice A n c, .int .u32 v] w fun e w' => ∃ i : Int, e = .returned (.int .i64 i) ∧ decide (0 ≤ i) = hasI l v ∧ w = w' := by
 have H := zz h
 have HN := zz hn
 clear h hn
 go_enter Tryz.func247, Tryz.ntmps247
 go_wp2
 go_loopw [8] (fun x wr => ∃ k : Nat, x = .int .i64 (k : Int) ∧ k ≤ n ∧ w = wr ∧ Hid (hasI (l.take k) v = false)) (fun x _ => n - (intOf x).toNat)
 case atStart => exact ⟨0, rfl, Nat.zero_le _, rfl, rfl⟩
 case round =>
  obtain ⟨k, rfl, hk, rfl, HF⟩ := hrel
  by_cases he : k = n
  · have hf : Hid (hasI l v = false) := by
     have := HF.out
     rw [List.take_of_length_le (by rw [HN.out]; omega)] at this
     exact this
    go_wp2
    go_ret
    exact ⟨-1, rfl, by rw [hf.out]; rfl, rfl⟩
  · have hk2 : k < n := by omega
    obtain ⟨x, hx⟩ : ∃ x, l[k]? = some x := ⟨l[k]'(by rw [HN.out]; omega), List.getElem?_eq_getElem _⟩
    obtain ⟨b, o, rfl, hb, hc⟩ := H.out (fun e => by rw [e] at hx; simp at hx)
    have c0 := hc k x hx
    have HX := zz hx
    clear hc hx
    by_cases hv : v = x
    · have hv2 : (v == x) = true := by simpa using hv
      go_wp2
      go_ret
      refine ⟨k, rfl, ?_, rfl⟩
      have h1 : hasI l v = true := any_at _ _ _ _ HX.out (by simpa using hv)
      rw [h1]
      simp
    · have hv2 : (v == x) = false := by simpa using hv
      clear hv
      go_wp2
      go_roundw
      case rel => exact ⟨k + 1, rfl, hk2, by first | rfl | trivial, any_take_succ _ _ _ _ HX.out HF.out (by simpa using hv2)⟩
      case measure => simp only [intOf]; omega
set_option maxRecDepth 100000 in
set_option maxHeartbeats 4000000 in
theorem t_hasU32 (A : Option Addr) (n c : Nat) (l : List Int) (v : Int) (w : World) (h : InosAt w A l) (hn : l.length = n) (hn2 : n ≤ 60000) :
  Calls Tryz.prog 196 #[.slice A n c, .int .u32 v] w fun e w' => e = .returned (.bool (hasI l v)) ∧ w = w' := by
 go_enter Tryz.func196, Tryz.ntmps196
 go_wp2_with (go_at_call 247; (with_reducible refine (t_atU32 A n c l v _ h hn hn2).mono ?_); rintro e w' ⟨i, rfl, hi, rfl⟩; have HI := zz hi; clear hi)
 go_ret
 exact ⟨pret_bool HI.out, rfl⟩
def writesPt (inos : List Int) (p : Pt) : Bool := p.kind == 2 && p.write && hasI inos p.ino
def writesB (r : R) (inos : List Int) : Bool := (partsL r).any (writesPt inos)
set_option maxRecDepth 100000 in
set_option maxHeartbeats 4000000 in
theorem t_writes1 (p : Pt) (Bi : Nat) (A : Option Addr) (n c : Nat) (l : List Int) (w : World) (h : InosAt w A l) (hn : l.length = n) (hn2 : n ≤ 60000) (hB : w.heap[Bi]? = some (.cells #[.slice A n c] 31 (0, 0))) :
  Calls Tryz.prog 195 #[p.val, .pointer (some ⟨Bi, 0, none⟩)] w fun e w' => e = .returned (.bool (writesPt l p)) ∧ Below w.heap.size w w' := by
 obtain ⟨pk, pi, pn, pw⟩ := p
 have cB := box_cell hB
 have hlt : Bi < w.heap.size := lt_heap hB
 unfold writesPt
 simp only []
 cases h1 : (pk == 2)
 · go_enter Tryz.func195, Tryz.ntmps195
   go_wp2
   go_ret
   exact ⟨rfl, below_a1' w _⟩
 · cases h2 : pw
   · go_enter Tryz.func195, Tryz.ntmps195
     go_wp2
     go_ret
     exact ⟨rfl, below_a1' w _⟩
   · go_enter Tryz.func195, Tryz.ntmps195
     go_wp2_with (go_at_call 196; (with_reducible refine (t_hasU32 A n c l pi _ (h.below (below_a1' w _)) hn hn2).mono ?_); rintro e w' ⟨rfl, rfl⟩)
     go_ret
     exact ⟨rfl, below_a1' w _⟩
set_option maxRecDepth 100000 in
set_option maxHeartbeats 4000000 in
theorem t_indexPt (Ap : Option Addr) (m cp base : Nat) (lp : List Pt) (Bi : Nat) (A : Option Addr) (n c : Nat) (l : List Int) (w : World) (hp : w.ownsRow base 125 4 (.slice Ap m cp) m (flatP lp)) (hm : lp.length = m) (hm2 : m ≤ 60000)
  (h : InosAt w A l) (hn : l.length = n) (hn2 : n ≤ 60000) (hB : w.heap[Bi]? = some (.cells #[.slice A n c] 31 (0, 0))) :
  Calls Tryz.prog 246 #[.slice Ap m cp, .func (.func 195) #[] #[.pointer (some ⟨Bi, 0, none⟩)]] w fun e w' => ∃ i : Int, e = .returned (.int .i64 i) ∧ decide (0 ≤ i) = lp.any (writesPt l) ∧ Below w.heap.size w w' := by
 have HP := zz hp
 have HM := zz hm
 have H := zz h
 have HN := zz hn
 have HB := zz hB
 clear hp hm h hn hB
 go_enter Tryz.func246, Tryz.ntmps246
 go_wp2
 go_loopw [8] (fun x wr => ∃ k : Nat, x = .int .i64 (k : Int) ∧ k ≤ m ∧ Hid (Below w.heap.size w wr) ∧ Hid ((lp.take k).any (writesPt l) = false)) (fun x _ => m - (intOf x).toNat)
 case atStart => exact ⟨0, rfl, Nat.zero_le _, Below.refl _ _, rfl⟩
 case round =>
  obtain ⟨k, rfl, hk, HW, HF⟩ := hrel
  by_cases he : k = m
  · have hf : Hid (lp.any (writesPt l) = false) := by
     have := HF.out
     rw [List.take_of_length_le (by rw [HM.out]; omega)] at this
     exact this
    go_wp2
    go_ret
    exact ⟨-1, rfl, by rw [hf.out]; rfl, HW.out⟩
  · have hk2 : k < m := by omega
    obtain ⟨x, hx⟩ : ∃ x, lp[k]? = some x := ⟨lp[k]'(by rw [HM.out]; omega), List.getElem?_eq_getElem _⟩
    obtain ⟨g, hg, hc⟩ := part_cells HP.out HM.out HW.out hk2
    subst hg
    obtain ⟨c0, c1, c2, c3⟩ := hc x hx
    have HX := zz hx
    have hcall := t_writes1 x Bi A n c l wr (H.out.below HW.out) HN.out hn2 ((HW.out.block _ (lt_heap HB.out)).trans HB.out)
    unfold Pt.val at hcall
    clear hc hx
    cases hv : writesPt l x
    · rw [hv] at hcall
      go_wp2_with (go_at_call 195; (with_reducible refine hcall.mono ?_); rintro e w2 ⟨rfl, hb⟩; have H2 := zz (ptrans HW.out hb); clear hb)
      go_roundw
      case rel => exact ⟨k + 1, rfl, hk2, H2, any_take_succ _ _ _ _ HX.out HF.out hv⟩
      case measure => simp only [intOf]; omega
    · rw [hv] at hcall
      go_wp2_with (go_at_call 195; (with_reducible refine hcall.mono ?_); rintro e w2 ⟨rfl, hb⟩; have H2 := zz (ptrans HW.out hb); clear hb)
      go_ret
      refine ⟨k, rfl, ?_, H2.out⟩
      rw [any_at _ _ _ _ HX.out hv]
      simp
set_option maxRecDepth 100000 in
set_option maxHeartbeats 4000000 in
theorem t_containsPt (Ap : Option Addr) (m cp base : Nat) (lp : List Pt) (Bi : Nat) (A : Option Addr) (n c : Nat) (l : List Int) (w : World) (hp : w.ownsRow base 125 4 (.slice Ap m cp) m (flatP lp)) (hm : lp.length = m) (hm2 : m ≤ 60000)
  (h : InosAt w A l) (hn : l.length = n) (hn2 : n ≤ 60000) (hB : w.heap[Bi]? = some (.cells #[.slice A n c] 31 (0, 0))) :
  Calls Tryz.prog 194 #[.slice Ap m cp, .func (.func 195) #[] #[.pointer (some ⟨Bi, 0, none⟩)]] w fun e w' => e = .returned (.bool (lp.any (writesPt l))) ∧ Below w.heap.size w w' := by
 go_enter Tryz.func194, Tryz.ntmps194
 go_wp2_with (go_at_call 246; (with_reducible refine (t_indexPt Ap m cp base lp Bi A n c l _ hp hm hm2 h hn hn2 hB).mono ?_); rintro e w' ⟨i, rfl, hi, hb⟩; have HI := zz (And.intro hi hb); clear hi hb)
 go_ret
 exact ⟨pret_bool HI.out.1, HI.out.2⟩
theorem two_below {w w1 : World} {a b : Obj} (h : Below ((w.alloc a).alloc b).heap.size ((w.alloc a).alloc b) w1) : Below w.heap.size w w1 :=
 ptrans (((Below.refl _ _).alloc (Nat.le_refl _) _).alloc (by rw [World.alloc_size']; omega) _) h
theorem partsL_len (r : R) : (partsL r).length ≤ 9 := by
 unfold partsL
 repeat (split <;> try simp)
set_option maxRecDepth 100000 in
set_option maxHeartbeats 4000000 in
theorem t_writes (r : R) (hr : RecOk r) (A : Option Addr) (n c : Nat) (l : List Int) (w : World) (h : InosAt w A l) (hn : l.length = n) (hn2 : n ≤ 60000) :
  Calls Tryz.prog 149 #[r.val, .slice A n c] w fun e w' => e = .returned (.bool (writesB r l)) ∧ Below w.heap.size w w' := by
 have hpt := fun w => t_parts r hr.1 hr.2.1 hr.2.2.1 w
 unfold R.val at hpt ⊢
 have H := zz h
 clear h
 go_enter Tryz.func149, Tryz.ntmps149
 go_wp2_with (first
  | (go_at_call 55; (with_reducible refine (hpt _).mono ?_); rintro e w1 ⟨v, rfl, ho, hb⟩; obtain ⟨Ap, cp, rfl⟩ := row_slice ho; have HO := zz ho; have HB := zz hb; clear ho hb)
  | (go_at_call 194; (with_reducible refine (t_containsPt Ap _ cp _ (partsL r) (w.heap.size + 1) A n c l _ HO.out rfl (Nat.le_trans (partsL_len r) (by decide)) (H.out.below (two_below HB.out)) hn hn2 ((HB.out.block _ (by simp)).trans (new_at _ _ _ (by simp)))).mono ?_); rintro e w2 ⟨rfl, hb⟩; have HB2 := zz hb; clear hb))
 go_ret
 exact ⟨rfl, ptrans (two_below HB.out) HB2.out⟩
end

section
open Go.RowKit Go.Maps
structure Stays (K : Nat → Prop) (W W' : World) : Prop where
 os : W'.os = W.os
 tape : W'.tape = W.tape
 output : W'.output = W.output
 size : W.heap.size ≤ W'.heap.size
 old : ∀ b, K b → W'.heap[b]? = W.heap[b]?
abbrev StaysB (K : Nat → Prop) (B : Nat) (W W' : World) : Prop := Stays (fun b => K b ∧ b ≠ B) W W'
theorem Stays.refl' (K : Nat → Prop) (w : World) : Stays K w w := ⟨rfl, rfl, rfl, Nat.le_refl _, fun _ _ => rfl⟩
theorem Stays.trans' {K : Nat → Prop} {a b c : World} (h : Stays K a b) (k : Stays K b c) : Stays K a c :=
 ⟨k.os.trans h.os, k.tape.trans h.tape, k.output.trans h.output, Nat.le_trans h.size k.size, fun b h1 => (k.old b h1).trans (h.old b h1)⟩
theorem Stays.below' {K : Nat → Prop} {a b : World} (h : Below a.heap.size a b) (hG : ∀ b, K b → b < a.heap.size) : Stays K a b := ⟨h.os, h.tape, h.output, h.size, fun b h1 => h.block b (hG b h1)⟩
theorem Stays.belowB {K : Nat → Prop} {B : Nat} {a b : World} (h : Below a.heap.size a b) (hG : ∀ b, K b → b < a.heap.size) : StaysB K B a b := Stays.below' h fun b hb => hG b hb.1
theorem Stays.wide {K : Nat → Prop} {B : Nat} {a b : World} (h : Stays K a b) : StaysB K B a b := ⟨h.os, h.tape, h.output, h.size, fun b h1 => h.old b h1.1⟩
def OwnK (w : World) (K : Nat → Prop) (v : Value) (n : Nat) (l : List Nat) : Prop := w.ownsRow 0 3 1 v n (natV l) ∧ ∀ q, v.ownBlock = some q → ¬ K q
def WRow (w : World) (K : Nat → Prop) (v : Value) (n : Nat) (l : List Nat) : Prop := OwnK w K v n l ∨ (l = [] ∧ n = 0 ∧ ∃ b, v = .slice (some b) 0 0)
structure WantAt (w : World) (K : Nat → Prop) (Bw : Nat) (l : List Nat) : Prop where
 row : ∃ A c, w.heap[Bw]? = some (.cells #[.slice A l.length c] 199 (0, 0)) ∧ WRow w K (.slice A l.length c) l.length l
 lt : K Bw
theorem OwnK.below {w w' : World} {K : Nat → Prop} {v : Value} {n : Nat} {l : List Nat} (h : OwnK w K v n l) (hb : Below w.heap.size w w') : OwnK w' K v n l := ⟨row_below h.1 hb, h.2⟩
theorem WantAt.pos {w : World} {K : Nat → Prop} {Bw : Nat} {l : List Nat} (h : WantAt w K Bw l) (hl : 0 < l.length) : ∃ A c, w.heap[Bw]? = some (.cells #[.slice A l.length c] 199 (0, 0)) ∧ OwnK w K (.slice A l.length c) l.length l := by
 obtain ⟨A, c, h1, h2⟩ := h.row
 rcases h2 with h2 | ⟨h2, _⟩
 · exact ⟨A, c, h1, h2⟩
 · rw [h2] at hl
   exact absurd hl (by simp)
abbrev wantI (Bw : Nat) : Value := .iface 198 (.pointer (some ⟨Bw, 0, none⟩))
theorem methLess0 (Bw : Nat) (w : World) :
  Sem.run Tryz.prog (method 397 198 (.pointer (some ⟨Bw, 0, none⟩)) "Less") w = Sem.run Tryz.prog (do let v ← loadVar 199 ⟨Bw, 0, none⟩; pure (282, v)) w := by kernel_rfl
theorem methSwap0 (Bw : Nat) (w : World) :
  Sem.run Tryz.prog (method 397 198 (.pointer (some ⟨Bw, 0, none⟩)) "Swap") w = Sem.run Tryz.prog (do let v ← loadVar 199 ⟨Bw, 0, none⟩; pure (285, v)) w := by kernel_rfl
theorem methLen0 (Bw : Nat) (w : World) :
  Sem.run Tryz.prog (method 397 198 (.pointer (some ⟨Bw, 0, none⟩)) "Len") w = Sem.run Tryz.prog (do let v ← loadVar 199 ⟨Bw, 0, none⟩; pure (150, v)) w := by kernel_rfl
theorem methLess (Bw : Nat) (v : Value) (w : World) (h : w.cell? ⟨Bw, 0, none⟩ = some v) :
  Sem.run Tryz.prog (method 397 198 (.pointer (some ⟨Bw, 0, none⟩)) "Less") w = .ok (282, v) w := by
 rw [methLess0]
 simp [go_sem, h]
theorem methSwap (Bw : Nat) (v : Value) (w : World) (h : w.cell? ⟨Bw, 0, none⟩ = some v) :
  Sem.run Tryz.prog (method 397 198 (.pointer (some ⟨Bw, 0, none⟩)) "Swap") w = .ok (285, v) w := by
 rw [methSwap0]
 simp [go_sem, h]
theorem methLen (Bw : Nat) (v : Value) (w : World) (h : w.cell? ⟨Bw, 0, none⟩ = some v) :
  Sem.run Tryz.prog (method 397 198 (.pointer (some ⟨Bw, 0, none⟩)) "Len") w = .ok (150, v) w := by
 rw [methLen0]
 simp [go_sem, h]
theorem nat_cell {w : World} {K : Nat → Prop} {n c k : Nat} {A : Option Addr} {l : List Nat} (h : OwnK w K (.slice A n c) n l) (hk : k < n) :
  ∃ g, A = some ⟨g, 0, none⟩ ∧ ¬ K g ∧ ∃ x : Nat, l[k]? = some x ∧ w.cell? ⟨g, k, none⟩ = some (.int .i64 (x : Int)) ∧ w.frozen? ⟨g, k, none⟩ = false := by
 obtain ⟨g, hg⟩ : ∃ g, A = some ⟨g, 0, none⟩ := by
  rcases h.1.2 with ⟨h', h0⟩ | ⟨g', cap', cur, h', _⟩
  · omega
  · simp only [Value.slice.injEq] at h'
    exact ⟨g', h'.1⟩
 subst hg
 have hl : l.length = n := by have := h.1.1; simpa [natV] using this
 refine ⟨g, rfl, h.2 g rfl, l[k]'(by omega), List.getElem?_eq_getElem _, ?_, ?_⟩
 · rw [h.1.cellAt k (by omega)]
   simp [natV, show k < l.length by omega]
 · exact h.1.frozenAt _
theorem below_drewN2 (w : World) (q : Nat) : Below w.heap.size w (w.drewN q) := ⟨rfl, rfl, rfl, Nat.le_refl _, fun _ _ => rfl⟩
theorem i_isNaN (x : Int) (w : World) : Calls Tryz.prog 251 #[.int .i64 x] w fun e w' => e = .returned (.bool false) ∧ w = w' := by
 go_enter Tryz.func251, Tryz.ntmps251
 go_wp2
 go_ret
 exact ⟨rfl, rfl⟩
theorem i_less (x y : Int) (w : World) : Calls Tryz.prog 204 #[.int .i64 x, .int .i64 y] w fun e w' => e = .returned (.bool (decide (x < y))) ∧ w = w' := by
 go_enter Tryz.func204, Tryz.ntmps204
 go_wp2_with (go_at_call 251; refine (i_isNaN _ _).mono ?_; rintro e w' ⟨rfl, rfl⟩)
 go_ret
 exact ⟨rfl, rfl⟩
set_option maxRecDepth 100000 in
set_option maxHeartbeats 4000000 in
theorem t_wLess (K : Nat → Prop) (n c : Nat) (A : Option Addr) (l : List Nat) (i k : Nat) (w : World) (h : OwnK w K (.slice A n c) n l) (hi : i < n) (hk : k < n) (_hn : n ≤ 60000) :
  Calls Tryz.prog 282 #[.slice A n c, .int .i64 (i : Int), .int .i64 (k : Int)] w fun e w' => (∃ b, e = .returned (.bool b)) ∧ Below w.heap.size w w' := by
 obtain ⟨g, rfl, hg, x, hx, cx, fx⟩ := nat_cell h hi
 obtain ⟨_, hgg, _, y, hy, cy, fy⟩ := nat_cell h hk
 cases hgg
 clear h hx hy fx fy
 have hi2 : (i : Int) < (n : Int) := by omega
 have hk2 : (k : Int) < (n : Int) := by omega
 go_enter Tryz.func282, Tryz.ntmps282
 go_wp2
 go_quiet ((go_at_call 204; exact quiet_eq (i_less _ _ _)))
 go_wp2
 go_ret
 exact ⟨⟨_, rfl⟩, below_drewN2 _ _⟩
theorem natV_set (l : List Nat) (i x : Nat) : natV (l.set i x) = (natV l).set i (.int .i64 (x : Int)) := by
 unfold natV
 rw [List.map_set]
theorem set2_perm {α : Type} : ∀ (l : List α) (i k : Nat) (x y : α), i < k → l[i]? = some x → l[k]? = some y → ((l.set i y).set k x).Perm l
 | [], _, _, _, _, _, h, _ => by simp at h
 | a :: l, 0, k + 1, x, y, _, hx, hy => by
  simp only [List.getElem?_cons_zero, Option.some.injEq, List.getElem?_cons_succ] at hx hy
  subst hx
  simp only [List.set_cons_zero, List.set_cons_succ]
  induction l generalizing k with
  | nil => simp at hy
  | cons b l ih =>
   cases k with
   | zero =>
    simp only [List.getElem?_cons_zero, Option.some.injEq] at hy
    subst hy
    simp only [List.set_cons_zero]
    exact List.Perm.swap _ _ _
   | succ k =>
    simp only [List.getElem?_cons_succ] at hy
    simp only [List.set_cons_succ]
    exact (List.Perm.swap _ _ _).trans (((ih k (by omega) hy).cons b).trans (List.Perm.swap _ _ _))
 | a :: l, i + 1, k + 1, x, y, h, hx, hy => by
  simp only [List.getElem?_cons_succ] at hx hy
  simp only [List.set_cons_succ]
  exact (set2_perm l i k x y (by omega) hx hy).cons a
theorem swap_perm {α : Type} (l : List α) (i k : Nat) (x y : α) (hx : l[i]? = some x) (hy : l[k]? = some y) : ((l.set i y).set k x).Perm l := by
 rcases Nat.lt_trichotomy i k with h | h | h
 · exact set2_perm l i k x y h hx hy
 · subst h
   rw [hx] at hy
   cases hy
   rw [List.set_set]
   have : l.set i x = l := by
    obtain ⟨hl, e⟩ := List.getElem?_eq_some_iff.1 hx
    rw [← e]
    exact List.set_getElem_self hl
   rw [this]
 · rw [List.set_comm _ _ (by omega)]
   exact set2_perm l k i y x h hy hx
set_option maxRecDepth 100000 in
set_option maxHeartbeats 4000000 in
theorem t_wSwap (K : Nat → Prop) (n c : Nat) (A : Option Addr) (l : List Nat) (i k : Nat) (w : World) (h : OwnK w K (.slice A n c) n l) (hi : i < n) (hk : k < n) (_hn : n ≤ 60000) :
  Calls Tryz.prog 285 #[.slice A n c, .int .i64 (i : Int), .int .i64 (k : Int)] w fun e w' => e = .returned (.tuple #[]) ∧ ∃ l', l'.Perm l ∧ OwnK w' K (.slice A n c) n l' ∧ Stays K w w' := by
 obtain ⟨g, rfl, hg, x, hx, cx, fx⟩ := nat_cell h hi
 obtain ⟨_, hgg, _, y, hy, cy, fy⟩ := nat_cell h hk
 cases hgg
 have s1 := (h.1.stored i (.int .i64 (y : Int))).1
 rw [← natV_set] at s1
 obtain ⟨_, hgg, _, z, hz, cz, fz⟩ := nat_cell (K := K) ⟨s1, h.2⟩ hk
 cases hgg
 have s2 := (s1.stored k (.int .i64 (x : Int))).1
 rw [← natV_set] at s2
 have HP : Hid (((l.set i y).set k x).Perm l ∧ OwnK _ K _ n ((l.set i y).set k x)) := ⟨swap_perm l i k x y hx hy, s2, h.2⟩
 have HO : Hid (∀ q, Stays K w (((w.setCell ⟨g, i, none⟩ (.int .i64 (y : Int))).setCell ⟨g, k, none⟩ (.int .i64 (x : Int))).drewN q)) := fun q =>
  ⟨rfl, rfl, rfl, by simp, fun b hb => (heap_setCell_other _ ⟨g, k, none⟩ b _ (fun e => hg ((show b = g from e) ▸ hb))).trans (heap_setCell_other _ ⟨g, i, none⟩ b _ (fun e => hg ((show b = g from e) ▸ hb)))⟩
 clear h hx hy hz s1 s2
 have hi2 : (i : Int) < (n : Int) := by omega
 have hk2 : (k : Int) < (n : Int) := by omega
 go_enter Tryz.func285, Tryz.ntmps285
 go_wp2
 go_region
 all_goals go_wp2
 go_end0
 exact ⟨rfl, _, HP.out.1, HP.out.2, HO.out 1⟩
theorem WantAt.same {w w' : World} {K : Nat → Prop} {Bw : Nat} {l : List Nat} (h : WantAt w K Bw l) (hb : Below w.heap.size w w') : WantAt w' K Bw l := by
 obtain ⟨A, c, h1, h2⟩ := h.row
 exact ⟨⟨A, c, (hb.block _ (lt_heap h1)).trans h1, h2.elim (fun h2 => .inl (h2.below hb)) .inr⟩, h.lt⟩
theorem par_arith (i : Nat) : ∃ p : Nat, ((i : Int) - 1).tdiv 2 = (p : Int) ∧ (p < i ∨ (i = 0 ∧ p = 0)) := by
 rcases Nat.eq_zero_or_pos i with h0 | h0
 · subst h0
   exact ⟨0, by decide, .inr ⟨rfl, rfl⟩⟩
 · refine ⟨(i - 1) / 2, ?_, .inl (by omega)⟩
   rw [show (i : Int) - 1 = ((i - 1 : Nat) : Int) by omega]
   rw [Int.tdiv_eq_ediv_of_nonneg (by omega)]
   omega
set_option maxRecDepth 100000 in
set_option maxHeartbeats 4000000 in
theorem t_up (K : Nat → Prop) (Bw : Nat) (l : List Nat) (j : Nat) (w : World) (h : WantAt w K Bw l) (hj : j < l.length) (hn : l.length ≤ 60000) (hG : ∀ b, K b → b < w.heap.size) :
  Calls Tryz.prog 193 #[wantI Bw, .int .i64 (j : Int)] w fun e w' => e = .returned (.tuple #[]) ∧ ∃ l', l'.Perm l ∧ WantAt w' K Bw l' ∧ StaysB K Bw w w' := by
 have HH := zz h
 have hlt := h.lt
 clear h
 obtain ⟨n, hnn⟩ : ∃ n, n = l.length := ⟨_, rfl⟩
 rw [← hnn] at hj hn
 have HN := zz hnn
 clear hnn
 go_enter Tryz.func193, Tryz.ntmps193
 go_wp2
 go_loopw [1] (fun x wr => ∃ (i : Nat) (l' : List Nat), x = .int .i64 (i : Int) ∧ i < n ∧ Hid (l'.Perm l ∧ WantAt wr K Bw l' ∧ StaysB K Bw w wr)) (fun x _ => (intOf x).toNat)
 case atStart => exact ⟨j, l, rfl, hj, List.Perm.refl _, HH.out, Stays.refl' _ _⟩
 case round =>
  obtain ⟨i, l', rfl, hi, HI⟩ := hrel
  have hl' : l'.length = n := HI.out.1.length_eq.trans HN.out.symm
  obtain ⟨A, c, k1, k2⟩ := HI.out.2.1.pos (by omega)
  rw [hl'] at k1 k2
  have HK := zz k2
  have HK1 := zz k1
  have cW := box_cell k1
  clear k1 k2
  obtain ⟨p, hp, hpi⟩ := par_arith i
  have hw1 : wrap64 ((i : Int) - 1) = (i : Int) - 1 := by unfold wrap64; omega
  rcases hpi with hpi | ⟨rfl, rfl⟩
  · have hne : ((p : Int) == (i : Int)) = false := by simp; omega
    have hpn : p < n := by omega
    go_wp2
    rw [methLess _ _ _ cW]
    go_wp2_with (go_at_call 282; (with_reducible refine (t_wLess K n c A l' i p wr HK.out hi hpn hn).mono ?_); rintro e w1 ⟨⟨b, rfl⟩, hb⟩)
    · have HW := zz (And.intro (HI.out.2.1.same hb) (HI.out.2.2.trans' (Stays.belowB hb (fun b hb => Nat.lt_of_lt_of_le (hG b hb) HI.out.2.2.size))))
      go_end0
      exact ⟨rfl, l', HI.out.1, HW.out.1, HW.out.2⟩
    · have hb1 : Hid (w1.heap[Bw]? = some (.cells #[.slice A n c] 199 (0, 0))) := (hb.block _ (lt_heap HK1.out)).trans HK1.out
      have HW2 := zz (HI.out.2.2.trans' (Stays.belowB hb (fun b hb => Nat.lt_of_lt_of_le (hG b hb) HI.out.2.2.size)))
      have HK2 := zz (HK.out.below hb)
      clear hb
      rw [methSwap _ _ _ (box_cell hb1.out)]
      go_wp2_with (go_at_call 285; (with_reducible refine (t_wSwap K n c A l' p i w1 HK2.out hpn hi hn).mono ?_); rintro e w2 ⟨rfl, l2, h1, h2, h3⟩; have HS := zz (And.intro h1 (And.intro h2 h3)); clear h1 h2 h3)
      go_roundw
      case rel =>
       refine ⟨p, l2, rfl, hpn, HS.out.1.trans HI.out.1, ⟨⟨A, c, ?_, ?_⟩, hlt⟩, HW2.out.trans' HS.out.2.2.wide⟩
       · rw [HS.out.1.length_eq, hl']
         exact (HS.out.2.2.old _ hlt).trans hb1.out
       · rw [HS.out.1.length_eq, hl']
         exact .inl HS.out.2.1
      case measure => simp only [intOf]; omega
  · go_wp2
    go_end0
    exact ⟨rfl, l', HI.out.1, HI.out.2.1, HI.out.2.2⟩
set_option maxRecDepth 100000 in
set_option maxHeartbeats 4000000 in
theorem t_down (K : Nat → Prop) (Bw : Nat) (l : List Nat) (m : Nat) (w : World) (h : WantAt w K Bw l) (hm : m < l.length) (hn : l.length ≤ 60000) (hG : ∀ b, K b → b < w.heap.size) :
  Calls Tryz.prog 197 #[wantI Bw, .int .i64 0, .int .i64 (m : Int)] w fun e w' => (∃ v : Value, e = .returned v) ∧ ∃ l', l'.Perm l ∧ WantAt w' K Bw l' ∧ StaysB K Bw w w' := by
 have HH := zz h
 have hlt := h.lt
 clear h
 obtain ⟨n, hnn⟩ : ∃ n, n = l.length := ⟨_, rfl⟩
 rw [← hnn] at hm hn
 have HN := zz hnn
 clear hnn
 go_enter Tryz.func197, Tryz.ntmps197
 go_wp2
 go_loopw [7] (fun x wr => ∃ (i : Nat) (l' : List Nat), x = .int .i64 (i : Int) ∧ i ≤ m ∧ Hid (l'.Perm l ∧ WantAt wr K Bw l' ∧ StaysB K Bw w wr)) (fun x _ => m - (intOf x).toNat)
 case atStart => exact ⟨0, l, rfl, Nat.zero_le _, List.Perm.refl _, HH.out, Stays.refl' _ _⟩
 case round =>
  obtain ⟨i, l', rfl, hi, HI⟩ := hrel
  have hl' : l'.length = n := HI.out.1.length_eq.trans HN.out.symm
  obtain ⟨A, c, k1, k2⟩ := HI.out.2.1.pos (by omega)
  rw [hl'] at k1 k2
  have HK := zz k2
  have HK1 := zz k1
  have cW := box_cell k1
  clear k1 k2
  have hi5 : i < n := by omega
  have HEND : Hid (∀ (x : Int) (w1 : World), (i : Int) < x → x < (m : Int) → Below wr.heap.size wr w1 → Calls Tryz.prog 285 #[.slice A n c, .int .i64 (i : Int), .int .i64 x] w1 fun e w2 => e = .returned (.tuple #[]) ∧ ∃ l2, l2.Perm l ∧ WantAt w2 K Bw l2 ∧ StaysB K Bw w w2) := fun x w1 hx1 hx2 hb => by
   obtain ⟨j, rfl⟩ := Int.eq_ofNat_of_zero_le (show 0 ≤ x by omega)
   refine (t_wSwap K n c A l' i j w1 (HK.out.below hb) hi5 (by omega) hn).mono ?_
   rintro e w2 ⟨rfl, l2, h1, h2, h3⟩
   have hb1 : w1.heap[Bw]? = some (.cells #[.slice A n c] 199 (0, 0)) := (hb.block _ (lt_heap HK1.out)).trans HK1.out
   refine ⟨rfl, l2, h1.trans HI.out.1, ⟨⟨A, c, ?_, ?_⟩, hlt⟩, (HI.out.2.2.trans' (Stays.belowB hb (fun b hb => Nat.lt_of_lt_of_le (hG b hb) HI.out.2.2.size))).trans' h3.wide⟩
   · rw [h1.length_eq, hl']
     exact (h3.old _ hlt).trans hb1
   · rw [h1.length_eq, hl']
     exact .inl h2
  have HOUT : Hid (∀ w1, Below wr.heap.size wr w1 → WantAt w1 K Bw l' ∧ StaysB K Bw w w1) := fun w1 hb => ⟨HI.out.2.1.same hb, HI.out.2.2.trans' (Stays.belowB hb (fun b hb => Nat.lt_of_lt_of_le (hG b hb) HI.out.2.2.size))⟩
  have HCW : Hid (∀ w1, Below wr.heap.size wr w1 → w1.cell? ⟨Bw, 0, none⟩ = some (.slice A n c)) := fun w1 hb => box_cell ((hb.block _ (lt_heap HK1.out)).trans HK1.out)
  have HLS : Hid (∀ (x y : Int) (w1 : World), Below wr.heap.size wr w1 → 0 ≤ x → x < n → 0 ≤ y → y < n → Calls Tryz.prog 282 #[.slice A n c, .int .i64 x, .int .i64 y] w1 fun e w2 => (∃ b, e = .returned (.bool b)) ∧ Below wr.heap.size wr w2) := fun x y w1 hb h1 h2 h3 h4 => by
   obtain ⟨x, rfl⟩ := Int.eq_ofNat_of_zero_le h1
   obtain ⟨y, rfl⟩ := Int.eq_ofNat_of_zero_le h3
   exact (t_wLess K n c A l' x y w1 (HK.out.below hb) (by omega) (by omega) hn).mono fun e w2 h => ⟨h.1, ptrans hb h.2⟩
  by_cases hj1 : 2 * i + 1 < m
  · by_cases hj2 : 2 * i + 2 < m
    · go_wp2
      rw [methLess _ _ _ cW]
      go_wp2_with (go_at_call 282; (with_reducible refine (HLS.out _ _ _ (Below.refl _ _) (by omega) (by omega) (by omega) (by omega)).mono ?_); rintro e w1 ⟨⟨b, rfl⟩, hb⟩; have HB := zz hb; clear hb)
      all_goals
       rw [methLess _ _ _ (HCW.out _ HB.out)]
       go_wp2_with (go_at_call 282; (with_reducible refine (HLS.out _ _ _ HB.out (by omega) (by omega) (by omega) (by omega)).mono ?_); rintro e w2 ⟨⟨b2, rfl⟩, hb⟩; have HB2 := zz hb; clear hb)
      · go_ret
        exact ⟨⟨_, rfl⟩, l', HI.out.1, HOUT.out _ HB2.out⟩
      · rw [methSwap _ _ _ (HCW.out _ HB2.out)]
        go_wp2_with (go_at_call 285; (with_reducible refine (HEND.out _ _ (by omega) (by omega) HB2.out).mono ?_); rintro e w3 ⟨rfl, l2, h1, h2, h3⟩; have HS := zz (And.intro h1 (And.intro h2 h3)); clear h1 h2 h3)
        go_roundw
        case rel => first | exact ⟨2 * i + 1, l2, rfl, by omega, HS.out⟩ | exact ⟨2 * i + 2, l2, rfl, by omega, HS.out⟩
        case measure => simp only [intOf]; omega
      · go_ret
        exact ⟨⟨_, rfl⟩, l', HI.out.1, HOUT.out _ HB2.out⟩
      · rw [methSwap _ _ _ (HCW.out _ HB2.out)]
        go_wp2_with (go_at_call 285; (with_reducible refine (HEND.out _ _ (by omega) (by omega) HB2.out).mono ?_); rintro e w3 ⟨rfl, l2, h1, h2, h3⟩; have HS := zz (And.intro h1 (And.intro h2 h3)); clear h1 h2 h3)
        go_roundw
        case rel => first | exact ⟨2 * i + 1, l2, rfl, by omega, HS.out⟩ | exact ⟨2 * i + 2, l2, rfl, by omega, HS.out⟩
        case measure => simp only [intOf]; omega
    · go_wp2
      rw [methLess _ _ _ cW]
      go_wp2_with (go_at_call 282; (with_reducible refine (HLS.out _ _ _ (Below.refl _ _) (by omega) (by omega) (by omega) (by omega)).mono ?_); rintro e w1 ⟨⟨b, rfl⟩, hb⟩; have HB := zz hb; clear hb)
      · go_ret
        exact ⟨⟨_, rfl⟩, l', HI.out.1, HOUT.out _ HB.out⟩
      · rw [methSwap _ _ _ (HCW.out _ HB.out)]
        go_wp2_with (go_at_call 285; (with_reducible refine (HEND.out _ _ (by omega) (by omega) HB.out).mono ?_); rintro e w3 ⟨rfl, l2, h1, h2, h3⟩; have HS := zz (And.intro h1 (And.intro h2 h3)); clear h1 h2 h3)
        go_roundw
        case rel => first | exact ⟨2 * i + 1, l2, rfl, by omega, HS.out⟩ | exact ⟨2 * i + 2, l2, rfl, by omega, HS.out⟩
        case measure => simp only [intOf]; omega
  · go_wp2
    go_ret
    exact ⟨⟨_, rfl⟩, l', HI.out.1, HI.out.2.1, HI.out.2.2⟩
theorem box_frozen {W : World} {B : Nat} {v : Value} {T : TypeId} (h : W.heap[B]? = some (.cells #[v] T (0, 0))) : W.frozen? ⟨B, 0, none⟩ = false := by simp only [World.frozen?, h]; rfl
theorem row_cap {w : World} {G n c : Nat} {A : Option Addr} {e : TypeId} {sz : Nat} {xs : List Value} (h : w.ownsRow G e sz (.slice A n c) n xs) : n ≤ c := by
 rcases h.2 with ⟨h', h0⟩ | ⟨g', cap', cur, h', _, _, h1, _⟩
 · omega
 · simp only [Value.slice.injEq] at h'
   omega
theorem append_empty (ty : Nat) (w : World) (b : Addr) (q : Nat) (x : Nat) (hq : w.heap[q]? = some (.cells #[.int .i64 (x : Int)] 3 (0, 0))) :
  (Builtin.append_ #[199, 199] ty #[.slice (some b) 0 0, .slice (some ⟨q, 0, none⟩) 1 1]).run Tryz.prog w = (Builtin.append_ #[199, 199] ty #[.slice none 0 0, .slice (some ⟨q, 0, none⟩) 1 1]).run Tryz.prog w := by
 obtain ⟨i0, hi, hz0, hz1, hz2⟩ := infoI
 have hn : ∀ (j : Nat) (v : Value), [Value.int .i64 (x : Int)][j]? = some v → w.cell? ((⟨q, 0, none⟩ : Addr).add j) = some v := fun j u hu => by
  rw [Addr.add_mid, Nat.zero_add]
  simp only [World.cell?, hq]
  simpa using hu
 have e1 : Builtin.nextslicecap 1 0 * i0.bytes ≤ 281474976710656 := by rw [hz2]; decide
 have r1 := run_append_grow (P := Tryz.prog) w 199 ty 3 i0 _ Tryz.underlying199 hi hz0 b 0 0 [] (by simp) (by intro j v hj; simp at hj) ⟨q, 0, none⟩ 1 1 [.int .i64 (x : Int)] (by rw [hz1]; rfl) hn (by decide) (by decide) (by simpa using e1)
 have r2 := run_append_nil (P := Tryz.prog) w 199 ty 3 i0 _ Tryz.underlying199 hi hz0 ⟨q, 0, none⟩ 1 1 [.int .i64 (x : Int)] (by rw [hz1]; rfl) hn (by decide) (by decide) (by rw [hz2]; decide)
 rw [r1, r2]
 simp
theorem run_append_want (K : Nat → Prop) (ty : Nat) (w : World) (v : Value) (l : List Nat) (n : Nat) (hn : l.length = n) (hown : WRow w K v n l) (q : Nat) (x : Nat) (hq : w.heap[q]? = some (.cells #[.int .i64 (x : Int)] 3 (0, 0)))
  (hl : n ≤ 100000) (hK : ∀ b, K b → b < w.heap.size) :
  ∃ v' w' row, (Builtin.append_ #[199, 199] ty #[v, .slice (some ⟨q, 0, none⟩) 1 1]).run Tryz.prog w = .ok v' w' ∧ OwnK w' K v' (n + 1) (l ++ [x]) ∧ w.grownBy w' row ∧ ∀ b, row = some b → ¬ K b := by
 have main : ∀ v, OwnK w K v n l → ∃ v' w' row, (Builtin.append_ #[199, 199] ty #[v, .slice (some ⟨q, 0, none⟩) 1 1]).run Tryz.prog w = .ok v' w' ∧ OwnK w' K v' (n + 1) (l ++ [x]) ∧ w.grownBy w' row ∧ ∀ b, row = some b → ¬ K b := fun v hown => by
  subst hn
  obtain ⟨i0, hi, hz0, hz1, hz2⟩ := infoI
  obtain ⟨v', w', hrun, h2, h3, _, h5⟩ := run_append_own_at (P := Tryz.prog) w 0 199 ty 3 i0 _ 1 8 Tryz.underlying199 hi hz0 hz1 hz2 rfl (by decide) v l.length (natV l) hown.1 ⟨q, 0, none⟩ 1 1 [.int .i64 (x : Int)]
   rfl (fun j u hu => by
    rw [Addr.add_mid, Nat.zero_add]
    simp only [World.cell?, hq]
    simpa using hu) (by simp [Value.oneCell']) (by unfold maxLen; omega) (by omega) (Nat.zero_le _)
  refine ⟨v', w', v.ownBlock, hrun, ⟨by unfold natV at h2 ⊢; rw [List.map_append]; exact h2, fun q' hq' => ?_⟩, h3, hown.2⟩
  rcases h5 with h5 | h5
  · exact hown.2 q' (h5 ▸ hq')
  · rw [hq'] at h5
    intro hk
    have := hK q' hk
    have := Option.some.inj h5
    omega
 rcases hown with hown | ⟨rfl, rfl, b, rfl⟩
 · exact main v hown
 · obtain ⟨v', w', row, h1, h2⟩ := main (.slice none 0 0) ⟨World.ownsRow_nil _ _ _ _, fun q hq => by cases hq⟩
   exact ⟨v', w', row, (append_empty ty w b q x hq).trans h1, h2⟩
theorem step_append_want {ops : Array Oper} {o : Oper} {a : Act} {w : World} {K : Act → World → Prop} {Q : Exit → Act → World → Prop} {E : Prop} (hgd : o.guard = none) (s x : Operand)
  (ho : o.op = .call { callee := .builtin .append, args := #[s, x], argTypes := #[199, 199] })
  (K0 : Nat → Prop) (v : Value) (l : List Nat) (n k : Nat) (hn : l.length = n) (hk : n + 1 = k) (hs : a.eval s = v) (hown : WRow w K0 v n l) (q p : Nat) (hx : a.eval x = .slice (some ⟨q, 0, none⟩) 1 1)
  (hq : w.heap[q]? = some (.cells #[.int .i64 (p : Int)] 3 (0, 0))) (hl : n ≤ 100000) (hbase : ∀ b, K0 b → b < w.heap.size)
  (h : ∀ A1 c1 w', OwnK w' K0 (.slice A1 k c1) k (l ++ [p]) → (∃ row, w.grownBy w' row ∧ ∀ b, row = some b → ¬ K0 b) → K (a.put o.dst (.slice A1 k c1)) w') :
  if Region.wanted o (yielded ops a.tmps) = true then Oper.wp Tryz.prog o a w K Q else E := by
 have hw : Region.wanted o (yielded ops a.tmps) = true := by simp [Region.wanted, hgd]
 rw [if_pos hw]
 subst hk
 obtain ⟨v', w', row, hrun, h2, h3⟩ := run_append_want K0 o.type w v l n hn hown q p hq hl hbase
 unfold Oper.wp execOp
 simp only [ho, resolve, invoke, builtin, Sem.run_bind, Sem.run_pure, Result.andThen_ok, List.map_toArray, List.map_cons, List.map_nil, hs, hx, hrun]
 obtain ⟨A1, c1, rfl⟩ := row_slice h2.1
 exact h A1 c1 w' h2 ⟨row, h3⟩
theorem want_grow {w w' : World} {Bw : Nat} {K : Nat → Prop} {v : Value} {A : Obj} {row : Option Nat} (hB : w.heap[Bw]? = some (.cells #[v] 199 (0, 0))) (hv : ∀ b, row = some b → ¬ K b) (hBG : K Bw) (hG : ∀ b, K b → b < w.heap.size)
  (hg : (w.alloc A).grownBy w' row) : w'.heap[Bw]? = some (.cells #[v] 199 (0, 0)) ∧ StaysB K Bw w w' := by
 have lB : Bw < w.heap.size := (Array.getElem?_eq_some_iff.1 hB).1
 have hown : ∀ b, K b → some b ≠ row := fun b hb e => hv b e.symm hb
 have hsz : (w.alloc A).heap.size = w.heap.size + 1 := by simp
 have old : ∀ b, b < w.heap.size → (w.alloc A).heap[b]? = w.heap[b]? := fun b hb => heap_alloc_old _ _ hb
 refine ⟨(hg.block Bw (by omega) (hown Bw hBG)).trans ((old Bw lB).trans hB), ⟨hg.os, hg.tape, hg.output, ?_, fun b h1 => (hg.block b (by have := hG b h1.1; omega) (hown b h1.1)).trans (old b (hG b h1.1))⟩⟩
 have := hg.size
 omega
theorem ta_int (x : Int) (w : World) : Sem.run Tryz.prog (Instr.typeAssert (.iface 3 (.int .i64 x)) 20 3 false) w = .ok (.int .i64 x) w := by kernel_rfl
set_option maxRecDepth 100000 in
set_option maxHeartbeats 4000000 in
theorem t_wPush (K : Nat → Prop) (Bw : Nat) (l : List Nat) (x : Nat) (w : World) (h : WantAt w K Bw l) (hn : l.length ≤ 50000) (hG : ∀ b, K b → b < w.heap.size) :
  Calls Tryz.prog 284 #[.pointer (some ⟨Bw, 0, none⟩), .iface 3 (.int .i64 (x : Int))] w fun e w' => e = .returned (.tuple #[]) ∧ WantAt w' K Bw (l ++ [x]) ∧ StaysB K Bw w w' := by
 obtain ⟨A, c, k1, k2⟩ := h.row
 have cW := box_cell k1
 have hlt := h.lt
 have HK := zz k2
 have HK1 := zz k1
 clear k1 k2 h
 have hta := ta_int (x : Int)
 have fW : w.frozen? ⟨Bw, 0, none⟩ = false := box_frozen HK1.out
 go_enter Tryz.func284, Tryz.ntmps284
 go_wp2
 have cA : (w.alloc (.cells #[.int .i64 (x : Int)] 3)).cell? ⟨Bw, 0, none⟩ = some (.slice A l.length c) := box_cell ((heap_alloc_old _ _ (lt_heap HK1.out)).trans HK1.out)
 have fA : (w.alloc (.cells #[.int .i64 (x : Int)] 3)).frozen? ⟨Bw, 0, none⟩ = false := box_frozen ((heap_alloc_old _ _ (lt_heap HK1.out)).trans HK1.out)
 go_region_law
  ((refine step_append_want (by rfl) (.tmp 7) (.tmp 10) (by rfl) K (.slice A l.length c) l l.length (l.length + 1) rfl rfl (by rfl) (HK.out.elim (fun h => .inl ⟨h.1.alloc _, h.2⟩) .inr) w.heap.size x (by rfl) (heap_alloc_new w _) (by omega) (fun b hb => by show b < (w.alloc _).heap.size; rw [World.alloc_size']; have := hG b hb; omega) ?_; intro A1 c1 w' h2 h3; have H2 := zz h2; have HW := zz (want_grow (A := .cells #[.int .i64 (x : Int)] 3) (row := h3.choose) HK1.out h3.choose_spec.2 hlt hG ⟨h3.choose_spec.1.os, h3.choose_spec.1.tape, h3.choose_spec.1.output, h3.choose_spec.1.size, h3.choose_spec.1.block⟩); have cB' := box_cell HW.out.1; have fB' := box_frozen HW.out.1; clear h2 h3))
 all_goals
  go_wp2
  go_end0
  refine ⟨rfl, ⟨⟨A1, c1, ?_, ?_⟩, hlt⟩, ?_⟩
  · rw [pheap_set _ Bw 0 _ _ _ HW.out.1, List.length_append]
    rfl
  · rw [List.length_append]
    exact .inl ⟨H2.out.1.kept (pgrown_set w' Bw 0 _) (by
     cases hvo : (Value.slice A1 (l.length + 1) c1).ownBlock with
     | none => exact .inl rfl
     | some x => exact .inr (fun e => H2.out.2 x hvo (Option.some.inj e ▸ hlt))), H2.out.2⟩
  · have hr := HW.out.2
    have hg := pgrown_set w' Bw 0 (.slice A1 (l.length + 1) c1)
    exact ⟨hg.os.trans hr.os, hg.tape.trans hr.tape, hg.output.trans hr.output, Nat.le_trans hr.size hg.size, fun b h1 => (hg.block b (by have := hr.size; have := hG b h1.1; omega) (fun e => h1.2 (Option.some.inj e))).trans (hr.old b h1)⟩
set_option maxRecDepth 100000 in
set_option maxHeartbeats 4000000 in
theorem t_wPop (K : Nat → Prop) (Bw : Nat) (l : List Nat) (w : World) (h : WantAt w K Bw l) (hn : l.length ≤ 50000) (h0 : 0 < l.length) (hG : ∀ b, K b → b < w.heap.size) :
  Calls Tryz.prog 283 #[.pointer (some ⟨Bw, 0, none⟩)] w fun e w' => ∃ (x : Nat) (l' : List Nat), e = .returned (.iface 3 (.int .i64 (x : Int))) ∧ (x :: l').Perm l ∧ WantAt w' K Bw l' ∧ StaysB K Bw w w' := by
 obtain ⟨A, c, k1, k2⟩ := h.pos h0
 have cW := box_cell k1
 have hlt := h.lt
 obtain ⟨n, hnn⟩ : ∃ n, n + 1 = l.length := ⟨l.length - 1, by omega⟩
 rw [← hnn] at k1 k2 cW hn
 obtain ⟨g, rfl, hg, x, hx, cx, fx⟩ := nat_cell k2 (Nat.lt_succ_self n)
 have HN := zz hnn
 clear hnn
 have HK := zz k2
 have HK1 := zz k1
 have HX := zz hx
 have fW : w.frozen? ⟨Bw, 0, none⟩ = false := box_frozen k1
 have hcc := row_cap k2.1
 have hc1 : (n : Int) ≤ (c : Int) := by omega
 clear k1 k2 h hx h0 hcc
 go_enter Tryz.func283, Tryz.ntmps283
 go_wp2
 go_ret
 have hl : l = l.take n ++ [x] := by
  have h1 := List.take_append_drop n l
  rw [List.drop_eq_getElem_cons (by rw [← HN.out]; omega)] at h1
  have h2 : l.drop (n + 1) = [] := List.drop_of_length_le (by rw [← HN.out]; omega)
  have h3 : l[n]'(by rw [← HN.out]; omega) = x := by
   have h4 := HX.out
   rw [List.getElem?_eq_getElem (by rw [← HN.out]; omega)] at h4
   exact Option.some.inj h4
  rw [h2, h3] at h1
  exact h1.symm
 have hlen : (l.take n).length = n := by rw [List.length_take, ← HN.out]; omega
 have hrow : OwnK (w.setCell ⟨Bw, 0, none⟩ (.slice (some ⟨g, 0, none⟩) n c)) K (.slice (some ⟨g, 0, none⟩) n c) n (l.take n) := by
  refine ⟨?_, HK.out.2⟩
  have h0 := HK.out.1
  rw [hl] at h0
  unfold natV at h0 ⊢
  rw [List.map_append] at h0
  have h1 := ownsRow_pop (size := 1) (by rw [List.length_map, hlen]; omega) h0
  exact h1.kept (pgrown_set w Bw 0 _) (by
   right
   intro e
   have : g = Bw := Option.some.inj e
   exact hg (this ▸ hlt))
 refine ⟨x, l.take n, rfl, ?_, ⟨⟨some ⟨g, 0, none⟩, c, ?_, ?_⟩, hlt⟩, ?_⟩
 · conv => rhs; rw [hl]
   exact (List.perm_append_comm (l₁ := [x]) (l₂ := l.take n))
 · rw [hlen, pheap_set _ Bw 0 _ _ _ HK1.out]
   rfl
 · rw [hlen]
   exact .inl hrow
 · have hg := pgrown_set w Bw 0 (.slice (some ⟨g, 0, none⟩) n c)
   exact ⟨hg.os, hg.tape, hg.output, hg.size, fun b h1 => hg.block b (hG b h1.1) (fun e => h1.2 (Option.some.inj e))⟩
theorem swapped {w w2 : World} {K : Nat → Prop} {Bw n c : Nat} {A : Option Addr} {l l2 : List Nat} (k1 : w.heap[Bw]? = some (.cells #[.slice A (n + 1) c] 199 (0, 0))) (hn : n + 1 = l.length) (hlt : K Bw)
  (h : l2.Perm l ∧ OwnK w2 K (.slice A (n + 1) c) (n + 1) l2 ∧ Stays K w w2) : WantAt w2 K Bw l2 := by
 refine ⟨⟨A, c, ?_, ?_⟩, hlt⟩
 · rw [h.1.length_eq, ← hn]
   exact (h.2.2.old _ hlt).trans k1
 · rw [h.1.length_eq, ← hn]
   exact .inl h.2.1
theorem t_wLen (A : Option Addr) (n c : Nat) (w : World) : Calls Tryz.prog 150 #[.slice A n c] w fun e w' => e = .returned (.int .i64 (n : Int)) ∧ w = w' := by
 go_enter Tryz.func150, Tryz.ntmps150
 go_wp2
 go_ret
 exact ⟨rfl, rfl⟩
set_option maxRecDepth 100000 in
set_option maxHeartbeats 4000000 in
theorem t_hPush (K : Nat → Prop) (Bw : Nat) (l : List Nat) (x : Nat) (w : World) (h : WantAt w K Bw l) (hn : l.length ≤ 40000) (hG : ∀ b, K b → b < w.heap.size) :
  Calls Tryz.prog 148 #[wantI Bw, .iface 3 (.int .i64 (x : Int))] w fun e w' => e = .returned (.tuple #[]) ∧ ∃ l', l'.Perm (x :: l) ∧ WantAt w' K Bw l' ∧ StaysB K Bw w w' := by
 go_enter Tryz.func148, Tryz.ntmps148
 go_wp2_with (go_at_call 284; (with_reducible refine (t_wPush K Bw l x _ h (by omega) hG).mono ?_); rintro e w1 ⟨rfl, h1, h2⟩; have H1 := zz (And.intro h1 h2); clear h1 h2)
 obtain ⟨A, c, k1, k2⟩ := H1.out.1.row
 rw [show (l ++ [x]).length = l.length + 1 by simp] at k1 k2
 have hlt := H1.out.1.lt
 have hw := H1.out.2.size
 rw [methLen _ _ _ (box_cell k1)]
 clear k1 k2
 go_wp2_with (first
  | (go_at_call 150; (with_reducible refine (t_wLen A _ c _).mono ?_); rintro e w' ⟨rfl, rfl⟩)
  | (go_at_call 193; (with_reducible refine (t_up K Bw (l ++ [x]) l.length w1 H1.out.1 (by simp) (by simp; omega) (fun b hb => Nat.lt_of_lt_of_le (hG b hb) hw)).mono ?_); rintro e w2 ⟨rfl, l2, h1, h2, h3⟩; have H2 := zz (And.intro h1 (And.intro h2 h3)); clear h1 h2 h3))
 go_end0
 exact ⟨rfl, l2, H2.out.1.trans (List.perm_append_comm (l₁ := l) (l₂ := [x])), H2.out.2.1, H1.out.2.trans' H2.out.2.2⟩
set_option maxRecDepth 100000 in
set_option maxHeartbeats 4000000 in
theorem t_hPop (K : Nat → Prop) (Bw : Nat) (l : List Nat) (w : World) (h : WantAt w K Bw l) (hn : l.length ≤ 40000) (h0 : 0 < l.length) (hG : ∀ b, K b → b < w.heap.size) :
  Calls Tryz.prog 151 #[wantI Bw] w fun e w' => ∃ (x : Nat) (l' : List Nat), e = .returned (.iface 3 (.int .i64 (x : Int))) ∧ (x :: l').Perm l ∧ WantAt w' K Bw l' ∧ StaysB K Bw w w' := by
 obtain ⟨A, c, k1, k2⟩ := h.pos h0
 have hlt := h.lt
 obtain ⟨n, hnn⟩ : ∃ n, n + 1 = l.length := ⟨l.length - 1, by omega⟩
 rw [← hnn] at k1 k2 hn
 have cW := box_cell k1
 have HN := zz hnn
 have HK := zz k2
 have HK1 := zz k1
 have HSW : Hid (Calls Tryz.prog 285 #[.slice A (n + 1) c, .int .i64 0, .int .i64 (n : Int)] w fun e w' => e = .returned (.tuple #[]) ∧ ∃ l', l'.Perm l ∧ OwnK w' K (.slice A (n + 1) c) (n + 1) l' ∧ Stays K w w') := t_wSwap K (n + 1) c A l 0 n w HK.out (by omega) (by omega) (by omega)
 clear k1 k2 h h0 hnn
 go_enter Tryz.func151, Tryz.ntmps151
 go_wp2
 rw [methLen _ _ _ cW]
 go_wp2
 rw [methSwap _ _ _ cW]
 go_wp2_with (first
  | (go_at_call 285; (with_reducible refine HSW.out.mono ?_); rintro e w2 ⟨rfl, l2, h1, h2, h3⟩; have HS := zz (And.intro h1 (And.intro h2 h3)); clear h1 h2 h3)
  | (go_at_call 197; (with_reducible refine (t_down K Bw l2 n w2 (swapped HK1.out HN.out hlt HS.out) (by rw [HS.out.1.length_eq, ← HN.out]; omega) (by rw [HS.out.1.length_eq, ← HN.out]; omega) (fun b hb => Nat.lt_of_lt_of_le (hG b hb) HS.out.2.2.size)).mono ?_); rintro e w3 ⟨⟨v3, rfl⟩, l3, h1, h2, h3⟩; have HD := zz (And.intro h1 (And.intro h2 h3)); clear h1 h2 h3)
  | (go_at_call 283; (with_reducible refine (t_wPop K Bw l3 w3 HD.out.2.1 (by rw [HD.out.1.length_eq, HS.out.1.length_eq, ← HN.out]; omega) (by rw [HD.out.1.length_eq, HS.out.1.length_eq, ← HN.out]; omega) (fun b hb => Nat.lt_of_lt_of_le (hG b hb) (Nat.le_trans HS.out.2.2.size HD.out.2.2.size))).mono ?_); rintro e w4 ⟨x, l4, rfl, h1, h2, h3⟩; have HP := zz (And.intro h1 (And.intro h2 h3)); clear h1 h2 h3))
 go_ret
 exact ⟨x, l4, rfl, HP.out.1.trans (HD.out.1.trans HS.out.1), HP.out.2.1, (HS.out.2.2.wide.trans' HD.out.2.2).trans' HP.out.2.2⟩
end
end Go.Proofs.YtogljgiefmfafaaGreat
