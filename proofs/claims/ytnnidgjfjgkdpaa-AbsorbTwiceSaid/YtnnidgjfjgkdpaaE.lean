/- Again. -/
import Derived.Test.YtnnidgjfjgkdpaaD
import Derived.Test.YtnnidgjfjgkdpaaQ
namespace Go.Proofs.Ytnnidgjfjgkdpaa
open Go.RowKit Go.Maps

attribute [local go_sem] Oper.semAt_some


theorem bdn {B : Nat} {a w : World} (h : Below B a w) (n : Nat) : Below B a (w.drewN n) := h.trans ⟨rfl, rfl, rfl, Nat.le_refl _, fun _ _ => rfl⟩

theorem ret_fin {B0 n r : Nat} {w W W1 : World} {u : Value} (hk : KeepsFrom B0 W W1) (hb : Below n w W1) (hr : Boxed W1 r 4 u) (hn : n ≤ r) (v : Value) (q : Nat) :
    KeepsFrom B0 W ((W1.drewN q).setCell ⟨r, 0, none⟩ v) ∧ Boxed ((W1.drewN q).setCell ⟨r, 0, none⟩ v) r 4 v ∧ Below n w ((W1.drewN q).setCell ⟨r, 0, none⟩ v) :=
  ⟨hk.trans (KeepsFrom.trans (Y := W1.drewN q) ⟨Nat.le_refl _, fun _ _ _ h _ => h⟩ ((KeepsOthers.setCell (W1.drewN q) _ _).from _)), Boxed.set (W := W1.drewN q) _ hr, (bdn hb q).setCell (p := ⟨r, 0, none⟩) hn _⟩

/-- Is a page written again, of the records that follow; c: how many pages of the inode have come. -/
def againGo (x : R) : Nat → List R → Bool
  | _, [] => false
  | c, r :: rs =>
    if r.ino ≠ x.ino then againGo x c rs
    else if r.act = 5 ∨ r.act = 7 ∨ r.act = 1 then false
    else if r.act = 6 then
      if c = 0 ∧ x.size < r.size then false
      else if r.page = x.page then true
      else againGo x (c + 1) rs
    else againGo x c rs
/-- Again's answer. -/
def againB (rs : List R) (k : Nat) : Bool :=
  match rs[k]? with
  | some x => if x.act = 6 then againGo x 0 (rs.drop (k + 1)) else false
  | none => false

/-- How many pages of its inode. -/
def cnt (x : R) (pre : List (Nat × R)) : Nat := pre.countP fun y => decide (y.2.ino = x.ino ∧ y.2.act = 6)
theorem cnt_snoc (x : R) (pre : List (Nat × R)) (y : Nat × R) : cnt x (pre ++ [y]) = cnt x pre + if y.2.ino = x.ino ∧ y.2.act = 6 then 1 else 0 := by
  unfold cnt; rw [List.countP_append]; by_cases h : y.2.ino = x.ino ∧ y.2.act = 6 <;> simp [h]
theorem cnt_le (x : R) (pre : List (Nat × R)) : cnt x pre ≤ pre.length := List.countP_le_length
/-- It goes on behind these. -/
def Goes (x : R) (pre : List (Nat × R)) : Prop := ∀ rest, againGo x 0 (pre.map (·.2) ++ rest) = againGo x (cnt x pre) rest
/-- It has ended with these. -/
def Ends (x : R) (pre : List (Nat × R)) : Prop := ∀ rest, againGo x 0 (pre.map (·.2) ++ rest) = againGo x 0 (pre.map (·.2))
theorem Goes.nil (x : R) : Goes x [] := fun _ => rfl
theorem Goes.step {x : R} {pre : List (Nat × R)} (h : Goes x pre) (y : Nat × R) (hy : ∀ rest, againGo x (cnt x pre) (y.2 :: rest) = againGo x (cnt x (pre ++ [y])) rest) : Goes x (pre ++ [y]) := fun rest => by
  rw [List.map_append, List.append_assoc, h]; exact hy rest
theorem Goes.ends {x : R} {pre : List (Nat × R)} (h : Goes x pre) (y : Nat × R) (v : Bool) (hy : ∀ rest, againGo x (cnt x pre) (y.2 :: rest) = v) : againGo x 0 ((pre ++ [y]).map (·.2)) = v ∧ Ends x (pre ++ [y]) := by
  have h1 : ∀ rest, againGo x 0 ((pre ++ [y]).map (·.2) ++ rest) = v := fun rest => by rw [List.map_append, List.append_assoc, h]; exact hy rest
  have h2 := h1 []
  rw [List.append_nil] at h2
  exact ⟨h2, fun rest => by rw [h1, h2]⟩

/-- Block B is a variable that holds a record. -/
def RecBlk (W : World) (B : Nat) (r : R) : Prop := W.heap[B]? = some (.cells r.cells.toArray 31 (0, 0))
theorem RecBlk.at_ {W : World} {B : Nat} {r : R} (h : RecBlk W B r) : RecAt W B 0 r := by
  have hc : ∀ i, W.cell? ⟨B, i, none⟩ = r.cells[i]? := fun i => by simp [World.cell?, show W.heap[B]? = _ from h]
  exact ⟨hc 0, hc 1, hc 2, hc 3, hc 4, hc 5, hc 6, hc 7, hc 8, hc 9, hc 10, hc 11⟩
theorem RecBlk.kept {W W' : World} {row : Option Nat} {B : Nat} {r : R} (h : RecBlk W B r) (hg : W.grownBy W' row) (hne : some B ≠ row) : RecBlk W' B r := (hg.block B (Array.getElem?_eq_some_iff.1 h).1 hne).trans h
theorem RecBlk.not_row {W : World} {B : Nat} {r : R} {row : Option Nat} (h : RecBlk W B r) (hr : ∀ q, row = some q → ∃ o : Obj, W.heap[q]? = some o ∧ o.isCells = false) : some B ≠ row := fun e => by
  obtain ⟨o, ho, hc⟩ := hr B e.symm
  rw [show W.heap[B]? = _ from h] at ho; cases ho; cases hc

theorem placed_snd : ∀ (rs : List R) (i : Nat), (placed rs i).map (·.2) = rs
  | [], _ => rfl
  | r :: rs, i => by simp [placed, placed_snd rs]
theorem behindOf_snd (rs : List R) (k : Nat) : (behindOf rs k).map (·.2) = rs.drop (k + 1) := placed_snd _ _

set_option maxRecDepth 100000 in
set_option maxHeartbeats 4000000 in
theorem again_in (A : Option Addr) (n c B k : Nat) (rs : List R) (x : R) (w : World) (h : Recs w B A n rs) (hB : B ≤ w.heap.size) (hn : n ≤ maxLen) (hk : k < n) (hx : rs[k]? = some x) (h6 : (x.act != 6) = false) :
    CallsIn Fence.wide 7 Try.prog 21 #[.slice A n c, .int .i64 k] w fun e W' => e = .returned (.bool (againGo x 0 (rs.drop (k + 1)))) ∧ Below w.heap.size w W' := by
  have hn' := hn
  unfold maxLen at hn'
  obtain ⟨b, o, x', rfl, hbB, hx', hat, hxok⟩ := h.get hk
  obtain rfl : x = x' := by rw [hx] at hx'; simpa using hx'
  have hb1 : b < w.heap.size := by omega
  have c1 := hat.c1
  have hb2 : b < w.heap.size + 1 := by omega
  have hb3 : b < w.heap.size + 1 + 1 := by omega
  have hb4 : b < w.heap.size + 1 + 1 + 1 := by omega
  have hkn : ¬ (n : Int) ≤ k := by omega
  have hk0 : ¬ (k : Int) < 0 := by omega
  refine callsIn_of_wp_marks Try.func21 rfl trivial ?_ rfl
  simp only [Try.ntmps21, List.size_toArray, List.length_cons, List.length_nil, Nat.reduceAdd, Nat.reduceSub, Array.replicate_succ, Array.replicate_zero, List.push_toArray, List.append_toArray, List.nil_append, List.cons_append]
  gi_wp2_with (refine ⟨trivial, ?_⟩; gi_at_call 19; refine (callsIn_wide.2 (behind_any _ _ _ _ _)).mono ?_; rintro e w' ⟨rfl, rfl⟩)
  have bL := (((((Boxed.new w 22 (.slice (some ⟨b, o, none⟩) n c)).alloc (.cells #[.int .i64 k] 3)).alloc (.cells #[.bool false] 4)).alloc (.cells #[.int .i64 0] 3)).alloc (.cells #[.slice (some ⟨b, o, none⟩) n c] 22)).alloc (.cells #[.int .i64 k] 3)
  have bK := ((((Boxed.new (w.alloc (.cells #[.slice (some ⟨b, o, none⟩) n c] 22)) 3 (.int .i64 k)).alloc (.cells #[.bool false] 4)).alloc (.cells #[.int .i64 0] 3)).alloc (.cells #[.slice (some ⟨b, o, none⟩) n c] 22)).alloc (.cells #[.int .i64 k] 3)
  have bR := (((Boxed.new ((w.alloc (.cells #[.slice (some ⟨b, o, none⟩) n c] 22)).alloc (.cells #[.int .i64 k] 3)) 4 (.bool false)).alloc (.cells #[.int .i64 0] 3)).alloc (.cells #[.slice (some ⟨b, o, none⟩) n c] 22)).alloc (.cells #[.int .i64 k] 3)
  have bN := ((Boxed.new (((w.alloc (.cells #[.slice (some ⟨b, o, none⟩) n c] 22)).alloc (.cells #[.int .i64 k] 3)).alloc (.cells #[.bool false] 4)) 3 (.int .i64 0)).alloc (.cells #[.slice (some ⟨b, o, none⟩) n c] 22)).alloc (.cells #[.int .i64 k] 3)
  have bT := (Boxed.new ((((w.alloc (.cells #[.slice (some ⟨b, o, none⟩) n c] 22)).alloc (.cells #[.int .i64 k] 3)).alloc (.cells #[.bool false] 4)).alloc (.cells #[.int .i64 0] 3)) 22 (.slice (some ⟨b, o, none⟩) n c)).alloc (.cells #[.int .i64 k] 3)
  have bC := Boxed.new (((((w.alloc (.cells #[.slice (some ⟨b, o, none⟩) n c] 22)).alloc (.cells #[.int .i64 k] 3)).alloc (.cells #[.bool false] 4)).alloc (.cells #[.int .i64 0] 3)).alloc (.cells #[.slice (some ⟨b, o, none⟩) n c] 22)) 3 (.int .i64 k)
  have hB0 := ((((((Below.refl _ w).alloc (Nat.le_refl _) (.cells #[.slice (some ⟨b, o, none⟩) n c] 22)).alloc (by simp) (.cells #[.int .i64 k] 3)).alloc (by simp; omega) (.cells #[.bool false] 4)).alloc (by simp; omega) (.cells #[.int .i64 0] 3)).alloc (by simp; omega) (.cells #[.slice (some ⟨b, o, none⟩) n c] 22)).alloc (by simp; omega) (.cells #[.int .i64 k] 3)
  have hsz : ((((((w.alloc (.cells #[.slice (some ⟨b, o, none⟩) n c] 22)).alloc (.cells #[.int .i64 k] 3)).alloc (.cells #[.bool false] 4)).alloc (.cells #[.int .i64 0] 3)).alloc (.cells #[.slice (some ⟨b, o, none⟩) n c] 22)).alloc (.cells #[.int .i64 k] 3)).heap.size = w.heap.size + 6 := by simp
  simp only [World.size_alloc] at bK bR bN bT bC
  obtain ⟨W0, hW0⟩ : ∃ W0, (((((w.alloc (.cells #[.slice (some ⟨b, o, none⟩) n c] 22)).alloc (.cells #[.int .i64 k] 3)).alloc (.cells #[.bool false] 4)).alloc (.cells #[.int .i64 0] 3)).alloc (.cells #[.slice (some ⟨b, o, none⟩) n c] 22)).alloc (.cells #[.int .i64 k] 3) = W0 := ⟨_, rfl⟩
  rw [hW0] at bL bK bR bN bT bC hB0 hsz ⊢
  clear hW0
  have h0 := h.below hB0 hB (Nat.le_refl _)
  refine wpIn_rangeFunc_ownH rfl (by omega) (gf := 37) (lb := #[.pointer (some ⟨w.heap.size + 1 + 1 + 1 + 1 + 1, 0, none⟩), .pointer (some ⟨w.heap.size + 1 + 1 + 1 + 1, 0, none⟩)]) rfl trivial (enters_of Try.func37 (by kernel_rfl) rfl)
    (behind_stops (w.heap.size + 1 + 1 + 1 + 1) (w.heap.size + 1 + 1 + 1 + 1 + 1) n c B w.heap.size k (some ⟨b, o, none⟩) rs W0 hn hk hB (by omega) bT bC h0) KeepAt.trans (KeepAt.put (by omega) (by omega)) (Below.refl _ _) (fun _ => rfl)
    (fun pre W => ((Boxed W w.heap.size 22 (.slice (some ⟨b, o, none⟩) n c) ∧ Boxed W (w.heap.size + 1) 3 (.int .i64 k)) ∧ Boxed W (w.heap.size + 1 + 1) 4 (.bool false) ∧ Boxed W (w.heap.size + 1 + 1 + 1) 3 (.int .i64 (cnt x pre)) ∧ Boxed W (w.heap.size + 1 + 1 + 1 + 1 + 1) 3 (.int .i64 k)) ∧ Goes x pre ∧ Below w.heap.size w W)
    (fun d pre W => (d = .ret ∧ Ends x pre) ∧ Boxed W (w.heap.size + 1 + 1) 4 (.bool (againGo x 0 (pre.map (·.2)))) ∧ Below w.heap.size w W)
    (OwnFrom.and (OwnFrom.and (OwnFrom.and (Own.from (boxed_own _ _ _) _) (Own.from (boxed_own _ _ _) _)) (OwnFrom.and (Own.from (boxed_own _ _ _) _) (OwnFrom.and (Own.from (boxed_own _ _ _) _) (Own.from (boxed_own _ _ _) _)))) (OwnFrom.and (ownFrom_pure _ _) (ownFrom_below (Nat.le_refl _) (by omega))))
    (fun d => OwnFrom.and (ownFrom_pure _ _) (OwnFrom.and (Own.from (boxed_own _ _ _) _) (ownFrom_below (Nat.le_refl _) (by omega))))
    ⟨⟨⟨bL, bK⟩, bR, bN, bC⟩, Goes.nil x, hB0⟩
    (fun y a' W => ∃ Bx, w.heap.size + 5 < Bx ∧ RecBlk W Bx y.2 ∧ a' = { tmps := #[Value.slice (some ⟨b, o, none⟩) n c, .int .i64 k, .pointer (some ⟨w.heap.size, 0, none⟩), .pointer (some ⟨w.heap.size + 1, 0, none⟩), .pointer (some ⟨w.heap.size + 1 + 1, 0, none⟩), .pointer (some ⟨w.heap.size + 1 + 1 + 1, 0, none⟩), undef, .pointer (some ⟨Bx, 0, none⟩), .int .i64 k, .bool false, .bool false, .int .i64 k, .slice (some ⟨b, o, none⟩) n c, .int .i64 n, .bool false, .bool false, .bool false, .slice (some ⟨b, o, none⟩) n c, .int .i64 k, .pointer (some ⟨b, o + k * 12, none⟩), .pointer (some ⟨b, o + k * 12 + 1, none⟩), .int .u8 x.act, .bool false, .bool false, .slice (some ⟨b, o, none⟩) n c, .int .i64 k, .func (.func 37) #[] #[.pointer (some ⟨w.heap.size + 1 + 1 + 1 + 1 + 1, 0, none⟩), .pointer (some ⟨w.heap.size + 1 + 1 + 1 + 1, 0, none⟩)], .int .i64 y.1, y.2.val, undef, undef, undef, undef, undef, undef, undef, undef, undef, undef, undef, undef, undef, undef, undef, undef, undef, undef, undef, undef, undef, undef, undef, undef, undef, undef, undef, undef, undef, undef, undef, undef, undef, undef, undef, undef, undef, undef], defers := [] })
    (fun y a' _ X Y row hs hg hr => by obtain ⟨Bx, h1, h2, h3⟩ := hs; exact ⟨Bx, h1, h2.kept hg (h2.not_row (fun r e => (hr r e).2)), h3⟩)
    ?assign ?body ?done ?stop
  case assign =>
    rintro l pre y W K ⟨⟨⟨qL, qK⟩, qR, qN, qC⟩, hG, hB1⟩ hK
    have hsW := hB1.size
    have hq := qC.lt
    unfold R.val
    gi_wp2
    exact hK _ _ ((KeepsOthers.alloc _ _).from _) ⟨fun i hi => Below.heap_alloc _ _ _ (by omega), Below.heap_alloc _ _ _ (by omega)⟩ ⟨⟨⟨qL.alloc _, qK.alloc _⟩, qR.alloc _, qN.alloc _, qC.alloc _⟩, hG, hB1.alloc hsW _⟩ ⟨W.heap.size, by omega, heap_alloc_new W _, rfl⟩
  case body =>
    rintro l pre y a' W hl _ ⟨⟨⟨qL, qK⟩, qR, qN, qC⟩, hG, hB1⟩ ⟨Bx, hBx, hX, rfl⟩ hlt
    have hsW := hB1.size
    have cL := qL.cell
    have cK := qK.cell
    have cN := qN.cell
    have fN := qN.frozen
    have fR := qR.frozen
    have cR := qR.cell
    have hcl := cnt_le x pre
    have hXa := hX.at_
    have hb2 := (h.below hB1 hB (Nat.le_refl _))
    obtain ⟨b', o', x', e1, hb3, e2, hx2, _⟩ := hb2.get hk
    cases e1
    obtain rfl : x = x' := by rw [hx] at e2; simpa using e2
    have x4 := hx2.c4
    have x9 := hx2.c9
    have x10 := hx2.c10
    have y4 := hXa.c4
    have y1 := hXa.c1
    have y9 := hXa.c9
    have y10 := hXa.c10
    clear e2 hb3 hb2 hXa hx2
    by_cases hi : y.2.ino = x.ino
    case neg =>
      have hi' : (y.2.ino != x.ino) = true := by simpa using hi
      have hG2 := Lib.hid (hG.step y (fun rest => by rw [cnt_snoc, if_neg (fun hh => hi hh.1)]; simp only [againGo, ne_eq, hi, not_false_eq_true, if_true]; rfl))
      have hC2 := Lib.hid (show cnt x (pre ++ [y]) = cnt x pre by rw [cnt_snoc, if_neg (fun hh => hi hh.1)]; rfl)
      clear hi
      gi_wp2
      (refine round_quiet (by kernel_rfl) (by kernel_rfl) (by kernel_rfl) ?_; (repeat (go_big_quiet_step (fail))); refine wpQuiet_nil ?_; intro _ hw'; obtain ⟨nq, hw''⟩ := hw'; subst hw'')
      gi_wp2
      refine ⟨⟨Nat.le_refl _, fun _ _ _ h _ => h⟩, ⟨fun _ _ => rfl, rfl⟩, ⟨⟨qL, qK⟩, qR, ?_, qC⟩, hG2.out, bdn hB1 _⟩
      rw [hC2.out]; exact qN
    case pos =>
      have hi' : (y.2.ino != x.ino) = false := by simpa using hi
      by_cases ha : y.2.act = 5 ∨ y.2.act = 7 ∨ y.2.act = 1
      case pos =>
        obtain ⟨v1, v2⟩ := hG.ends y false (fun rest => by simp only [againGo, ne_eq, hi, not_true_eq_false, if_false, ha, if_true])
        have hV := Lib.hid v1
        have hE := Lib.hid v2
        clear v1 v2
        have Hi := Lib.hid hi
        clear hi
        have fin := Lib.hid (show ∀ q, KeepsFrom W0.heap.size W ((W.drewN q).setCell ⟨w.heap.size + 1 + 1, 0, none⟩ (.bool false)) ∧ (Ends x (pre ++ [y]) ∧ Boxed ((W.drewN q).setCell ⟨w.heap.size + 1 + 1, 0, none⟩ (.bool false)) (w.heap.size + 1 + 1) 4 (.bool (againGo x 0 ((pre ++ [y]).map (·.2)))) ∧ Below w.heap.size w ((W.drewN q).setCell ⟨w.heap.size + 1 + 1, 0, none⟩ (.bool false))) from fun q => by
          refine ⟨KeepsFrom.trans (Y := W.drewN q) ⟨Nat.le_refl _, fun _ _ _ h _ => h⟩ ((KeepsOthers.setCell (W.drewN q) _ _).from _), hE.out, ?_, (bdn hB1 q).setCell (p := ⟨w.heap.size + 1 + 1, 0, none⟩) (by simp; omega) _⟩
          rw [hV.out]; exact Boxed.set (W := W.drewN q) _ qR)
        by_cases a5 : y.2.act = 5
        · have a5' : (y.2.act == 5) = true := by simpa using a5
          clear ha a5
          gi_wp2
          (refine round_quiet (by kernel_rfl) (by kernel_rfl) (by kernel_rfl) ?_; (repeat (go_big_quiet_step (fail))); refine wpQuiet_nil ?_; intro _ hw'; obtain ⟨nq, hw''⟩ := hw'; subst hw'')
          gi_wp2
          obtain ⟨f1, f2, f3, f4⟩ := fin.out nq; exact ⟨f1, ⟨rfl, f2⟩, f3, f4⟩
        · have a5' : (y.2.act == 5) = false := by simpa using a5
          by_cases a7 : y.2.act = 7
          · have a7' : (y.2.act == 7) = true := by simpa using a7
            clear ha a5 a7
            gi_wp2
            (refine round_quiet (by kernel_rfl) (by kernel_rfl) (by kernel_rfl) ?_; (repeat (go_big_quiet_step (fail))); refine wpQuiet_nil ?_; intro _ hw'; obtain ⟨nq, hw''⟩ := hw'; subst hw'')
            gi_wp2
            obtain ⟨f1, f2, f3, f4⟩ := fin.out nq; exact ⟨f1, ⟨rfl, f2⟩, f3, f4⟩
          · have a7' : (y.2.act == 7) = false := by simpa using a7
            have a1' : (y.2.act == 1) = true := by simpa [a5, a7] using ha
            clear ha a5 a7
            gi_wp2
            (refine round_quiet (by kernel_rfl) (by kernel_rfl) (by kernel_rfl) ?_; (repeat (go_big_quiet_step (fail))); refine wpQuiet_nil ?_; intro _ hw'; obtain ⟨nq, hw''⟩ := hw'; subst hw'')
            gi_wp2
            obtain ⟨f1, f2, f3, f4⟩ := fin.out nq; exact ⟨f1, ⟨rfl, f2⟩, f3, f4⟩
      case neg =>
        obtain ⟨a5, a71⟩ := not_or.1 ha
        obtain ⟨a7, a1⟩ := not_or.1 a71
        have a5' : (y.2.act == 5) = false := by simpa using a5
        have a7' : (y.2.act == 7) = false := by simpa using a7
        have a1' : (y.2.act == 1) = false := by simpa using a1
        by_cases a6 : y.2.act = 6
        case neg =>
          have a6' : (y.2.act == 6) = false := by simpa using a6
          have hG2 := Lib.hid (hG.step y (fun rest => by rw [cnt_snoc, if_neg (fun hh => a6 hh.2)]; simp only [againGo, ne_eq, hi, not_true_eq_false, if_false, ha, a6]; rfl))
          have hC2 := Lib.hid (show cnt x (pre ++ [y]) = cnt x pre by rw [cnt_snoc, if_neg (fun hh => a6 hh.2)]; rfl)
          clear hi ha a5 a71 a7 a1 a6
          gi_wp2
          (refine round_quiet (by kernel_rfl) (by kernel_rfl) (by kernel_rfl) ?_; (repeat (go_big_quiet_step (fail))); refine wpQuiet_nil ?_; intro _ hw'; obtain ⟨nq, hw''⟩ := hw'; subst hw'')
          gi_wp2
          refine ⟨⟨Nat.le_refl _, fun _ _ _ h _ => h⟩, ⟨fun _ _ => rfl, rfl⟩, ⟨⟨qL, qK⟩, qR, ?_, qC⟩, hG2.out, bdn hB1 _⟩
          rw [hC2.out]; exact qN
        case pos =>
          have a6' : (y.2.act == 6) = true := by simpa using a6
          have hgo : ∀ rest, againGo x (cnt x pre) (y.2 :: rest) = if cnt x pre = 0 ∧ x.size < y.2.size then false else if y.2.page = x.page then true else againGo x (cnt x pre + 1) rest := fun rest => by
            simp only [againGo, ne_eq, hi, not_true_eq_false, if_false, ha]; rw [if_pos a6]
          have Hgo := Lib.hid hgo
          have hC2 := Lib.hid (show cnt x (pre ++ [y]) = cnt x pre + 1 by rw [cnt_snoc, if_pos ⟨hi, a6⟩])
          clear hi ha a5 a71 a7 a1 a6 hgo
          have eB : Bx ≠ w.heap.size + 1 + 1 + 1 := by omega
          have eb : b ≠ w.heap.size + 1 + 1 + 1 := by omega
          have hWf : ∀ q : Nat, ∃ W1, (W.drewN q).setCell ⟨w.heap.size + 1 + 1 + 1, 0, none⟩ (.int .i64 ((cnt x pre : Int) + 1)) = W1 ∧ RowKit.Hid (((Boxed W1 w.heap.size 22 (.slice (some ⟨b, o, none⟩) n c) ∧ Boxed W1 (w.heap.size + 1) 3 (.int .i64 k)) ∧ Boxed W1 (w.heap.size + 1 + 1) 4 (.bool false) ∧ Boxed W1 (w.heap.size + 1 + 1 + 1) 3 (.int .i64 (cnt x (pre ++ [y]))) ∧ Boxed W1 (w.heap.size + 1 + 1 + 1 + 1 + 1) 3 (.int .i64 k)) ∧ Below w.heap.size w W1 ∧ KeepsFrom W0.heap.size W W1 ∧ KeepAt w.heap.size (w.heap.size + 1 + 1 + 1 + 1) W W1)
              ∧ W1.cell? ⟨w.heap.size, 0, none⟩ = some (.slice (some ⟨b, o, none⟩) n c) ∧ W1.cell? ⟨w.heap.size + 1, 0, none⟩ = some (.int .i64 k) ∧ W1.cell? ⟨w.heap.size + 1 + 1 + 1, 0, none⟩ = some (.int .i64 ((cnt x pre : Int) + 1)) ∧ W1.frozen? ⟨w.heap.size + 1 + 1, 0, none⟩ = false ∧ W1.cell? ⟨w.heap.size + 1 + 1, 0, none⟩ = some (.bool false)
              ∧ W1.cell? ⟨b, o + k * 12 + 9, none⟩ = some (.int .u32 x.size) ∧ W1.cell? ⟨b, o + k * 12 + 10, none⟩ = some (.int .i64 x.page) ∧ W1.cell? ⟨Bx, 9, none⟩ = some (.int .u32 y.2.size) ∧ W1.cell? ⟨Bx, 10, none⟩ = some (.int .i64 y.2.page) := fun q => by
            refine ⟨_, rfl, Lib.hid ⟨⟨⟨Boxed.other (W := W.drewN q) qL (by omega) _, Boxed.other (W := W.drewN q) qK (by omega) _⟩, Boxed.other (W := W.drewN q) qR (by omega) _, ?_, Boxed.other (W := W.drewN q) qC (by omega) _⟩, (bdn hB1 q).setCell (p := ⟨w.heap.size + 1 + 1 + 1, 0, none⟩) (by simp; omega) _, KeepsFrom.trans (Y := W.drewN q) ⟨Nat.le_refl _, fun _ _ _ h _ => h⟩ ((KeepsOthers.setCell (W.drewN q) _ _).from _), ⟨fun i hi => Below.heap_setCell _ _ _ i (by simp; omega), Below.heap_setCell _ _ _ _ (by simp)⟩⟩, ?_⟩
            · have := Boxed.set (W := W.drewN q) (.int .i64 ((cnt x pre : Int) + 1)) qN
              rw [hC2.out]; simpa using this
            · exact ⟨(Boxed.other (W := W.drewN q) qL (by omega) _).cell, (Boxed.other (W := W.drewN q) qK (by omega) _).cell, (Boxed.set (W := W.drewN q) _ qN).cell, (Boxed.other (W := W.drewN q) qR (by omega) _).frozen, (Boxed.other (W := W.drewN q) qR (by omega) _).cell, (World.cell?_of_block (Below.heap_setCell _ _ _ b (by simpa using eb))).trans x9, (World.cell?_of_block (Below.heap_setCell _ _ _ b (by simpa using eb))).trans x10, (World.cell?_of_block (Below.heap_setCell _ _ _ Bx (by simpa using eB))).trans y9, (World.cell?_of_block (Below.heap_setCell _ _ _ Bx (by simpa using eB))).trans y10⟩
          have HWf := Lib.hid hWf
          clear hWf
          by_cases c0 : cnt x pre = 0
          case pos =>
            have c0' : ((cnt x pre : Int) + 1 == 1) = true := by rw [c0]; rfl
            by_cases hs : x.size < y.2.size
            case pos =>
              have hs' : (decide (x.size < y.2.size)) = true := by simpa using hs
              obtain ⟨v1, v2⟩ := hG.ends y false (fun rest => by rw [Hgo.out, if_pos ⟨c0, hs⟩])
              have hV := Lib.hid v1
              have hE := Lib.hid v2
              clear v1 v2 hs c0
              gi_wp2
              (refine round_quiet (by kernel_rfl) (by kernel_rfl) (by kernel_rfl) ?_; (repeat (go_big_quiet_step (fail))); refine wpQuiet_nil ?_; intro _ hw'; obtain ⟨nq, hw''⟩ := hw'; subst hw'')
              gi_wp2
              obtain ⟨W1, hW1, HI, z0, z1, z2, z3, z4, z5, z6, z7, z8⟩ := HWf.out nq
              rw [hW1]
              clear hW1
              (refine round_quiet (by kernel_rfl) (by kernel_rfl) (by kernel_rfl) ?_; (repeat (go_big_quiet_step (fail))); refine wpQuiet_nil ?_; intro _ hw'; obtain ⟨nq, hw''⟩ := hw'; subst hw'')
              obtain ⟨n1, hn1⟩ : ∃ n1, n1 = nq := ⟨_, rfl⟩
              rw [← hn1]
              clear hn1
              gi_wp2
              obtain ⟨⟨⟨p1, p2⟩, p3, p4, p5⟩, p6, p7, p8⟩ := HI
              obtain ⟨f1, f2, f3⟩ := ret_fin p7 p6 p3 (by omega) (.bool false) n1
              exact ⟨f1, ⟨rfl, hE.out⟩, by rw [hV.out]; exact f2, f3⟩
            case neg =>
              have hs' : (decide (x.size < y.2.size)) = false := by simpa using hs
              have Hnn := Lib.hid (show ¬ (cnt x pre = 0 ∧ x.size < y.2.size) from fun hh => hs hh.2)
              clear hs c0
              gi_wp2
              (refine round_quiet (by kernel_rfl) (by kernel_rfl) (by kernel_rfl) ?_; (repeat (go_big_quiet_step (fail))); refine wpQuiet_nil ?_; intro _ hw'; obtain ⟨nq, hw''⟩ := hw'; subst hw'')
              gi_wp2
              obtain ⟨W1, hW1, HI, z0, z1, z2, z3, z4, z5, z6, z7, z8⟩ := HWf.out nq
              rw [hW1]
              clear hW1
              (refine round_quiet (by kernel_rfl) (by kernel_rfl) (by kernel_rfl) ?_; (repeat (go_big_quiet_step (fail))); refine wpQuiet_nil ?_; intro _ hw'; obtain ⟨nq, hw''⟩ := hw'; subst hw'')
              obtain ⟨n1, hn1⟩ : ∃ n1, n1 = nq := ⟨_, rfl⟩
              rw [← hn1]
              clear hn1
              by_cases hp : y.2.page = x.page
              case pos =>
                have hp' : (y.2.page == x.page) = true := by simpa using hp
                obtain ⟨v1, v2⟩ := Lib.hid (hG.ends y true (fun rest => by rw [Hgo.out, if_neg Hnn.out, if_pos hp]))
                have hV := Lib.hid v1
                have hE := Lib.hid v2
                clear hp v1 v2
                gi_wp2
                (refine round_quiet (by kernel_rfl) (by kernel_rfl) (by kernel_rfl) ?_; (repeat (go_big_quiet_step (fail))); refine wpQuiet_nil ?_; intro _ hw'; obtain ⟨nq, hw''⟩ := hw'; subst hw'')
                gi_wp2
                obtain ⟨⟨⟨p1, p2⟩, p3, p4, p5⟩, p6, p7, p8⟩ := HI
                obtain ⟨f1, f2, f3⟩ := ret_fin p7 p6 p3 (by omega) (.bool true) (n1 + nq)
                exact ⟨f1, ⟨rfl, hE.out⟩, by rw [hV.out]; exact f2, f3⟩
              case neg =>
                have hp' : (y.2.page == x.page) = false := by simpa using hp
                have hG2 := Lib.hid (hG.step y (fun rest => by rw [hC2.out, Hgo.out, if_neg Hnn.out, if_neg hp]))
                clear hp
                gi_wp2
                (refine round_quiet (by kernel_rfl) (by kernel_rfl) (by kernel_rfl) ?_; (repeat (go_big_quiet_step (fail))); refine wpQuiet_nil ?_; intro _ hw'; obtain ⟨nq, hw''⟩ := hw'; subst hw'')
                gi_wp2
                obtain ⟨⟨⟨p1, p2⟩, p3, p4, p5⟩, p6, p7, p8⟩ := HI
                refine ⟨p7.trans ⟨Nat.le_refl _, fun _ _ _ h _ => h⟩, p8.trans ⟨fun _ _ => rfl, rfl⟩, ⟨⟨p1, p2⟩, p3, p4, p5⟩, hG2.out, bdn (bdn p6 _) _⟩
          case neg =>
            have c0' : ((cnt x pre : Int) + 1 == 1) = false := by simp; omega
            have Hnn := Lib.hid (show ¬ (cnt x pre = 0 ∧ x.size < y.2.size) from fun hh => c0 hh.1)
            clear c0
            gi_wp2
            (refine round_quiet (by kernel_rfl) (by kernel_rfl) (by kernel_rfl) ?_; (repeat (go_big_quiet_step (fail))); refine wpQuiet_nil ?_; intro _ hw'; obtain ⟨nq, hw''⟩ := hw'; subst hw'')
            gi_wp2
            obtain ⟨W1, hW1, HI, z0, z1, z2, z3, z4, z5, z6, z7, z8⟩ := HWf.out nq
            rw [hW1]
            clear hW1
            (refine round_quiet (by kernel_rfl) (by kernel_rfl) (by kernel_rfl) ?_; (repeat (go_big_quiet_step (fail))); refine wpQuiet_nil ?_; intro _ hw'; obtain ⟨nq, hw''⟩ := hw'; subst hw'')
            obtain ⟨n1, hn1⟩ : ∃ n1, n1 = nq := ⟨_, rfl⟩
            rw [← hn1]
            clear hn1
            by_cases hp : y.2.page = x.page
            case pos =>
              have hp' : (y.2.page == x.page) = true := by simpa using hp
              obtain ⟨v1, v2⟩ := Lib.hid (hG.ends y true (fun rest => by rw [Hgo.out, if_neg Hnn.out, if_pos hp]))
              have hV := Lib.hid v1
              have hE := Lib.hid v2
              clear hp v1 v2
              gi_wp2
              (refine round_quiet (by kernel_rfl) (by kernel_rfl) (by kernel_rfl) ?_; (repeat (go_big_quiet_step (fail))); refine wpQuiet_nil ?_; intro _ hw'; obtain ⟨nq, hw''⟩ := hw'; subst hw'')
              gi_wp2
              obtain ⟨⟨⟨p1, p2⟩, p3, p4, p5⟩, p6, p7, p8⟩ := HI
              obtain ⟨f1, f2, f3⟩ := ret_fin p7 p6 p3 (by omega) (.bool true) (n1 + nq)
              exact ⟨f1, ⟨rfl, hE.out⟩, by rw [hV.out]; exact f2, f3⟩
            case neg =>
              have hp' : (y.2.page == x.page) = false := by simpa using hp
              have hG2 := Lib.hid (hG.step y (fun rest => by rw [hC2.out, Hgo.out, if_neg Hnn.out, if_neg hp]))
              clear hp
              gi_wp2
              (refine round_quiet (by kernel_rfl) (by kernel_rfl) (by kernel_rfl) ?_; (repeat (go_big_quiet_step (fail))); refine wpQuiet_nil ?_; intro _ hw'; obtain ⟨nq, hw''⟩ := hw'; subst hw'')
              gi_wp2
              obtain ⟨⟨⟨p1, p2⟩, p3, p4, p5⟩, p6, p7, p8⟩ := HI
              refine ⟨p7.trans ⟨Nat.le_refl _, fun _ _ _ h _ => h⟩, p8.trans ⟨fun _ _ => rfl, rfl⟩, ⟨⟨p1, p2⟩, p3, p4, p5⟩, hG2.out, bdn (bdn p6 _) _⟩
  case done =>
    rintro D ys W hD rfl ⟨⟨⟨qL, qK⟩, qR, qN, qC⟩, hG, hB1⟩ hK
    have fR := qR.frozen
    have cR := qR.cell
    have hV : againGo x 0 (rs.drop (k + 1)) = false := by
      have := hG []
      rwa [List.append_nil, behindOf_snd] at this
    have Hv := Lib.hid hV
    clear hV
    gi_wp2
    have hK' : (W.setCell ⟨w.heap.size + 1 + 1, 0, none⟩ (.bool false)).heap[D]? = some (.deferred (some [])) := (Below.heap_setCell _ _ _ D (by simp; omega)).trans hK
    have qR2 := qR.set (.bool false)
    have hc5 := (qR2.kept (grownBy_putObj' _ D (.deferred none)) (by simp; omega)).cell
    have hB2 := hB1.setCell (p := ⟨w.heap.size + 1 + 1, 0, none⟩) (by simp; omega) (.bool false)
    refine ⟨by simp, .inl ⟨_, _, rfl, run_takeDeferred hK', ?_⟩⟩
    exact ⟨_, by simp [results, Try.f21, go_sem, hc5]; rfl, by rw [Hv.out], hB2.trans (belowK_b (w := w) (Nat.le_refl _) _ D _ _ (by omega) hK' rfl rfl)⟩
  case stop =>
    rintro D d pre W hD hp ⟨⟨rfl, hE⟩, qR, hB1⟩ hK
    have cR := qR.cell
    have hV : againGo x 0 (rs.drop (k + 1)) = againGo x 0 (pre.map (·.2)) := by
      obtain ⟨t, ht⟩ := hp
      have := hE (t.map (·.2))
      rwa [← List.map_append, ht, behindOf_snd] at this
    have Hv := Lib.hid hV
    clear hV
    gi_wp2
    have hc5 := (qR.kept (grownBy_putObj' _ D (.deferred none)) (by simp; omega)).cell
    refine ⟨by simp, .inl ⟨_, _, rfl, run_takeDeferred hK, ?_⟩⟩
    exact ⟨_, by simp [results, Try.f21, go_sem, hc5]; rfl, by rw [Hv.out], hB1.trans (belowK_b (w := w) (Nat.le_refl _) _ D _ _ (by omega) hK rfl rfl)⟩

set_option maxRecDepth 100000 in
set_option maxHeartbeats 2000000 in
theorem again_any (A : Option Addr) (n c B k : Nat) (rs : List R) (w : World) (h : Recs w B A n rs) (hB : B ≤ w.heap.size) (hn : n ≤ maxLen) (hk : k < n) :
    Calls Try.prog 21 #[.slice A n c, .int .i64 k] w fun e W' => e = .returned (.bool (againB rs k)) ∧ Below w.heap.size w W' := by
  obtain ⟨b, o, x, rfl, hbB, hx, hat, hxok⟩ := h.get hk
  by_cases h6 : x.act = 6
  · have := callsIn_wide.1 (again_in (some ⟨b, o, none⟩) n c B k rs x w h hB hn hk hx (by simpa using h6))
    refine this.mono ?_
    rintro e W' ⟨rfl, hb⟩
    exact ⟨by unfold againB; rw [hx]; simp only [h6, if_true], hb⟩
  · have hv : againB rs k = false := by unfold againB; rw [hx]; simp only [h6, if_false]
    rw [hv]
    have h6' : (x.act != 6) = true := by simpa using h6
    have hn' := hn
    unfold maxLen at hn'
    have hb1 : b < w.heap.size := by omega
    have c1 := hat.c1
    have hb2 : b < w.heap.size + 1 := by omega
    have hb3 : b < w.heap.size + 1 + 1 := by omega
    have hkn : ¬ (n : Int) ≤ k := by omega
    have hk0 : ¬ (k : Int) < 0 := by omega
    clear h6 hv hx
    go_enter Try.func21, Try.ntmps21
    go_wp2
    refine bodyPost_ret (v := .bool false) (by simp [results, Try.f21, go_sem]) rfl ?_
    exact ⟨rfl, (((Below.refl _ w).alloc (Nat.le_refl _) _).alloc (by simp) _).alloc (by simp; omega) _⟩
end Go.Proofs.Ytnnidgjfjgkdpaa
