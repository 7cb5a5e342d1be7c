/- Tallies in memory; count.Less. -/
import Derived.Test.YtenddeglhjmhcaaDoorUD
import Derived.Test.YtenddeglhjmhcaaDoorUZ
namespace Go.Proofs.YtenddeglhjmhcaaDoor
open Go.RowKit

theorem pheap_set (w : World) (G j : Nat) (v : Value) (cs : Array Value) (t : TypeId) (h : w.heap[G]? = some (.cells cs t (0, 0))) : (w.setCell ⟨G, j, none⟩ v).heap[G]? = some (.cells (cs.setIfInBounds j v) t (0, 0)) := by
  simp [World.setCell, Array.getElem?_modify, h]
theorem pgrown_trans {a b c : World} {r : Option Nat} (h : a.grownBy b r) (k : b.grownBy c r) : a.grownBy c r :=
  ⟨k.os.trans h.os, k.tape.trans h.tape, k.output.trans h.output, Nat.le_trans h.size k.size, fun i hi hne => (k.block i (Nat.lt_of_lt_of_le hi h.size) hne).trans (h.block i hi hne)⟩
theorem pgrown_set (w : World) (G j : Nat) (v : Value) : w.grownBy (w.setCell ⟨G, j, none⟩ v) (some G) :=
  ⟨rfl, rfl, rfl, by simp [World.setCell], fun i _ hne => Below.heap_setCell w ⟨G, j, none⟩ v i (fun e => hne (by rw [e]))⟩
theorem pgrown_refl (w : World) (r : Option Nat) : w.grownBy w r := ⟨rfl, rfl, rfl, Nat.le_refl _, fun _ _ _ => rfl⟩
theorem grown_setCells (B : Nat) : ∀ (vs : List Value) (o : Nat) (w : World), w.grownBy (w.setCells B o vs) (some B)
  | [], _, w => pgrown_refl w _
  | v :: r, o, w => pgrown_trans (pgrown_set w B o v) (grown_setCells B r (o + 1) _)
theorem setCells_form (B : Nat) (T : TypeId) (fr : Nat × Nat) : ∀ (vs : List Value) (o : Nat) (w : World) (cs : Array Value), w.heap[B]? = some (.cells cs T fr) → ∃ cs', (w.setCells B o vs).heap[B]? = some (.cells cs' T fr) ∧ cs'.size = cs.size
  | [], _, _, cs, h => ⟨cs, h, rfl⟩
  | v :: r, o, w, cs, h => by
    obtain ⟨cs', h1, h2⟩ := setCells_form B T fr r (o + 1) (w.setCell ⟨B, o, none⟩ v) (cs.setIfInBounds o v) (by simp [World.setCell, Array.getElem?_modify, h])
    exact ⟨cs', h1, by rw [h2]; simp⟩
theorem below_grown {w W W' : World} {r : Nat} (h : Below w.heap.size w W) (hg : W.grownBy W' (some r)) (hr : w.heap.size ≤ r) : Below w.heap.size w W' :=
  ⟨hg.os.trans h.os, hg.tape.trans h.tape, hg.output.trans h.output, Nat.le_trans h.size hg.size, fun b hb => (hg.block b (Nat.lt_of_lt_of_le hb h.size) fun e => by injection e with e; omega).trans (h.block b hb)⟩
abbrev intV (x : Int) : Value := .int .i64 x
/-- A tally as a value. -/
abbrev talV (t : List Int) : Value := .agg (t.map intV).toArray
/-- A tally in a block. -/
def TalB (W : World) (b : Nat) (t : List Int) : Prop := W.heap[b]? = some (.cells (t.map intV).toArray 26 (0, 0))
theorem TalB.cell {W : World} {b k : Nat} {t : List Int} (h : TalB W b t) {x : Int} (hk : t[k]? = some x) : W.cell? ⟨b, k, none⟩ = some (.int .i64 x) := by
  rw [cell_of h]
  simp [hk]
theorem TalB.froz {W : World} {b : Nat} {t : List Int} (h : TalB W b t) (k : Nat) : W.frozen? ⟨b, k, none⟩ = false := by
  unfold TalB at h
  simp [World.frozen?, h]
theorem TalB.int {W : World} {b k : Nat} {t : List Int} (h : TalB W b t) {v : Value} (hv : W.cell? ⟨b, k, none⟩ = some v) : ∃ x, v = .int .i64 x := by
  rw [cell_of h] at hv
  simp only [List.getElem?_toArray, List.getElem?_map, Option.map_eq_some_iff] at hv
  obtain ⟨x, _, rfl⟩ := hv
  exact ⟨x, rfl⟩
theorem TalB.set {W : World} {b : Nat} {t : List Int} (h : TalB W b t) (k : Nat) (c : Int) : TalB (W.setCell ⟨b, k, none⟩ (.int .i64 c)) b (t.set k c) := by
  unfold TalB at *
  rw [pheap_set W b k (.int .i64 c) _ _ h]
  congr 2
  simp [List.map_set]
theorem TalB.range {W : World} {b : Nat} {t : List Int} (h : TalB W b t) : W.rangeAt b 0 (t.map intV) := fun j v hv => by
  rw [Nat.zero_add, cell_of h]
  simpa using hv
theorem infoT : (Tryd.prog.info? 26).map (·.size) = some 22 := by kernel_rfl
theorem TalB.load {W : World} {b : Nat} {t : List Int} (h : TalB W b t) (ht : t.length = 22) : (Instr.loadAt 26 (.pointer (some ⟨b, 0, none⟩))).run Tryd.prog W = .ok (talV t) W :=
  run_loadAt_mid W b 0 26 (t.map intV) _ h.range Tryd.underlying26 rfl (by rw [List.length_map, ht]; exact infoT)
theorem TalB.there {W : World} {b : Nat} {t : List Int} (h : TalB W b t) (ht : t.length = 22) : W.there b 0 22 := fun j hj => by
  obtain ⟨x, hx⟩ : ∃ x, t[j]? = some x := ⟨_, List.getElem?_eq_getElem (by rw [ht]; exact hj)⟩
  exact ⟨by rw [Nat.zero_add, h.cell hx]; rfl, by rw [Nat.zero_add]; exact h.froz j⟩
theorem TalB.put {W : World} {b : Nat} {z t : List Int} (h : TalB W b z) (hz : z.length = 22) (ht : t.length = 22) : TalB (W.setCells b 0 (t.map intV)) b t ∧ W.grownBy (W.setCells b 0 (t.map intV)) (some b) := by
  have hth : W.there b 0 (t.map intV).length := by rw [List.length_map, ht]; exact h.there hz
  refine ⟨?_, grown_setCells b _ 0 _⟩
  obtain ⟨cs', g1, g2⟩ := setCells_form b 26 (0, 0) (t.map intV) 0 _ _ h
  have hr := World.rangeAt_setCells_same W b 0 (t.map intV) hth
  have hcs : cs' = (t.map intV).toArray := ?_
  · rw [TalB, g1, hcs]
  apply Array.ext_getElem?
  intro j
  by_cases hj : j < (t.map intV).length
  · have hv : (t.map intV)[j]? = some ((t.map intV)[j]'hj) := List.getElem?_eq_getElem _
    have := hr j _ hv
    simp only [World.cell?, g1, Nat.zero_add] at this
    have e2 : (t.map intV).toArray[j]? = some ((t.map intV)[j]'hj) := by simp only [List.getElem?_toArray]; exact hv
    rw [e2]
    simpa using this
  · rw [List.length_map, ht] at hj
    rw [Array.getElem?_eq_none (by rw [g2]; simp [hz]; omega), Array.getElem?_eq_none (by simp [ht]; omega)]
theorem results_tal {fn : Func} {a b : Nat} {tmps : Array Value} {W : World} {t : List Int} (h : fn.results = #[.cell a 26]) (ha : tmps.getD a undef = .pointer (some ⟨b, 0, none⟩)) (hT : TalB W b t) (ht : t.length = 22) : (results fn tmps).run Tryd.prog W = .ok (talV t) W := by
  have hl := run_loadVar_mid (P := Tryd.prog) W b 0 26 (t.map intV) _ hT.range Tryd.underlying26 rfl (by rw [List.length_map, ht]; exact infoT)
  rw [Array.getD_eq_getD_getElem?] at ha
  unfold results
  rw [h]
  simp [ha, asAddr, hl]
theorem wpList_store_tal {ops : Array Oper} {rest : List Oper} {op : Oper} {a : Act} {w : World} {Q : Exit → Act → World → Prop} (hgd : op.guard = none) (x y : Operand) (ho : op.op = .store 26 x y)
    (b : Nat) (z t : List Int) (hz : z.length = 22) (ht : t.length = 22) (hx : a.eval x = .pointer (some ⟨b, 0, none⟩)) (hy : a.eval y = talV t) (hT : TalB w b z)
    (h : ∀ w', TalB w' b t → w.grownBy w' (some b) → wpList Tryd.prog ops Q rest (a.put op.dst undef) w') : wpList Tryd.prog ops Q (op :: rest) a w := by
  obtain ⟨h1, h2⟩ := hT.put hz ht
  have hl : (t.map intV).toArray.size = 22 := by simp [ht]
  refine wpList_store_mid hgd 26 x y ho b 0 (t.map intV).toArray hx hy (by rw [hl]; exact hT.there hz) (by rw [hl]; exact infoT) (all_oneCell_toArray fun v hv => ?_) ?_
  · obtain ⟨x, _, rfl⟩ := List.mem_map.1 hv
    rfl
  · rw [List.toList_toArray]
    exact h _ h1 h2
theorem wpList_load_tal {ops : Array Oper} {rest : List Oper} {op : Oper} {a : Act} {w : World} {Q : Exit → Act → World → Prop} (hgd : op.guard = none) (x : Operand) (ho : op.op = .load 26 x)
    (b : Nat) (t : List Int) (ht : t.length = 22) (hx : a.eval x = .pointer (some ⟨b, 0, none⟩)) (hT : TalB w b t)
    (h : wpList Tryd.prog ops Q rest (a.put op.dst (talV t)) w) : wpList Tryd.prog ops Q (op :: rest) a w :=
  wpList_load_mid hgd 26 x ho b 0 hx (t.map intV) _ hT.range Tryd.underlying26 rfl (by rw [List.length_map, ht]; exact infoT) h
/-- What another row's reading keeps, while a tally's block is written. -/
theorem VRead.kept {W W' : World} {A : Option Addr} {B0 b o n : Nat} {t : List Int} (h : VRead W A (ptrs b o n)) (hT : TalB W B0 t) (hg : W.grownBy W' (some B0)) : VRead W' A (ptrs b o n) := fun hn => by
  obtain ⟨g, p, h1, h2, h3⟩ := h hn
  have hne : g ≠ B0 := fun e => by
    subst e
    have hp : 0 < n := Nat.pos_of_ne_zero fun e => hn (by subst e; rfl)
    obtain ⟨x, hx⟩ := hT.int (h3 0 _ (ptrs_get hp))
    cases hx
  exact ⟨g, p, h1, Nat.lt_of_lt_of_le h2 hg.size, fun k x hk => (World.cell?_of_block (a := ⟨g, _, none⟩) (hg.block g h2 fun e => hne (by injection e))).trans (h3 k x hk)⟩
theorem zT_arr : (zT.map intV).toArray = #[.int .i64 0, .int .i64 0, .int .i64 0, .int .i64 0, .int .i64 0, .int .i64 0, .int .i64 0, .int .i64 0, .int .i64 0, .int .i64 0, .int .i64 0, .int .i64 0, .int .i64 0, .int .i64 0, .int .i64 0, .int .i64 0, .int .i64 0, .int .i64 0, .int .i64 0, .int .i64 0, .int .i64 0, .int .i64 0] := rfl
theorem PartsG.kept {W W' : World} {g b B0 : Nat} {t : List Int} (h : PartsG W g b) (hT : TalB W B0 t) (hg : W.grownBy W' (some B0)) : PartsG W' g b := by
  obtain ⟨h2, h3⟩ := h
  have hne : g ≠ B0 := fun e => by
    subst e
    obtain ⟨A, c, h4, _⟩ := h3 0 (by decide)
    obtain ⟨x, hx⟩ := hT.int h4
    cases hx
  refine ⟨Nat.lt_of_lt_of_le h2 hg.size, fun n hn => ?_⟩
  obtain ⟨A, c, h4, h5⟩ := h3 n hn
  exact ⟨A, c, (World.cell?_of_block (a := ⟨g, n, none⟩) (hg.block g h2 fun e => hne (by injection e))).trans h4, h5.kept hT hg⟩
theorem three_blocks {w W1 : World} {o1 o2 o3 : Obj} (hb : Below (((w.alloc o1).alloc o2).alloc o3).heap.size (((w.alloc o1).alloc o2).alloc o3) W1) :
    W1.heap[w.heap.size]? = some o1 ∧ W1.heap[w.heap.size + 1]? = some o2 ∧ W1.heap[w.heap.size + 1 + 1]? = some o3 ∧ Below w.heap.size w W1 ∧ w.heap.size + 3 ≤ W1.heap.size := by
  have hs := hb.size
  have hB0 := (((Below.refl w.heap.size w).alloc (Nat.le_refl _) o1).alloc (by simp) o2).alloc (by simp; omega) o3
  refine ⟨(hb.block _ (by simp; omega)).trans ?_, (hb.block _ (by simp)).trans ?_, (hb.block _ (by simp)).trans ?_, ptrans hB0 hb, by simpa using hs⟩
  · rw [Below.heap_alloc _ _ _ (by simp; omega), Below.heap_alloc _ _ _ (by simp)]
    exact heap_alloc_new w o1
  · rw [Below.heap_alloc _ _ _ (by simp)]
    have := heap_alloc_new (w.alloc o1) o2
    simpa using this
  · have := heap_alloc_new ((w.alloc o1).alloc o2) o3
    simpa using this
/-- So many numbers done. -/
def mixL (f : Int → Int → Int) (t y : List Int) (j : Nat) : List Int := (List.zipWith f t y).take j ++ t.drop j
theorem mix_zero (f : Int → Int → Int) (t y : List Int) : mixL f t y 0 = t := by simp [mixL]
theorem mix_len {f : Int → Int → Int} {t y : List Int} {n : Nat} (ht : t.length = n) (hy : y.length = n) {j : Nat} (hj : j ≤ n) : (mixL f t y j).length = n := by
  simp [mixL, ht, hy]; omega
theorem mix_all {f : Int → Int → Int} {t y : List Int} {n : Nat} (ht : t.length = n) (hy : y.length = n) : mixL f t y n = List.zipWith f t y := by
  unfold mixL
  rw [List.take_of_length_le (by simp [ht, hy]), List.drop_of_length_le (by omega), List.append_nil]
theorem mix_get {f : Int → Int → Int} {t y : List Int} {n : Nat} (ht : t.length = n) (hy : y.length = n) {j : Nat} {x : Int} (hx : t[j]? = some x) : (mixL f t y j)[j]? = some x := by
  have hj := (List.getElem?_eq_some_iff.1 hx).1
  unfold mixL
  rw [List.getElem?_append_right (by simp [ht, hy]; omega), List.length_take, List.length_zipWith, List.getElem?_drop, ← hx]
  congr 1
  omega
theorem mix_set {f : Int → Int → Int} {t y : List Int} {n : Nat} (ht : t.length = n) (hy : y.length = n) {j : Nat} {a b : Int} (ha : t[j]? = some a) (hb : y[j]? = some b) : (mixL f t y j).set j (f a b) = mixL f t y (j + 1) := by
  have hj := (List.getElem?_eq_some_iff.1 ha).1
  have hz : (List.zipWith f t y)[j]? = some (f a b) := by rw [List.getElem?_zipWith, ha, hb]
  have hd : t.drop j = a :: t.drop (j + 1) := by
    rw [List.drop_eq_getElem_cons hj]
    congr 1
    exact (List.getElem?_eq_some_iff.1 ha).2
  have hl : ((List.zipWith f t y).take j).length = j := by
    rw [List.length_take, List.length_zipWith, ht, hy]
    omega
  unfold mixL
  rw [hd, List.set_append_right _ _ (by omega), hl, Nat.sub_self, List.set_cons_zero, List.take_add_one, hz, Option.toList_some, List.append_assoc, List.singleton_append]
theorem pOff_next {n : Nat} (h : n < 4) : pOff n + pLen n = pOff (n + 1) := by
  match n, h with
  | 0, _ => rfl
  | 1, _ => rfl
  | 2, _ => rfl
  | 3, _ => rfl
theorem pOff_lt {n k : Nat} (h : n < 4) (hk : k < pLen n) : pOff n + k < 22 := by
  match n, h with
  | 0, _ => have : k < 4 := hk; show 0 + k < 22; omega
  | 1, _ => have : k < 16 := hk; show 4 + k < 22; omega
  | 2, _ => have : k < 1 := hk; show 20 + k < 22; omega
  | 3, _ => have : k < 1 := hk; show 21 + k < 22; omega
theorem pLen_pos {n : Nat} : 0 < pLen n := by
  match n with
  | 0 => decide
  | 1 => decide
  | n + 2 => exact Nat.one_pos
theorem pLen_le {n : Nat} : pLen n ≤ 16 := by
  match n with
  | 0 => decide
  | 1 => decide
  | n + 2 => show 1 ≤ 16; decide
/-- The block of a row that is not empty. -/
theorem VRead.blk {W : World} {A : Option Addr} {b o n : Nat} (h : VRead W A (ptrs b o n)) (hn : 0 < n) : ∃ g p, A = some ⟨g, p, none⟩ := by
  obtain ⟨g, p, h1, _⟩ := h (fun e => by have := congrArg List.length e; rw [ptrs_len] at this; simp at this; omega)
  exact ⟨g, p, h1⟩
theorem VRead.ptr {W : World} {g p b o n k : Nat} (h : VRead W (some ⟨g, p, none⟩) (ptrs b o n)) (hk : k < n) : W.cell? ⟨g, p + k, none⟩ = some (.pointer (some ⟨b, o + k, none⟩)) := by
  obtain ⟨g', p', h1, _, h3⟩ := h.get (ptrs_get hk)
  cases h1
  exact h3 W (Below.refl _ _)
/-- One row, in whatever world in which a tally's block alone was written. -/
theorem PartsG.row {w2 : World} {g b B0 : Nat} {t : List Int} (h : PartsG w2 g b) (hT : TalB w2 B0 t) {n : Nat} (hn : n < 4) : ∃ bb p c, ∀ W, w2.grownBy W (some B0) → W.cell? ⟨g, n, none⟩ = some (.slice (some ⟨bb, p, none⟩) (pLen n) c) ∧ ∀ k, k < pLen n → W.cell? ⟨bb, p + k, none⟩ = some (.pointer (some ⟨b, pOff n + k, none⟩)) := by
  obtain ⟨A, c, h1, h2⟩ := h.2 n hn
  obtain ⟨bb, p, rfl⟩ := h2.blk pLen_pos
  refine ⟨bb, p, c, fun W hW => ⟨?_, fun k hk => (h2.kept hT hW).ptr hk⟩⟩
  have hne : g ≠ B0 := fun e => by
    subst e
    obtain ⟨x, hx⟩ := hT.int h1
    cases hx
  exact (World.cell?_of_block (a := ⟨g, n, none⟩) (hW.block g h.1 fun e => hne (by injection e))).trans h1
/-- So far. -/
def StT (f : Int → Int → Int) (t y : List Int) (B0 : Nat) (w2 W : World) (j : Nat) : Prop := TalB W B0 (mixL f t y j) ∧ w2.grownBy W (some B0)
theorem wrap_k (x : Int) : IntKind.i64.wrap x = wrap64 x := IntWalk.i64_left x
theorem cell_bel {W W' : World} {b o : Nat} {v : Value} (h : W.cell? ⟨b, o, none⟩ = some v) (hb : Below W.heap.size W W') : W'.cell? ⟨b, o, none⟩ = some v :=
  (World.cell?_of_block (a := ⟨b, o, none⟩) (hb.block b (World.block_lt_of_cell? W _ h))).trans h
theorem grown_bel {W W' W2 : World} {r : Option Nat} (h : W.grownBy W' r) (hb : Below W'.heap.size W' W2) : W.grownBy W2 r :=
  ⟨hb.os.trans h.os, hb.tape.trans h.tape, hb.output.trans h.output, Nat.le_trans h.size hb.size, fun i hi hne => (hb.block i (Nat.lt_of_lt_of_le hi h.size)).trans (h.block i hi hne)⟩
theorem TalB.below {W W' : World} {b : Nat} {t : List Int} (h : TalB W b t) (hb : Below W.heap.size W W') : TalB W' b t := (hb.block b (Array.getElem?_eq_some_iff.1 h).1).trans h
theorem StT.below {f : Int → Int → Int} {t y : List Int} {B0 j : Nat} {w2 W W' : World} (h : StT f t y B0 w2 W j) (hb : Below W.heap.size W W') : StT f t y B0 w2 W' j := ⟨h.1.below hb, grown_bel h.2 hb⟩
theorem StT.set {f : Int → Int → Int} {t y : List Int} {B0 j : Nat} {w2 W : World} (h : StT f t y B0 w2 W j) (ht : t.length = 22) (hy : y.length = 22) {a b : Int} (ha : t[j]? = some a) (hb : y[j]? = some b) : StT f t y B0 w2 (W.setCell ⟨B0, j, none⟩ (.int .i64 (f a b))) (j + 1) :=
  ⟨by rw [← mix_set ht hy ha hb]; exact h.1.set j _, pgrown_trans h.2 (pgrown_set _ _ _ _)⟩
set_option maxRecDepth 100000 in
set_option maxHeartbeats 4000000 in
theorem t_less (t y : List Int) (ht : t.length = 22) (hy : y.length = 22) (w : World) :
    Calls Tryd.prog 7 #[talV t, talV y] w fun e w' => e = .returned (talV (subT t y)) ∧ Below w.heap.size w w' := by
  have HT := Lib.hid ht
  have HY := Lib.hid hy
  clear ht hy
  go_enter Tryd.func7, Tryd.ntmps7
  go_wp2_with (first
    | (go_at_call 15; (with_reducible refine (t_parts (w.heap.size + 1) _).mono ?_); rintro e w1 ⟨vy, rfl, ⟨gy, rfl, hp⟩, hb⟩
       obtain ⟨h1, h2, h3, h4, h5⟩ := three_blocks hb
       have HP := Lib.hid hp
       have HR1 : Hid (TalB w1 (w.heap.size + 1 + 1) zT) := by rw [TalB, zT_arr]; exact h3
       have HB1 := Lib.hid (And.intro h1 (And.intro h2 h4))
       clear hp hb h1 h2 h3 h4 h5)
    | (go_at_call 15; (with_reducible refine (t_parts w.heap.size _).mono ?_); rintro e w2 ⟨vt, rfl, ⟨gt, rfl, hp⟩, hb⟩
       have HR2 : Hid (TalB w2 (w.heap.size + 1 + 1) zT) := (hb.block _ (Array.getElem?_eq_some_iff.1 HR1.out).1).trans HR1.out
       have HPT := Lib.hid hp
       have HPY := Lib.hid (HP.out.below hb)
       have HB2 := Lib.hid (And.intro ((hb.block _ (Array.getElem?_eq_some_iff.1 HB1.out.1).1).trans HB1.out.1) (And.intro ((hb.block _ (Array.getElem?_eq_some_iff.1 HB1.out.2.1).1).trans HB1.out.2.1) (ptrans HB1.out.2.2 hb)))
       clear hp hb))
  have HS0 : Hid (StT (fun a b => wrap64 (a - b)) t y w.heap.size w2 w2 (pOff 0)) := ⟨by rw [show pOff 0 = 0 from rfl, mix_zero]; exact HB2.out.1, ⟨rfl, rfl, rfl, Nat.le_refl _, fun _ _ _ => rfl⟩⟩
  go_loopw [13] (fun v W => ∃ n : Nat, v = .int .i64 (n : Int) ∧ n ≤ 4 ∧ Hid (StT (fun a b => wrap64 (a - b)) t y w.heap.size w2 W (pOff n))) (fun v _ => 4 - (intOf v).toNat)
  case atStart => exact ⟨0, rfl, Nat.zero_le _, HS0⟩
  case round =>
    clear HS0
    obtain ⟨n, rfl, hn, HS⟩ := hrel
    by_cases he : n = 4
    · subst he
      have HF : Hid (TalB wr w.heap.size (subT t y)) := by
        have h := HS.out.1
        rw [show pOff 4 = 22 from rfl, mix_all HT.out HY.out] at h
        exact h
      have hlen := (subT_tal HT.out HY.out).1
      have HLN := Lib.hid hlen
      clear hlen
      have HR3 : Hid (TalB wr (w.heap.size + 1 + 1) zT) := (HS.out.2.block _ (Array.getElem?_eq_some_iff.1 HR2.out).1 (by intro e; injection e with e; omega)).trans HR2.out
      go_wp2_with (first
        | (refine wpList_load_tal rfl _ rfl w.heap.size (subT t y) HLN.out rfl HF.out ?_)
        | (refine wpList_store_tal rfl _ _ rfl (w.heap.size + 1 + 1) zT (subT t y) rfl HLN.out rfl rfl HR3.out ?_; intro w4 h4 hg4))
      exact ⟨rfl, _, results_tal (a := 4) rfl rfl h4 HLN.out, rfl, below_grown (below_grown HB2.out.2.2 HS.out.2 (Nat.le_refl _)) hg4 (by omega)⟩
    · have hn4 : n < 4 := by omega
      obtain ⟨gt2, pt2, ct, hrt⟩ := HPT.out.row HB2.out.1 hn4
      obtain ⟨gy2, py2, cy, hry⟩ := HPY.out.row HB2.out.1 hn4
      have c1 := (hrt wr HS.out.2).1
      have c2 := (hry wr HS.out.2).1
      have HPT2 := Lib.hid hrt
      have HPY2 := Lib.hid hry
      have hm16 := pLen_le (n := n)
      have HLT := Lib.hid (fun k (hk : k < pLen n) => pOff_lt hn4 hk)
      have HNX := Lib.hid (pOff_next hn4)
      obtain ⟨m, hm⟩ : ∃ m, pLen n = m := ⟨_, rfl⟩
      obtain ⟨q, hq⟩ : ∃ q, pOff n = q := ⟨_, rfl⟩
      rw [hm] at HPT2 HPY2 hm16 HLT HNX c1 c2
      rw [hq] at HPT2 HPY2 HLT HNX HS
      clear hrt hry hm hq
      have HM := Lib.hid hm16
      go_wp2
      have HS0 : Hid (StT (fun a b => wrap64 (a - b)) t y w.heap.size w2 wr (q + 0)) := HS.out
      go_loopw [23] (fun v W => ∃ k : Nat, v = .int .i64 (k : Int) ∧ k ≤ m ∧ Hid (StT (fun a b => wrap64 (a - b)) t y w.heap.size w2 W (q + k))) (fun v _ => m - (intOf v).toNat)
      case atStart => exact ⟨0, rfl, Nat.zero_le _, HS0⟩
      case round =>
        clear HS0 HS c1 c2
        obtain ⟨k, rfl, hk, HS⟩ := hrel
        by_cases hkm : k = m
        · subst hkm
          have HS2 : Hid (StT (fun a b => wrap64 (a - b)) t y w.heap.size w2 wr (pOff (n + 1))) := by rw [← HNX.out]; exact HS.out
          clear HS
          go_wp2
          exact ⟨⟨n + 1, by go_num, by omega, HS2⟩, by simp [intOf]; omega⟩
        · have hk2 : k < m := by omega
          have hj := HLT.out k hk2
          obtain ⟨j, hjq⟩ : ∃ j, q + k = j := ⟨_, rfl⟩
          have p1 := (HPT2.out wr HS.out.2).2 k hk2
          have p2 := (HPY2.out wr HS.out.2).2 k hk2
          rw [hjq] at p1 p2 HS hj
          obtain ⟨a, ha⟩ : ∃ a, t[j]? = some a := ⟨_, List.getElem?_eq_getElem (by rw [HT.out]; exact hj)⟩
          obtain ⟨b, hb⟩ : ∃ b, y[j]? = some b := ⟨_, List.getElem?_eq_getElem (by rw [HY.out]; exact hj)⟩
          have hty : TalB wr (w.heap.size + 1) y := (HS.out.2.block _ (Array.getElem?_eq_some_iff.1 HB2.out.2.1).1 (by intro e; injection e with e; omega)).trans HB2.out.2.1
          have c3 := HS.out.1.cell (mix_get HT.out HY.out ha)
          have c4 := hty.cell hb
          have HC := Lib.hid (And.intro p1 (And.intro c3 c4))
          have HST : Hid (∀ W, Below wr.heap.size wr W → StT (fun a b => wrap64 (a - b)) t y w.heap.size w2 (W.setCell ⟨w.heap.size, j, none⟩ (.int .i64 (IntKind.i64.wrap (a - b)))) (j + 1)) := fun W h => by rw [wrap_k]; exact (HS.out.below h).set HT.out HY.out ha hb
          have HFZ := Lib.hid (fun (W : World) (h : Below wr.heap.size wr W) => (HS.out.1.below h).froz j)
          have HJQ := Lib.hid hjq
          clear HS hty ha hb p1 c3 c4 hj hjq
          go_wp2
          refine wp_region_last 11 RelB (phi [isV (.slice (some ⟨gt2, pt2, none⟩) m ct), isV (.int .i64 (k : Int)), isV (.pointer (some ⟨gt2, pt2 + k, none⟩)), isV (.pointer (some ⟨w.heap.size, j, none⟩)), isV (.pointer (some ⟨w.heap.size, j, none⟩)), isV (.int .i64 a), isV (.pointer (some ⟨w.heap.size + 1, j, none⟩)), isV (.pointer (some ⟨w.heap.size + 1, j, none⟩)), isV (.int .i64 b), isV (.int .i64 (IntKind.i64.wrap (a - b))), isV (.pointer (some ⟨w.heap.size, j, none⟩))]) (fun W => StT (fun a b => wrap64 (a - b)) t y w.heap.size w2 W (j + 1)) (by kernel_rfl) (by kernel_rfl) (by kernel_rfl) (RelB.of (below_drew _)) (fun _ _ _ a b => a.trans b) ?_ ?_ ?_ ?_
          · refine stays_phiR ?_
            simp only [List.forall_mem_cons]
            exact ⟨fun _ _ _ h _ => h, fun _ _ _ h _ => h, fun _ _ _ h _ => h, fun _ _ _ h _ => h, fun _ _ _ h _ => h, fun _ _ _ h _ => h, fun _ _ _ h _ => h, fun _ _ _ h _ => h, fun _ _ _ h _ => h, fun _ _ _ h _ => h, fun _ _ _ h _ => h, fun _ h => absurd h (by simp)⟩
          · refine ⟨?_, ?_, ?_, ?_, ?_, ?_, ?_, ?_, ?_, ?_, ?_, trivial⟩
            · refine opR_mk rfl fun aa W2 hB hp hq K hK => ?_
              have e7 : aa.tmps[7]?.getD undef = .slice (some ⟨gt2, pt2, none⟩) m ct := hp 7 (by kernel_rfl)
              clear hp hq
              go_simp
              exact hK _ _ (RelB.refl _) rfl
            · refine opR_mk rfl fun aa W2 hB hp hq K hK => ?_
              have e8 : aa.tmps[8]?.getD undef = .int .i64 (k : Int) := hp 8 (by kernel_rfl)
              clear hp hq
              go_simp
              exact hK _ _ (RelB.refl _) rfl
            · refine opR_mk rfl fun aa W2 hB hp hq K hK => ?_
              have e28 : aa.tmps[28]?.getD undef = .slice (some ⟨gt2, pt2, none⟩) m ct := hq 0 _ (by kernel_rfl) rfl
              have e29 : aa.tmps[29]?.getD undef = .int .i64 (k : Int) := hq 1 _ (by kernel_rfl) rfl
              clear hp hq
              go_simp
              exact hK _ _ (RelB.refl _) rfl
            · refine opR_mk rfl fun aa W2 hB hp hq K hK => ?_
              have e30 : aa.tmps[30]?.getD undef = .pointer (some ⟨gt2, pt2 + k, none⟩) := hq 2 _ (by kernel_rfl) rfl
              have c1 := cell_bel HC.out.1 hB
              clear hp hq
              go_simp
              exact hK _ _ (RelB.refl _) rfl
            · refine opR_mk rfl fun aa W2 hB hp hq K hK => ?_
              have e31 : aa.tmps[31]?.getD undef = .pointer (some ⟨w.heap.size, j, none⟩) := hq 3 _ (by kernel_rfl) rfl
              clear hp hq
              go_simp
              exact hK _ _ (RelB.refl _) rfl
            · refine opR_mk rfl fun aa W2 hB hp hq K hK => ?_
              have e32 : aa.tmps[32]?.getD undef = .pointer (some ⟨w.heap.size, j, none⟩) := hq 4 _ (by kernel_rfl) rfl
              have c1 := cell_bel HC.out.2.1 hB
              clear hp hq
              go_simp
              exact hK _ _ (RelB.refl _) rfl
            · refine opR_mk rfl fun aa W2 hB hp hq K hK => ?_
              have e9 : aa.tmps[9]?.getD undef = .pointer (some ⟨w.heap.size + 1, j, none⟩) := hp 9 (by kernel_rfl)
              clear hp hq
              go_simp
              exact hK _ _ (RelB.refl _) rfl
            · refine opR_mk rfl fun aa W2 hB hp hq K hK => ?_
              have e34 : aa.tmps[34]?.getD undef = .pointer (some ⟨w.heap.size + 1, j, none⟩) := hq 6 _ (by kernel_rfl) rfl
              clear hp hq
              go_simp
              exact hK _ _ (RelB.refl _) rfl
            · refine opR_mk rfl fun aa W2 hB hp hq K hK => ?_
              have e35 : aa.tmps[35]?.getD undef = .pointer (some ⟨w.heap.size + 1, j, none⟩) := hq 7 _ (by kernel_rfl) rfl
              have c1 := cell_bel HC.out.2.2 hB
              clear hp hq
              go_simp
              exact hK _ _ (RelB.refl _) rfl
            · refine opR_mk rfl fun aa W2 hB hp hq K hK => ?_
              have e33 : aa.tmps[33]?.getD undef = .int .i64 a := hq 5 _ (by kernel_rfl) rfl
              have e36 : aa.tmps[36]?.getD undef = .int .i64 b := hq 8 _ (by kernel_rfl) rfl
              clear hp hq
              go_simp
              exact hK _ _ (RelB.refl _) rfl
            · refine opR_mk rfl fun aa W2 hB hp hq K hK => ?_
              have e31 : aa.tmps[31]?.getD undef = .pointer (some ⟨w.heap.size, j, none⟩) := hq 3 _ (by kernel_rfl) rfl
              clear hp hq
              go_simp
              exact hK _ _ (RelB.refl _) rfl
          · intro oN hoN aa W2 hB hp hq K hK
            obtain rfl := Option.some.inj hoN
            have e38 : aa.tmps[38]?.getD undef = .pointer (some ⟨w.heap.size, j, none⟩) := hq 10 _ (by decide) rfl
            have e37 : aa.tmps[37]?.getD undef = .int .i64 (IntKind.i64.wrap (a - b)) := hq 9 _ (by decide) rfl
            have c1 := cell_bel HC.out.2.1 hB
            have f1 := HFZ.out W2 hB
            have HS3 := Lib.hid (HST.out W2 hB)
            clear hp hq
            go_simp
            exact hK _ HS3.out
          · intro vs W3 hF hv
            have HF3 := Lib.hid hF
            clear hF hv
            simp only [putAll, Act.put, List.setIfInBounds_toArray, List.set_cons_succ, List.set_cons_zero, Nat.zero_add, Nat.reduceAdd]
            go_wp2
            exact ⟨⟨k + 1, by go_num, by omega, by rw [← Nat.add_assoc, HJQ.out]; exact HF3⟩, by simp [intOf]; omega⟩
end Go.Proofs.YtenddeglhjmhcaaDoor
