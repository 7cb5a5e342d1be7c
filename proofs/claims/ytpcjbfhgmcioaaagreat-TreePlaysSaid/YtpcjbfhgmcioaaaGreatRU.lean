/- The program's tree: Read. -/
import Derived.Test.YtpcjbfhgmcioaaaGreatRS
import Derived.Lib.SliceRun
import Derived.Lib.LazyBuf
import Derived.Laws.BytesString
import Derived.Deep.MidRow
namespace Go.Proofs.YtpcjbfhgmcioaaaGreat
open Go.RowKit Go.Maps

def z64 : List UInt8 := List.replicate 64 0
def byteV (c : UInt8) : Value := .int .u8 (c.toNat : Int)
def z66 : Array Value := Array.replicate 64 (.int .u8 0)
theorem zero66 (w : World) : (zeroValue 84).run Tryz.prog w = .ok (.agg z66) w := by kernel_rfl
theorem pageV_eq (b : List UInt8) : pageV b = .agg (b.map byteV).toArray := rfl
theorem z66_eq : Value.agg z66 = pageV z64 := rfl
theorem info66 : (Tryz.prog.info? 84).map (·.size) = some 64 := by kernel_rfl
theorem wpList_alloc_z {P : Program} {ops : Array Oper} {rest : List Oper} {d : Option Tmp} {ty : TypeId} {pos : String} {after : Array Edge} {a : Act} {w : World} {Q : Exit → Act → World → Prop} (t : TypeId) (z : Array Value) (hz : ∀ w, (zeroValue t).run P w = .ok (.agg z) w)
    (h : ∀ w', w' = w.alloc (.cells z t) → wpList P ops Q rest (a.put d (.pointer (some ⟨w.heap.size, 0, none⟩))) w') : wpList P ops Q (⟨d, .alloc t, ty, pos, after, none⟩ :: rest) a w := by
  refine wpList_plain rfl fun K hK => ?_
  unfold Oper.wp
  simp [execOp, Instr.alloc, hz, Result.andThen]
  exact hK _ _ (h _ rfl)
theorem wpList_store_run {P : Program} {ops : Array Oper} {rest : List Oper} {d : Option Tmp} {ty : TypeId} {pos : String} {after : Array Edge} {a : Act} {w : World} {Q : Exit → Act → World → Prop} (t : TypeId) (x y : Tmp) (w' : World) (px v : Value) (hx : a.eval (.tmp x) = px) (hy : a.eval (.tmp y) = v)
    (hrun : (Instr.storeAt t px v).run P w = .ok () w') (h : wpList P ops Q rest (a.put d undef) w') : wpList P ops Q (⟨d, .store t (.tmp x) (.tmp y), ty, pos, after, none⟩ :: rest) a w := by
  refine wpList_plain rfl fun K hK => ?_
  unfold Oper.wp
  simp only [execOp, hx, hy]
  rw [Sem.run_bind]
  rw [hrun]
  exact hK _ _ h
/-- A page of the call's own. -/
structure PageAt (w : World) (B : Nat) (b : List UInt8) : Prop where
  range : w.rangeAt B 0 (b.map byteV)
  there : w.there B 0 64
theorem byteV_one (b : List UInt8) : ∀ v ∈ b.map byteV, v.oneCell' = true := fun v hv => by obtain ⟨c, _, rfl⟩ := List.mem_map.1 hv; rfl
theorem there_new (w : World) (T : TypeId) : (w.alloc (.cells z66 T)).there w.heap.size 0 64 := fun j hj => by
  have h := heap_alloc_new w (.cells z66 T)
  refine ⟨?_, ?_⟩
  · have : z66[j]? = some (.int .u8 0) := by unfold z66; rw [Array.getElem?_replicate, if_pos hj]
    simp only [World.cell?, h]; simp [this]
  · simp only [World.frozen?, h]; simp
theorem grown_setCells (B : Nat) : ∀ (vs : List Value) (o : Nat) (w : World), w.grownBy (w.setCells B o vs) (some B)
  | [], _, w => grown_refl w _
  | v :: r, o, w => pgrown_trans (pgrown_set w B o v) (grown_setCells B r (o + 1) _)
/-- The page is stored into a variable. -/
theorem page_store {w : World} {B : Nat} {b : List UInt8} (hb : b.length = 64) (ht : w.there B 0 64) : ∃ w', (Instr.storeAt 84 (.pointer (some ⟨B, 0, none⟩)) (pageV b)).run Tryz.prog w = .ok () w' ∧ PageAt w' B b ∧ w.grownBy w' (some B) := by
  have hl : (b.map byteV).toArray.size = 64 := by simp [hb]
  have hrun := run_storeAt_mid (P := Tryz.prog) w B 0 84 (b.map byteV).toArray (by rw [hl]; exact ht) (by rw [hl]; exact info66) (all_oneCell_toArray (byteV_one b))
  rw [List.toList_toArray] at hrun
  refine ⟨_, hrun, ⟨World.rangeAt_setCells_same w B 0 _ (by rw [List.length_map, hb]; exact ht), World.there_setCells ht B 0 _⟩, ?_⟩
  exact grown_setCells B _ 0 w
theorem PageAt.load {w : World} {B : Nat} {b : List UInt8} (h : PageAt w B b) (hb : b.length = 64) : (Instr.loadAt 84 (.pointer (some ⟨B, 0, none⟩))).run Tryz.prog w = .ok (pageV b) w :=
  run_loadAt_mid w B 0 84 (b.map byteV) _ h.range Tryz.underlying84 rfl (by rw [List.length_map, hb]; exact info66)
theorem PageAt.below {w w' : World} {B : Nat} {b : List UInt8} (h : PageAt w B b) (hb : w'.heap[B]? = w.heap[B]?) : PageAt w' B b :=
  ⟨fun j v hv => (World.cell?_of_block hb).trans (h.range j v hv), fun j hj => by
    obtain ⟨h1, h2⟩ := h.there j hj
    exact ⟨by rw [World.cell?_of_block (a := ⟨B, 0 + j, none⟩) hb]; exact h1, (World.frozen?_of_block (a := ⟨B, 0 + j, none⟩) hb).trans h2⟩⟩
theorem push_all (l : List UInt8) : ∀ s : ByteArray, (l.map fun c : UInt8 => (c.toNat : Int)).foldl (fun r n => r.push (UInt8.ofNat n.toNat)) s = ⟨(s.data.toList ++ l).toArray⟩ := by
  induction l with
  | nil => intro s; simp
  | cons c l ih =>
    intro s
    simp only [List.map_cons, List.foldl_cons, ih]
    congr 1
    simp [ByteArray.push]
/-- string(b[:n]). -/
theorem PageAt.text {w : World} {B : Nat} {b : List UInt8} (h : PageAt w B b) (n c : Nat) : 
    (convert 96 9 (.slice (some ⟨B, 0, none⟩) (b.take n).length c)).run Tryz.prog w = .ok (.string ⟨(b.take n).toArray⟩) w := by
  rw [run_convert_bytes_string w _ _ _ _ _ _ Tryz.underlying96 Tryz.underlying5 Tryz.underlying9]
  have hl : (loadCells ⟨B, 0, none⟩ (b.take n).length).run Tryz.prog w = .ok (((b.take n).map fun c : UInt8 => (c.toNat : Int)).map (Value.int .u8)).toArray w := by
    have := run_loadCells_list (P := Tryz.prog) w ⟨B, 0, none⟩ ((b.take n).map byteV) (fun j v hv => by
      rw [Addr.add_mid]
      refine h.range j v ?_
      rw [List.map_take, List.getElem?_take] at hv
      split at hv
      · exact hv
      · cases hv)
    rw [List.length_map] at this
    rw [List.map_map]
    exact this
  rw [run_bytesToString w _ _ _ _ hl, push_all]
  rfl
theorem PageAt.text' {w : World} {B : Nat} {b : List UInt8} (h : PageAt w B b) (n c : Nat) (hn : n ≤ b.length) :
    (convert 96 9 (.slice (some ⟨B, 0, none⟩) n c)).run Tryz.prog w = .ok (.string ⟨(b.take n).toArray⟩) w := by
  have := h.text n c
  rwa [List.length_take, Nat.min_eq_left hn] at this
/-- What is read of a page. -/
def readL (x : PN) (p : Int) : List UInt8 := ((x.pages p).getD z64).take (max 0 (min 64 (x.size - p * 64))).toNat
def readR (t : PT) (i p : Int) : ByteArray × Int :=
  if firstE [thereE t [i], fileE' t i, pagedE p] = 0 then (match t.n i with | some x => (⟨(readL x p).toArray⟩, 0) | none => (ByteArray.empty, 0)) else (ByteArray.empty, firstE [thereE t [i], fileE' t i, pagedE p])
/-- The pages' form. -/
structure PagesOk (x : PN) : Prop where
  len : ∀ p b, x.pages p = some b → b.length = 64 ∧ 0 ≤ p ∧ p < 36
  size : 0 ≤ x.size ∧ x.size ≤ 2304
section
variable {F : Nat → Prop} {P N : Nat} {y : Lay} {t : PT}
theorem NodeM.page {w : World} {Q L G : Nat} {x : PN} (h : NodeM w Q L G N x) {p : Int} (hp : -9223372036854775808 ≤ p ∧ p ≤ 9223372036854775807) :
    (Instr.lookup 79 (.map (some G)) (.int .i64 p) false).run Tryz.prog w = .ok (pageV ((x.pages p).getD z64)) w := by
  have := h.pages.look law64 Tryz.underlying79 (zero66 w) (pkey64 hp)
  rw [this]
  cases hx : x.pages p with
  | none => simp [pagesM, hx, z66_eq]
  | some v => simp [pagesM, hx]
set_option maxRecDepth 100000 in
set_option maxHeartbeats 1000000 in
theorem t_readP (i p : Int) (w : World) (h : TreeM w F P N y t) (hi : U32 i) (hok : ∀ x, t.n i = some x → PagesOk x) :
    Calls Tryz.prog 28 #[.pointer (some ⟨P, 0, none⟩), .int .u32 i, .int .i64 p] w fun e w' => e = .returned (.tuple #[.string (readR t i p).1, .int .i64 (readR t i p).2]) ∧ Below w.heap.size w w' := by
  have HTh := Lib.hid (there_later h i hi)
  have HFl := Lib.hid (file_later h i)
  have HT := Lib.hid h
  obtain ⟨r, hr⟩ : ∃ r, firstE [thereE t [i], fileE' t i, pagedE p] = r := ⟨_, rfl⟩
  by_cases hz : r = 0
  · subst hz
    have hz := hr
    obtain ⟨z1, hz⟩ := firstE_cons hz
    obtain ⟨z2, hz⟩ := firstE_cons hz
    obtain ⟨z3, _⟩ := firstE_cons hz
    obtain ⟨x, hx⟩ := Option.isSome_iff_exists.1 (there_one z1)
    have hp1 : 0 ≤ p ∧ p < 36 := by
      unfold pagedE at z3
      by_cases a : p < 0 ∨ 36 ≤ p
      · rw [if_pos a] at z3; cases z3
      · omega
    obtain ⟨p1, p2⟩ := hp1
    have hk := hok x hx
    have s1 := hk.size.1
    have s2 := hk.size.2
    have HS : Hid (readR t i p = (⟨(readL x p).toArray⟩, 0)) := by show _ = _; unfold readR; rw [if_pos hr, hx]
    have HE := Lib.hid hr
    have HX := Lib.hid hx
    have HLen : Hid (((x.pages p).getD z64).length = 64) := by
      show _ = _
      cases hb : x.pages p with
      | none => rfl
      | some b => exact (hk.len p b hb).1
    clear h hi hok hr z1 z2 z3 hx hk
    by_cases hq : 64 ≤ x.size - p * 64
    · have hq1 : 0 ≤ x.size - p * 64 := by omega
      have HRL : Hid (readL x p = ((x.pages p).getD z64).take 64) := by show _ = _; unfold readL; congr 1; omega
      go_enter Tryz.func28, Tryz.ntmps28
      go_wp2_with (first
        | (go_at_call 40; (with_reducible refine (HTh.out _ _ _ (below_a1 w _) (SliceAt.built' _ [.int .u32 i] _ (w.heap.size) rfl)).mono ?_); rintro e w1 hq; obtain ⟨g1, l1, rfl, hq1, hb1⟩ := hq.get; have HQ1 := Lib.hid hq1; have HB1 := Lib.hid (ptrans (below_a1 w _) hb1); clear hq hq1 hb1)
        | (go_at_call 48; (with_reducible refine (HFl.out _ HB1.out).mono ?_); rintro e w2 ⟨g2, l2, rfl, hq2, hb2⟩; have HQ2 := Lib.hid hq2; have HB2 := Lib.hid (ptrans HB1.out hb2); have HQ1' := Lib.hid (HQ1.out.later hb2); clear hq2 hb2)
        | (go_at_call 49; (with_reducible refine (t_paged p _ rfl w2).mono ?_); rintro e w3 hq; obtain ⟨g3, l3, rfl, hq3, hb3⟩ := hq.get; have HQ3 := Lib.hid hq3; have HB3 := Lib.hid (ptrans HB2.out hb3); have HQ1'' := Lib.hid (HQ1'.out.later hb3); have HQ2' := Lib.hid (fun h => (HQ2.out h).later hb3); clear hq hq3 hb3)
        | (go_at_call 37; (with_reducible refine (check_built w3 P [.func (.func g1) #[] l1, .func (.func g2) #[] l2, .func (.func g3) #[] l3] 3 [thereE t [i], fileE' t i, pagedE p] 0 HE.out _ rfl (by omega) (asked3 HQ1''.out HQ2'.out HQ3.out) (by simp)).mono ?_); rintro e w4 ⟨rfl, hb4⟩
           have hb : Below w.heap.size w w4 := ptrans (ptrans HB3.out (below_a1 _ _)) hb4
           have hT := HT.out.below hb
           have c1 := hT.c1
           have hlk := hT.look_some HX.out
           have n2 : w4.cell? ⟨y.f i, 2, none⟩ = some (.int .u32 x.size) := (hT.node i x HX.out).cell 2
           have n4 : w4.cell? ⟨y.f i, 4, none⟩ = some (.map (some (y.G i))) := (hT.node i x HX.out).cell 4
           have hpg := (hT.node i x HX.out).page (p := p) ⟨by omega, by omega⟩
           have HB := Lib.hid hb
           have hfl : y.f i < w4.heap.size := (hT.node i x HX.out).ltQ
           clear hb hb4 hT HQ1 HQ2 HQ3 HQ1' HQ1'' HQ2' HB1 HB2 HB3)
        | ((with_reducible refine wpList_alloc_z 84 z66 zero66 ?_); intro w5 hw5
           have ht5 : w5.there w4.heap.size 0 64 := (by rw [hw5]; exact there_new w4 _)
           have hB5 : Below w4.heap.size w4 w5 := (by rw [hw5]; exact below_a1 _ _)
           obtain ⟨w6, hst, hpa, hg6⟩ := page_store HLen.out ht5
           have m2 : w6.cell? ⟨y.f i, 2, none⟩ = some (.int .u32 x.size) := hg6.cell ((hB5.cell (p := ⟨y.f i, 2, none⟩) hfl).trans n2) (fun e => (by injection e with e; simp at e; omega))
           have hcv := hpa.text' 64 64 (by rw [HLen.out]; omega)
           have HB6 := Lib.hid (below_grown (ptrans HB.out hB5) hg6 HB.out.size)
           clear hw5 ht5 hB5 hpa hg6)
        | (refine wpList_store_run 84 10 37 w6 _ _ rfl rfl hst ?_; clear hst))
      go_ret2
      exact ⟨by rw [HS.out, HRL.out]; rfl, HB6.out⟩
    · by_cases hq2 : 0 < x.size - p * 64
      · obtain ⟨q, hqe⟩ : ∃ q : Nat, x.size - p * 64 = (q : Int) := ⟨(x.size - p * 64).toNat, by omega⟩
        have HRL : Hid (readL x p = ((x.pages p).getD z64).take q) := by show _ = _; unfold readL; congr 1; omega
        have hq3 : (0 : Int) < (q : Int) := by omega
        have hq4 : (q : Int) < 64 := by omega
        have hq5 : (q : Int) ≤ 64 := by omega
        have hq6 : q ≤ 64 := by omega
        clear hq hq2
        go_enter Tryz.func28, Tryz.ntmps28
        go_wp2_with (first
          | (go_at_call 40; (with_reducible refine (HTh.out _ _ _ (below_a1 w _) (SliceAt.built' _ [.int .u32 i] _ (w.heap.size) rfl)).mono ?_); rintro e w1 hq; obtain ⟨g1, l1, rfl, hq1, hb1⟩ := hq.get; have HQ1 := Lib.hid hq1; have HB1 := Lib.hid (ptrans (below_a1 w _) hb1); clear hq hq1 hb1)
          | (go_at_call 48; (with_reducible refine (HFl.out _ HB1.out).mono ?_); rintro e w2 ⟨g2, l2, rfl, hq2, hb2⟩; have HQ2 := Lib.hid hq2; have HB2 := Lib.hid (ptrans HB1.out hb2); have HQ1' := Lib.hid (HQ1.out.later hb2); clear hq2 hb2)
          | (go_at_call 49; (with_reducible refine (t_paged p _ rfl w2).mono ?_); rintro e w3 hq; obtain ⟨g3, l3, rfl, hq3, hb3⟩ := hq.get; have HQ3 := Lib.hid hq3; have HB3 := Lib.hid (ptrans HB2.out hb3); have HQ1'' := Lib.hid (HQ1'.out.later hb3); have HQ2' := Lib.hid (fun h => (HQ2.out h).later hb3); clear hq hq3 hb3)
          | (go_at_call 37; (with_reducible refine (check_built w3 P [.func (.func g1) #[] l1, .func (.func g2) #[] l2, .func (.func g3) #[] l3] 3 [thereE t [i], fileE' t i, pagedE p] 0 HE.out _ rfl (by omega) (asked3 HQ1''.out HQ2'.out HQ3.out) (by simp)).mono ?_); rintro e w4 ⟨rfl, hb4⟩
             have hb : Below w.heap.size w w4 := ptrans (ptrans HB3.out (below_a1 _ _)) hb4
             have hT := HT.out.below hb
             have c1 := hT.c1
             have hlk := hT.look_some HX.out
             have n2 : w4.cell? ⟨y.f i, 2, none⟩ = some (.int .u32 x.size) := (hT.node i x HX.out).cell 2
             have n4 : w4.cell? ⟨y.f i, 4, none⟩ = some (.map (some (y.G i))) := (hT.node i x HX.out).cell 4
             have hpg := (hT.node i x HX.out).page (p := p) ⟨by omega, by omega⟩
             have HB := Lib.hid hb
             have hfl : y.f i < w4.heap.size := (hT.node i x HX.out).ltQ
             clear hb hb4 hT HQ1 HQ2 HQ3 HQ1' HQ1'' HQ2' HB1 HB2 HB3)
          | ((with_reducible refine wpList_alloc_z 84 z66 zero66 ?_); intro w5 hw5
             have ht5 : w5.there w4.heap.size 0 64 := (by rw [hw5]; exact there_new w4 _)
             have hB5 : Below w4.heap.size w4 w5 := (by rw [hw5]; exact below_a1 _ _)
             obtain ⟨w6, hst, hpa, hg6⟩ := page_store HLen.out ht5
             have m2 : w6.cell? ⟨y.f i, 2, none⟩ = some (.int .u32 x.size) := hg6.cell ((hB5.cell (p := ⟨y.f i, 2, none⟩) hfl).trans n2) (fun e => (by injection e with e; simp at e; omega))
             have hcv := hpa.text' q 64 (by rw [HLen.out]; omega)
             have HB6 := Lib.hid (below_grown (ptrans HB.out hB5) hg6 HB.out.size)
             clear hw5 ht5 hB5 hpa hg6)
          | (refine wpList_store_run 84 10 37 w6 _ _ rfl rfl hst ?_; clear hst))
        go_ret2
        exact ⟨by rw [HS.out, HRL.out]; rfl, HB6.out⟩
      · have hq3 : x.size - p * 64 ≤ 0 := by omega
        have hq4 : x.size - p * 64 ≤ 64 := by omega
        have HRL : Hid (readL x p = ((x.pages p).getD z64).take 0) := by show _ = _; unfold readL; congr 1; omega
        go_enter Tryz.func28, Tryz.ntmps28
        go_wp2_with (first
          | (go_at_call 40; (with_reducible refine (HTh.out _ _ _ (below_a1 w _) (SliceAt.built' _ [.int .u32 i] _ (w.heap.size) rfl)).mono ?_); rintro e w1 hq; obtain ⟨g1, l1, rfl, hq1, hb1⟩ := hq.get; have HQ1 := Lib.hid hq1; have HB1 := Lib.hid (ptrans (below_a1 w _) hb1); clear hq hq1 hb1)
          | (go_at_call 48; (with_reducible refine (HFl.out _ HB1.out).mono ?_); rintro e w2 ⟨g2, l2, rfl, hq2, hb2⟩; have HQ2 := Lib.hid hq2; have HB2 := Lib.hid (ptrans HB1.out hb2); have HQ1' := Lib.hid (HQ1.out.later hb2); clear hq2 hb2)
          | (go_at_call 49; (with_reducible refine (t_paged p _ rfl w2).mono ?_); rintro e w3 hq; obtain ⟨g3, l3, rfl, hq3, hb3⟩ := hq.get; have HQ3 := Lib.hid hq3; have HB3 := Lib.hid (ptrans HB2.out hb3); have HQ1'' := Lib.hid (HQ1'.out.later hb3); have HQ2' := Lib.hid (fun h => (HQ2.out h).later hb3); clear hq hq3 hb3)
          | (go_at_call 37; (with_reducible refine (check_built w3 P [.func (.func g1) #[] l1, .func (.func g2) #[] l2, .func (.func g3) #[] l3] 3 [thereE t [i], fileE' t i, pagedE p] 0 HE.out _ rfl (by omega) (asked3 HQ1''.out HQ2'.out HQ3.out) (by simp)).mono ?_); rintro e w4 ⟨rfl, hb4⟩
             have hb : Below w.heap.size w w4 := ptrans (ptrans HB3.out (below_a1 _ _)) hb4
             have hT := HT.out.below hb
             have c1 := hT.c1
             have hlk := hT.look_some HX.out
             have n2 : w4.cell? ⟨y.f i, 2, none⟩ = some (.int .u32 x.size) := (hT.node i x HX.out).cell 2
             have n4 : w4.cell? ⟨y.f i, 4, none⟩ = some (.map (some (y.G i))) := (hT.node i x HX.out).cell 4
             have hpg := (hT.node i x HX.out).page (p := p) ⟨by omega, by omega⟩
             have HB := Lib.hid hb
             have hfl : y.f i < w4.heap.size := (hT.node i x HX.out).ltQ
             clear hb hb4 hT HQ1 HQ2 HQ3 HQ1' HQ1'' HQ2' HB1 HB2 HB3)
          | ((with_reducible refine wpList_alloc_z 84 z66 zero66 ?_); intro w5 hw5
             have ht5 : w5.there w4.heap.size 0 64 := (by rw [hw5]; exact there_new w4 _)
             have hB5 : Below w4.heap.size w4 w5 := (by rw [hw5]; exact below_a1 _ _)
             obtain ⟨w6, hst, hpa, hg6⟩ := page_store HLen.out ht5
             have m2 : w6.cell? ⟨y.f i, 2, none⟩ = some (.int .u32 x.size) := hg6.cell ((hB5.cell (p := ⟨y.f i, 2, none⟩) hfl).trans n2) (fun e => (by injection e with e; simp at e; omega))
             have hcv := hpa.text' 0 64 (by rw [HLen.out]; omega)
             have HB6 := Lib.hid (below_grown (ptrans HB.out hB5) hg6 HB.out.size)
             clear hw5 ht5 hB5 hpa hg6)
          | (refine wpList_store_run 84 10 37 w6 _ _ rfl rfl hst ?_; clear hst))
        go_ret2
        exact ⟨by rw [HS.out, HRL.out]; rfl, HB6.out⟩
  · have hz' : (r != 0) = true := by simpa using hz
    have HS : Hid (readR t i p = (ByteArray.empty, r)) := by show _ = _; unfold readR; rw [hr, if_neg hz]
    have HE := Lib.hid hr
    clear h hi hok hr hz
    go_enter Tryz.func28, Tryz.ntmps28
    go_wp2_with (first
      | (go_at_call 40; (with_reducible refine (HTh.out _ _ _ (below_a1 w _) (SliceAt.built' _ [.int .u32 i] _ (w.heap.size) rfl)).mono ?_); rintro e w1 hq; obtain ⟨g1, l1, rfl, hq1, hb1⟩ := hq.get; have HQ1 := Lib.hid hq1; have HB1 := Lib.hid (ptrans (below_a1 w _) hb1); clear hq hq1 hb1)
      | (go_at_call 48; (with_reducible refine (HFl.out _ HB1.out).mono ?_); rintro e w2 ⟨g2, l2, rfl, hq2, hb2⟩; have HQ2 := Lib.hid hq2; have HB2 := Lib.hid (ptrans HB1.out hb2); have HQ1' := Lib.hid (HQ1.out.later hb2); clear hq2 hb2)
      | (go_at_call 49; (with_reducible refine (t_paged p _ rfl w2).mono ?_); rintro e w3 hq; obtain ⟨g3, l3, rfl, hq3, hb3⟩ := hq.get; have HQ3 := Lib.hid hq3; have HB3 := Lib.hid (ptrans HB2.out hb3); have HQ1'' := Lib.hid (HQ1'.out.later hb3); have HQ2' := Lib.hid (fun h => (HQ2.out h).later hb3); clear hq hq3 hb3)
      | (go_at_call 37; (with_reducible refine (check_built w3 P [.func (.func g1) #[] l1, .func (.func g2) #[] l2, .func (.func g3) #[] l3] 3 [thereE t [i], fileE' t i, pagedE p] r HE.out _ rfl (by omega) (asked3 HQ1''.out HQ2'.out HQ3.out) (by simp)).mono ?_); rintro e w4 ⟨rfl, hb4⟩
         have HB : Hid (Below w.heap.size w w4) := ptrans (ptrans HB3.out (below_a1 _ _)) hb4
         clear hb4 HQ1 HQ2 HQ3 HQ1' HQ1'' HQ2' HB1 HB2 HB3))
    go_ret2
    exact ⟨by rw [HS.out]; rfl, HB.out⟩
end
end Go.Proofs.YtpcjbfhgmcioaaaGreat
