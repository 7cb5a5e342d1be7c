/- The program's tree: Read. -/
import Derived.Test.YtpcnolkdnmolgaaGreatDoorPh06
import Derived.Lib.SliceRun
import Derived.Lib.LazyBuf
import Derived.Laws.BytesString
import Derived.Deep.MidRow
namespace Go.Proofs.YtpcnolkdnmolgaaGreatDoor
section
open Go.RowKit Go.Maps
def z64 : List UInt8 := List.replicate 64 0
def byteV (c : UInt8) : Value := .int .u8 (c.toNat : Int)
def z66 : Array Value := Array.replicate 64 (.int .u8 0)
theorem zero66 (w : World) : (zeroValue 149).run Tryz.prog w = .ok (.agg z66) w := by kernel_rfl
theorem z66_eq : Value.agg z66 = pageV z64 := rfl
theorem info66 : (Tryz.prog.info? 149).map (·.size) = some 64 := by kernel_rfl
theorem wpList_alloc_z {P : Program} {ops : Array Oper} {rest : List Oper} {d : Option Tmp} {ty : TypeId} {pos : String} {after : Array Edge} {a : Act} {w : World} {Q : Exit → Act → World → Prop} (t : TypeId) (z : Array Value) (hz : ∀ w, (zeroValue t).run P w = .ok (.agg z) w)
  (h : ∀ w', w' = w.alloc (.cells z t) → wpList P ops Q rest (a.put d (.pointer (some ⟨w.heap.size, 0, none⟩))) w') : wpList P ops Q (⟨d, .alloc t, ty, pos, after, none⟩ :: rest) a w := by
 refine wpList_plain rfl fun K hK => ?_
 unfold Oper.wp
 simp [execOp, Instr.alloc, hz, Result.andThen]
 exact hK _ _ (h _ rfl)
theorem wpList_store_run {P : Program} {ops : Array Oper} {rest : List Oper} {d : Option Tmp} {ty : TypeId} {pos : String} {after : Array Edge} {a : Act} {w : World} {Q : Exit → Act → World → Prop} (t : TypeId) (x y : Tmp) (w' : World) (px v : Value) (hx : a.eval (.tmp x) = px) (hy : a.eval (.tmp y) = v)
  (hrun : (Instr.storeAt t px v).run P w = .ok () w') (h : wpList P ops Q rest (a.put d undef) w') : wpList P ops Q (⟨d, .store t (.tmp x) (.tmp y), ty, pos, after, none⟩ :: rest) a w := by
 refine wpList_plain rfl fun K hK => ?_
 unfold Oper.wp
 simp only [execOp, hx, hy]
 rw [Sem.run_bind]
 rw [hrun]
 exact hK _ _ h
structure PageAt (w : World) (B : Nat) (b : List UInt8) : Prop where
 range : w.rangeAt B 0 (b.map byteV)
 there : w.there B 0 64
theorem byteV_one (b : List UInt8) : ∀ v ∈ b.map byteV, v.oneCell' = true := fun v hv => by obtain ⟨c, _, rfl⟩ := List.mem_map.1 hv; rfl
theorem there_new (w : World) (T : TypeId) : (w.alloc (.cells z66 T)).there w.heap.size 0 64 := fun j hj => by
 have h := heap_alloc_new w (.cells z66 T)
 refine ⟨?_, ?_⟩
 · have : z66[j]? = some (.int .u8 0) := by unfold z66; rw [Array.getElem?_replicate, if_pos hj]
   simp only [World.cell?, h]; simp [this]
 · simp only [World.frozen?, h]; simp
theorem grown_setCells (B : Nat) : ∀ (vs : List Value) (o : Nat) (w : World), w.grownBy (w.setCells B o vs) (some B)
 | [], _, w => grown_refl w _
 | v :: r, o, w => pgrown_trans (pgrown_set w B o v) (grown_setCells B r (o + 1) _)
theorem page_store {w : World} {B : Nat} {b : List UInt8} (hb : b.length = 64) (ht : w.there B 0 64) : ∃ w', (Instr.storeAt 149 (.pointer (some ⟨B, 0, none⟩)) (pageV b)).run Tryz.prog w = .ok () w' ∧ PageAt w' B b ∧ w.grownBy w' (some B) := by
 have hl : (b.map byteV).toArray.size = 64 := by simp [hb]
 have hrun := run_storeAt_mid (P := Tryz.prog) w B 0 149 (b.map byteV).toArray (by rw [hl]; exact ht) (by rw [hl]; exact info66) (all_oneCell_toArray (byteV_one b))
 rw [List.toList_toArray] at hrun
 refine ⟨_, hrun, ⟨World.rangeAt_setCells_same w B 0 _ (by rw [List.length_map, hb]; exact ht), World.there_setCells ht B 0 _⟩, ?_⟩
 exact grown_setCells B _ 0 w
theorem PageAt.below {w w' : World} {B : Nat} {b : List UInt8} (h : PageAt w B b) (hb : w'.heap[B]? = w.heap[B]?) : PageAt w' B b :=
 ⟨fun j v hv => (World.cell?_of_block hb).trans (h.range j v hv), fun j hj => by
  obtain ⟨h1, h2⟩ := h.there j hj
  exact ⟨by rw [World.cell?_of_block (a := ⟨B, 0 + j, none⟩) hb]; exact h1, (World.frozen?_of_block (a := ⟨B, 0 + j, none⟩) hb).trans h2⟩⟩
theorem push_all (l : List UInt8) : ∀ s : ByteArray, (l.map fun c : UInt8 => (c.toNat : Int)).foldl (fun r n => r.push (UInt8.ofNat n.toNat)) s = ⟨(s.data.toList ++ l).toArray⟩ := by
 induction l with
 | nil => intro s; simp
 | cons c l ih =>
  intro s
  simp only [List.map_cons, List.foldl_cons, ih]
  congr 1
  simp [ByteArray.push]
theorem PageAt.text {w : World} {B : Nat} {b : List UInt8} (h : PageAt w B b) (n c : Nat) : 
  (convert 168 9 (.slice (some ⟨B, 0, none⟩) (b.take n).length c)).run Tryz.prog w = .ok (.string ⟨(b.take n).toArray⟩) w := by
 rw [run_convert_bytes_string w _ _ _ _ _ _ Tryz.underlying168 Tryz.underlying5 Tryz.underlying9]
 have hl : (loadCells ⟨B, 0, none⟩ (b.take n).length).run Tryz.prog w = .ok (((b.take n).map fun c : UInt8 => (c.toNat : Int)).map (Value.int .u8)).toArray w := by
  have := run_loadCells_list (P := Tryz.prog) w ⟨B, 0, none⟩ ((b.take n).map byteV) (fun j v hv => by
   rw [Addr.add_mid]
   refine h.range j v ?_
   rw [List.map_take, List.getElem?_take] at hv
   split at hv
   · exact hv
   · cases hv)
  rw [List.length_map] at this
  rw [List.map_map]
  exact this
 rw [run_bytesToString w _ _ _ _ hl, push_all]
 rfl
theorem PageAt.text' {w : World} {B : Nat} {b : List UInt8} (h : PageAt w B b) (n c : Nat) (hn : n ≤ b.length) :
  (convert 168 9 (.slice (some ⟨B, 0, none⟩) n c)).run Tryz.prog w = .ok (.string ⟨(b.take n).toArray⟩) w := by
 have := h.text n c
 rwa [List.length_take, Nat.min_eq_left hn] at this
def readL (x : PN) (p : Int) : List UInt8 := ((x.pages p).getD z64).take (max 0 (min 64 (x.size - p * 64))).toNat
def readR (t : PT) (i p : Int) : ByteArray × Int :=
 if firstE [thereE t [i], fileE' t i, pagedE p] = 0 then (match t.n i with | some x => (⟨(readL x p).toArray⟩, 0) | none => (ByteArray.empty, 0)) else (ByteArray.empty, firstE [thereE t [i], fileE' t i, pagedE p])
structure PagesOk (x : PN) : Prop where
 len : ∀ p b, x.pages p = some b → b.length = 64 ∧ 0 ≤ p ∧ p < 36
 size : 0 ≤ x.size ∧ x.size ≤ 2304
section
variable {F : Nat → Prop} {P N : Nat} {y : Lay} {t : PT}
theorem NodeM.page {w : World} {Q L G : Nat} {x : PN} (h : NodeM w Q L G N x) {p : Int} (hp : -9223372036854775808 ≤ p ∧ p ≤ 9223372036854775807) :
  (Instr.lookup 113 (.map (some G)) (.int .i64 p) false).run Tryz.prog w = .ok (pageV ((x.pages p).getD z64)) w := by
 have := h.pages.look law64 Tryz.underlying113 (zero66 w) (pkey64 hp)
 rw [this]
 cases hx : x.pages p with
 | none => simp [pagesM, hx, z66_eq]
 | some v => simp [pagesM, hx]
set_option maxRecDepth 100000 in
set_option maxHeartbeats 1000000 in
theorem t_readP (i p : Int) (w : World) (h : TreeM w F P N y t) (hi : U32 i) (hok : ∀ x, t.n i = some x → PagesOk x) :
  Calls Tryz.prog 53 #[.pointer (some ⟨P, 0, none⟩), .int .u32 i, .int .i64 p] w fun e w' => e = .returned (.tuple #[.string (readR t i p).1, .int .i64 (readR t i p).2]) ∧ Below w.heap.size w w' := by
 have HTh := zz (there_later h i hi)
 have HFl := zz (file_later h i)
 have HT := zz h
 obtain ⟨r, hr⟩ : ∃ r, firstE [thereE t [i], fileE' t i, pagedE p] = r := ⟨_, rfl⟩
 by_cases hz : r = 0
 · subst hz
   have hz := hr
   obtain ⟨z1, hz⟩ := firstE_cons hz
   obtain ⟨z2, hz⟩ := firstE_cons hz
   obtain ⟨z3, _⟩ := firstE_cons hz
   obtain ⟨x, hx⟩ := Option.isSome_iff_exists.1 (there_one z1)
   have hp1 : 0 ≤ p ∧ p < 36 := by
    unfold pagedE at z3
    by_cases a : p < 0 ∨ 36 ≤ p
    · rw [if_pos a] at z3; cases z3
    · omega
   obtain ⟨p1, p2⟩ := hp1
   have hk := hok x hx
   have s1 := hk.size.1
   have s2 := hk.size.2
   have HS : Hid (readR t i p = (⟨(readL x p).toArray⟩, 0)) := by show _ = _; unfold readR; rw [if_pos hr, hx]
   have HE := zz hr
   have HX := zz hx
   have HLen : Hid (((x.pages p).getD z64).length = 64) := by
    show _ = _
    cases hb : x.pages p with
    | none => rfl
    | some b => exact (hk.len p b hb).1
   clear h hi hok hr z1 z2 z3 hx hk
   by_cases hq : 64 ≤ x.size - p * 64
   · have hq1 : 0 ≤ x.size - p * 64 := by omega
     have HRL : Hid (readL x p = ((x.pages p).getD z64).take 64) := by show _ = _; unfold readL; congr 1; omega
     go_enter Tryz.func53, Tryz.ntmps53
     go_wp2_with (first
      | (go_at_call 81; (with_reducible refine (HTh.out _ _ _ (below_a1 w _) (SliceAt.built' _ [.int .u32 i] _ (w.heap.size) rfl)).mono ?_); rintro e w1 hq; obtain ⟨g1, l1, rfl, hq1, hb1⟩ := hq.get; have HQ1 := zz hq1; have HB1 := zz (ptrans (below_a1 w _) hb1); clear hq hq1 hb1)
      | (go_at_call 89; (with_reducible refine (HFl.out _ HB1.out).mono ?_); rintro e w2 ⟨g2, l2, rfl, hq2, hb2⟩; have HQ2 := zz hq2; have HB2 := zz (ptrans HB1.out hb2); have HQ1' := zz (HQ1.out.later hb2); clear hq2 hb2)
      | (go_at_call 90; (with_reducible refine (t_paged p _ rfl w2).mono ?_); rintro e w3 hq; obtain ⟨g3, l3, rfl, hq3, hb3⟩ := hq.get; have HQ3 := zz hq3; have HB3 := zz (ptrans HB2.out hb3); have HQ1'' := zz (HQ1'.out.later hb3); have HQ2' := zz (fun h => (HQ2.out h).later hb3); clear hq hq3 hb3)
      | (go_at_call 80; (with_reducible refine (check_built w3 P [.func (.func g1) #[] l1, .func (.func g2) #[] l2, .func (.func g3) #[] l3] 3 [thereE t [i], fileE' t i, pagedE p] 0 HE.out _ rfl (by omega) (asked3 HQ1''.out HQ2'.out HQ3.out) (by simp)).mono ?_); rintro e w4 ⟨rfl, hb4⟩
         have hb : Below w.heap.size w w4 := ptrans (ptrans HB3.out (below_a1 _ _)) hb4
         have hT := HT.out.below hb
         have c1 := hT.c1
         have hlk := hT.look_some HX.out
         have n2 : w4.cell? ⟨y.f i, 2, none⟩ = some (.int .u32 x.size) := (hT.node i x HX.out).cell 2
         have n4 : w4.cell? ⟨y.f i, 4, none⟩ = some (.map (some (y.G i))) := (hT.node i x HX.out).cell 4
         have hpg := (hT.node i x HX.out).page (p := p) ⟨by omega, by omega⟩
         have HB := zz hb
         have hfl : y.f i < w4.heap.size := (hT.node i x HX.out).ltQ
         clear hb hb4 hT HQ1 HQ2 HQ3 HQ1' HQ1'' HQ2' HB1 HB2 HB3)
      | ((with_reducible refine wpList_alloc_z 149 z66 zero66 ?_); intro w5 hw5
         have ht5 : w5.there w4.heap.size 0 64 := (by rw [hw5]; exact there_new w4 _)
         have hB5 : Below w4.heap.size w4 w5 := (by rw [hw5]; exact below_a1 _ _)
         obtain ⟨w6, hst, hpa, hg6⟩ := page_store HLen.out ht5
         have m2 : w6.cell? ⟨y.f i, 2, none⟩ = some (.int .u32 x.size) := hg6.cell ((hB5.cell (p := ⟨y.f i, 2, none⟩) hfl).trans n2) (fun e => (by injection e with e; simp at e; omega))
         have hcv := hpa.text' 64 64 (by rw [HLen.out]; omega)
         have HB6 := zz (below_grown (ptrans HB.out hB5) hg6 HB.out.size)
         clear hw5 ht5 hB5 hpa hg6)
      | (refine wpList_store_run 149 10 37 w6 _ _ rfl rfl hst ?_; clear hst))
     go_ret2
     exact ⟨by rw [HS.out, HRL.out]; rfl, HB6.out⟩
   · by_cases hq2 : 0 < x.size - p * 64
     · obtain ⟨q, hqe⟩ : ∃ q : Nat, x.size - p * 64 = (q : Int) := ⟨(x.size - p * 64).toNat, by omega⟩
       have HRL : Hid (readL x p = ((x.pages p).getD z64).take q) := by show _ = _; unfold readL; congr 1; omega
       have hq3 : (0 : Int) < (q : Int) := by omega
       have hq4 : (q : Int) < 64 := by omega
       have hq5 : (q : Int) ≤ 64 := by omega
       have hq6 : q ≤ 64 := by omega
       clear hq hq2
       go_enter Tryz.func53, Tryz.ntmps53
       go_wp2_with (first
        | (go_at_call 81; (with_reducible refine (HTh.out _ _ _ (below_a1 w _) (SliceAt.built' _ [.int .u32 i] _ (w.heap.size) rfl)).mono ?_); rintro e w1 hq; obtain ⟨g1, l1, rfl, hq1, hb1⟩ := hq.get; have HQ1 := zz hq1; have HB1 := zz (ptrans (below_a1 w _) hb1); clear hq hq1 hb1)
        | (go_at_call 89; (with_reducible refine (HFl.out _ HB1.out).mono ?_); rintro e w2 ⟨g2, l2, rfl, hq2, hb2⟩; have HQ2 := zz hq2; have HB2 := zz (ptrans HB1.out hb2); have HQ1' := zz (HQ1.out.later hb2); clear hq2 hb2)
        | (go_at_call 90; (with_reducible refine (t_paged p _ rfl w2).mono ?_); rintro e w3 hq; obtain ⟨g3, l3, rfl, hq3, hb3⟩ := hq.get; have HQ3 := zz hq3; have HB3 := zz (ptrans HB2.out hb3); have HQ1'' := zz (HQ1'.out.later hb3); have HQ2' := zz (fun h => (HQ2.out h).later hb3); clear hq hq3 hb3)
        | (go_at_call 80; (with_reducible refine (check_built w3 P [.func (.func g1) #[] l1, .func (.func g2) #[] l2, .func (.func g3) #[] l3] 3 [thereE t [i], fileE' t i, pagedE p] 0 HE.out _ rfl (by omega) (asked3 HQ1''.out HQ2'.out HQ3.out) (by simp)).mono ?_); rintro e w4 ⟨rfl, hb4⟩
           have hb : Below w.heap.size w w4 := ptrans (ptrans HB3.out (below_a1 _ _)) hb4
           have hT := HT.out.below hb
           have c1 := hT.c1
           have hlk := hT.look_some HX.out
           have n2 : w4.cell? ⟨y.f i, 2, none⟩ = some (.int .u32 x.size) := (hT.node i x HX.out).cell 2
           have n4 : w4.cell? ⟨y.f i, 4, none⟩ = some (.map (some (y.G i))) := (hT.node i x HX.out).cell 4
           have hpg := (hT.node i x HX.out).page (p := p) ⟨by omega, by omega⟩
           have HB := zz hb
           have hfl : y.f i < w4.heap.size := (hT.node i x HX.out).ltQ
           clear hb hb4 hT HQ1 HQ2 HQ3 HQ1' HQ1'' HQ2' HB1 HB2 HB3)
        | ((with_reducible refine wpList_alloc_z 149 z66 zero66 ?_); intro w5 hw5
           have ht5 : w5.there w4.heap.size 0 64 := (by rw [hw5]; exact there_new w4 _)
           have hB5 : Below w4.heap.size w4 w5 := (by rw [hw5]; exact below_a1 _ _)
           obtain ⟨w6, hst, hpa, hg6⟩ := page_store HLen.out ht5
           have m2 : w6.cell? ⟨y.f i, 2, none⟩ = some (.int .u32 x.size) := hg6.cell ((hB5.cell (p := ⟨y.f i, 2, none⟩) hfl).trans n2) (fun e => (by injection e with e; simp at e; omega))
           have hcv := hpa.text' q 64 (by rw [HLen.out]; omega)
           have HB6 := zz (below_grown (ptrans HB.out hB5) hg6 HB.out.size)
           clear hw5 ht5 hB5 hpa hg6)
        | (refine wpList_store_run 149 10 37 w6 _ _ rfl rfl hst ?_; clear hst))
       go_ret2
       exact ⟨by rw [HS.out, HRL.out]; rfl, HB6.out⟩
     · have hq3 : x.size - p * 64 ≤ 0 := by omega
       have hq4 : x.size - p * 64 ≤ 64 := by omega
       have HRL : Hid (readL x p = ((x.pages p).getD z64).take 0) := by show _ = _; unfold readL; congr 1; omega
       go_enter Tryz.func53, Tryz.ntmps53
       go_wp2_with (first
        | (go_at_call 81; (with_reducible refine (HTh.out _ _ _ (below_a1 w _) (SliceAt.built' _ [.int .u32 i] _ (w.heap.size) rfl)).mono ?_); rintro e w1 hq; obtain ⟨g1, l1, rfl, hq1, hb1⟩ := hq.get; have HQ1 := zz hq1; have HB1 := zz (ptrans (below_a1 w _) hb1); clear hq hq1 hb1)
        | (go_at_call 89; (with_reducible refine (HFl.out _ HB1.out).mono ?_); rintro e w2 ⟨g2, l2, rfl, hq2, hb2⟩; have HQ2 := zz hq2; have HB2 := zz (ptrans HB1.out hb2); have HQ1' := zz (HQ1.out.later hb2); clear hq2 hb2)
        | (go_at_call 90; (with_reducible refine (t_paged p _ rfl w2).mono ?_); rintro e w3 hq; obtain ⟨g3, l3, rfl, hq3, hb3⟩ := hq.get; have HQ3 := zz hq3; have HB3 := zz (ptrans HB2.out hb3); have HQ1'' := zz (HQ1'.out.later hb3); have HQ2' := zz (fun h => (HQ2.out h).later hb3); clear hq hq3 hb3)
        | (go_at_call 80; (with_reducible refine (check_built w3 P [.func (.func g1) #[] l1, .func (.func g2) #[] l2, .func (.func g3) #[] l3] 3 [thereE t [i], fileE' t i, pagedE p] 0 HE.out _ rfl (by omega) (asked3 HQ1''.out HQ2'.out HQ3.out) (by simp)).mono ?_); rintro e w4 ⟨rfl, hb4⟩
           have hb : Below w.heap.size w w4 := ptrans (ptrans HB3.out (below_a1 _ _)) hb4
           have hT := HT.out.below hb
           have c1 := hT.c1
           have hlk := hT.look_some HX.out
           have n2 : w4.cell? ⟨y.f i, 2, none⟩ = some (.int .u32 x.size) := (hT.node i x HX.out).cell 2
           have n4 : w4.cell? ⟨y.f i, 4, none⟩ = some (.map (some (y.G i))) := (hT.node i x HX.out).cell 4
           have hpg := (hT.node i x HX.out).page (p := p) ⟨by omega, by omega⟩
           have HB := zz hb
           have hfl : y.f i < w4.heap.size := (hT.node i x HX.out).ltQ
           clear hb hb4 hT HQ1 HQ2 HQ3 HQ1' HQ1'' HQ2' HB1 HB2 HB3)
        | ((with_reducible refine wpList_alloc_z 149 z66 zero66 ?_); intro w5 hw5
           have ht5 : w5.there w4.heap.size 0 64 := (by rw [hw5]; exact there_new w4 _)
           have hB5 : Below w4.heap.size w4 w5 := (by rw [hw5]; exact below_a1 _ _)
           obtain ⟨w6, hst, hpa, hg6⟩ := page_store HLen.out ht5
           have m2 : w6.cell? ⟨y.f i, 2, none⟩ = some (.int .u32 x.size) := hg6.cell ((hB5.cell (p := ⟨y.f i, 2, none⟩) hfl).trans n2) (fun e => (by injection e with e; simp at e; omega))
           have hcv := hpa.text' 0 64 (by rw [HLen.out]; omega)
           have HB6 := zz (below_grown (ptrans HB.out hB5) hg6 HB.out.size)
           clear hw5 ht5 hB5 hpa hg6)
        | (refine wpList_store_run 149 10 37 w6 _ _ rfl rfl hst ?_; clear hst))
       go_ret2
       exact ⟨by rw [HS.out, HRL.out]; rfl, HB6.out⟩
 · have hz' : (r != 0) = true := by simpa using hz
   have HS : Hid (readR t i p = (ByteArray.empty, r)) := by show _ = _; unfold readR; rw [hr, if_neg hz]
   have HE := zz hr
   clear h hi hok hr hz
   go_enter Tryz.func53, Tryz.ntmps53
   go_wp2_with (first
    | (go_at_call 81; (with_reducible refine (HTh.out _ _ _ (below_a1 w _) (SliceAt.built' _ [.int .u32 i] _ (w.heap.size) rfl)).mono ?_); rintro e w1 hq; obtain ⟨g1, l1, rfl, hq1, hb1⟩ := hq.get; have HQ1 := zz hq1; have HB1 := zz (ptrans (below_a1 w _) hb1); clear hq hq1 hb1)
    | (go_at_call 89; (with_reducible refine (HFl.out _ HB1.out).mono ?_); rintro e w2 ⟨g2, l2, rfl, hq2, hb2⟩; have HQ2 := zz hq2; have HB2 := zz (ptrans HB1.out hb2); have HQ1' := zz (HQ1.out.later hb2); clear hq2 hb2)
    | (go_at_call 90; (with_reducible refine (t_paged p _ rfl w2).mono ?_); rintro e w3 hq; obtain ⟨g3, l3, rfl, hq3, hb3⟩ := hq.get; have HQ3 := zz hq3; have HB3 := zz (ptrans HB2.out hb3); have HQ1'' := zz (HQ1'.out.later hb3); have HQ2' := zz (fun h => (HQ2.out h).later hb3); clear hq hq3 hb3)
    | (go_at_call 80; (with_reducible refine (check_built w3 P [.func (.func g1) #[] l1, .func (.func g2) #[] l2, .func (.func g3) #[] l3] 3 [thereE t [i], fileE' t i, pagedE p] r HE.out _ rfl (by omega) (asked3 HQ1''.out HQ2'.out HQ3.out) (by simp)).mono ?_); rintro e w4 ⟨rfl, hb4⟩
       have HB : Hid (Below w.heap.size w w4) := ptrans (ptrans HB3.out (below_a1 _ _)) hb4
       clear hb4 HQ1 HQ2 HQ3 HQ1' HQ1'' HQ2' HB1 HB2 HB3))
   go_ret2
   exact ⟨by rw [HS.out]; rfl, HB.out⟩
end
end

section
open Go.RowKit Go.Maps
theorem PT.set_set (t : PT) (i : Int) (x y : PN) : (t.set i x).set i y = t.set i y := by
 unfold PT.set
 congr 1
 funext j
 by_cases hj : j = i <;> simp [hj]
def over (d : List UInt8) (b : List UInt8) : List UInt8 := d ++ b.drop d.length
theorem over_length {d b : List UInt8} (h : d.length ≤ b.length) : (over d b).length = b.length := by unfold over; simp; omega
def updP (m : Int → Option (List UInt8)) (p : Int) (b : List UInt8) : Int → Option (List UInt8) := fun k => if k = p then some b else m k
def delP (m : Int → Option (List UInt8)) (p : Int) : Int → Option (List UInt8) := fun k => if k = p then none else m k
theorem pagesM_upd (m : Int → Option (List UInt8)) (p : Int) (b : List UInt8) : ∀ kl, WideAt.IsKeyLit kl → updM (pagesM m) (.int .i64 p) (pageV b) kl = pagesM (updP m p b) kl := by
 intro kl _
 unfold updM
 cases kl with
 | int q k =>
  cases q <;> try (simp [Lit.sameKey, pagesM]; done)
  by_cases hk : k = p
  · subst hk; simp [Lit.sameKey, pagesM, updP]
  · simp [Lit.sameKey, pagesM, updP, hk]
 | _ => simp [Lit.sameKey, pagesM]
theorem pagesM_del (m : Int → Option (List UInt8)) (p : Int) : ∀ kl, WideAt.IsKeyLit kl → delM (pagesM m) (.int .i64 p) kl = pagesM (delP m p) kl := by
 intro kl _
 unfold delM
 cases kl with
 | int q k =>
  cases q <;> try (simp [Lit.sameKey, pagesM]; done)
  by_cases hk : k = p
  · subst hk; simp [Lit.sameKey, pagesM, delP]
  · simp [Lit.sameKey, pagesM, delP, hk]
 | _ => simp [Lit.sameKey, pagesM]
theorem PageAt.lt {w : World} {B : Nat} {b : List UInt8} (h : PageAt w B b) : B < w.heap.size := by
 obtain ⟨h1, _⟩ := h.there 0 (by omega)
 obtain ⟨v, hv⟩ := Option.isSome_iff_exists.1 h1
 exact World.block_lt_of_cell? w _ hv
theorem PageAt.copy {w : World} {B : Nat} {b : List UInt8} (h : PageAt w B b) (_hb : b.length = 64) (d : ByteArray) (hd : d.size ≤ 64) : ∃ w', (∀ ty, (Builtin.copy_ #[168, 9] ty #[.slice (some ⟨B, 0, none⟩) 64 64, .string d]).run Tryz.prog w = .ok (goInt d.size) w') ∧ PageAt w' B (over d.data.toList b) ∧ w.grownBy w' (some B) := by
 have hdl : d.data.toList.length = d.size := by simp
 refine ⟨w.setCells B 0 (d.data.toList.map byteV), fun ty => ?_, ⟨fun j v hv => ?_, World.there_setCells h.there B 0 _⟩, grown_setCells B _ 0 w⟩
 · exact _root_.Go.run_copy_string (P := Tryz.prog) w 168 9 ty 5 B 0 64 64 d Tryz.underlying168 (fun w => by kernel_rfl) hd (fun j hj => (h.there j (by omega)).1) (fun j hj => (h.there j (by omega)).2)
 · by_cases hj : j < d.size
   · rw [World.cell?_setCells_in B _ 0 w (fun i hi => (h.there i (by rw [List.length_map, hdl] at hi; omega)).1) j (by rw [List.length_map, hdl]; exact hj)]
     rw [← hv]
     unfold over
     rw [List.map_append, List.getElem?_append_left (by rw [List.length_map, hdl]; exact hj), List.getElem?_eq_getElem]
   · rw [World.cell?_setCells_out B _ 0 w ⟨B, 0 + j, none⟩ (fun _ _ => .inr (by rw [List.length_map, hdl]; show 0 + d.size ≤ 0 + j; omega))]
     refine h.range j v ?_
     rw [← hv]
     unfold over
     rw [List.map_append, List.getElem?_append_right (by rw [List.length_map, hdl]; omega), List.length_map, hdl, List.map_drop, List.getElem?_drop]
     congr 1
     omega
def writeT (t : PT) (i p : Int) (d : ByteArray) : PT := match t.n i with
 | some x => t.set i { x with pages := updP x.pages p (over d.data.toList ((x.pages p).getD z64)), size := max x.size (p * 64 + d.size) }
 | none => t
def writeE (t : PT) (i p : Int) (d : ByteArray) : Int := firstE [thereE t [i], fileE' t i, pagedE p, dataE d]
def writeP (t : PT) (i p : Int) (d : ByteArray) : Int × PT := if writeE t i p d = 0 then (0, writeT t i p d) else (writeE t i p d, t)
section
variable {F : Nat → Prop} {P N : Nat} {y : Lay} {t : PT}
theorem two_at (w : World) (v1 : Value) (T1 : TypeId) (o : Obj) : ((w.alloc (.cells #[v1] T1)).alloc o).cell? ⟨w.heap.size, 0, none⟩ = some v1 := box_old _ (box_new _ _ _)
set_option maxRecDepth 100000 in
set_option maxHeartbeats 2000000 in
theorem t_writeP (i p : Int) (d : ByteArray) (r : Int) (t' : PT) (hr : writeP t i p d = (r, t')) (w : World) (h : TreeM w F P N y t) (hN : N < 900000) (hi : U32 i) (hd : d.size ≤ maxLen) (hok : ∀ x, t.n i = some x → PagesOk x) :
  Calls Tryz.prog 111 #[.pointer (some ⟨P, 0, none⟩), .int .u32 i, .int .i64 p, .string d] w fun e w' => e = .returned (.int .i64 r) ∧ TreeM w' F P (N + 1) y t' ∧ Turn w w' F F := by
 have HTh := zz (there_later h i hi)
 have HFl := zz (file_later h i)
 have HT := zz h
 have HD := zz hd
 obtain ⟨q, hq⟩ : ∃ q, writeE t i p d = q := ⟨_, rfl⟩
 have HE : Hid (firstE [thereE t [i], fileE' t i, pagedE p, dataE d] = q) := hq
 by_cases hz : q = 0
 · subst hz
   have hz := HE.out
   obtain ⟨z1, hz⟩ := firstE_cons hz
   obtain ⟨z2, hz⟩ := firstE_cons hz
   obtain ⟨z3, hz⟩ := firstE_cons hz
   obtain ⟨z4, hz⟩ := firstE_cons hz
   obtain ⟨x, hx⟩ := Option.isSome_iff_exists.1 (there_one z1)
   obtain ⟨p1, p2⟩ : 0 ≤ p ∧ p < 36 := by
    unfold pagedE at z3
    by_cases a : p < 0 ∨ 36 ≤ p
    · rw [if_pos a] at z3; cases z3
    · omega
   obtain ⟨d1, d2⟩ : 0 < d.size ∧ d.size ≤ 64 := by
    unfold dataE at z4
    by_cases a : d.size = 0 ∨ 64 < d.size
    · rw [if_pos a] at z4; cases z4
    · omega
   have hk := hok x hx
   have s1 := hk.size.1
   have s2 := hk.size.2
   have HX := zz hx
   have HLen : Hid (((x.pages p).getD z64).length = 64) := by
    show _ = _
    cases hb : x.pages p with
    | none => rfl
    | some b => exact (hk.len p b hb).1
   have HP : Hid (r = 0 ∧ t' = t.set i { x with pages := updP x.pages p (over d.data.toList ((x.pages p).getD z64)), size := max x.size (p * 64 + d.size) }) := by
    unfold writeP writeT at hr
    rw [if_pos hq, hx] at hr
    injection hr with a b
    exact ⟨a.symm, b.symm⟩
   have HN := zz hN
   clear h hi hok hr z1 z2 z3 z4 hz hx hk hd hq hN
   go_enter Tryz.func111, Tryz.ntmps111
   go_wp2_with (first
    | (go_at_call 81; (with_reducible refine (HTh.out _ _ _ (below_a2 w _ _) (SliceAt.built' _ [.int .u32 i] _ (w.heap.size + 1) (by simp))).mono ?_); rintro e w1 hq; obtain ⟨g1, l1, rfl, hq1, hb1⟩ := hq.get
       have HB0 : Hid (w1.cell? ⟨w.heap.size, 0, none⟩ = some (.string d)) := box_at hb1 (two_at w _ _ _)
       have HQ1 := zz hq1; have HB1 := zz (ptrans (below_a2 w _ _) hb1); clear hq hq1 hb1)
    | (go_at_call 89; (with_reducible refine (HFl.out _ HB1.out).mono ?_); rintro e w2 ⟨g2, l2, rfl, hq2, hb2⟩; have HQ2 := zz hq2; have HB2 := zz (ptrans HB1.out hb2); have HQ1' := zz (HQ1.out.later hb2); have HB0' := zz (box_at hb2 HB0.out); clear hq2 hb2)
    | (go_at_call 90; (with_reducible refine (t_paged p _ rfl w2).mono ?_); rintro e w3 hq; obtain ⟨g3, l3, rfl, hq3, hb3⟩ := hq.get; have HQ3 := zz hq3; have HB3 := zz (ptrans HB2.out hb3); have HQ1'' := zz (HQ1'.out.later hb3); have HQ2' := zz (fun h => (HQ2.out h).later hb3); have HB0'' := zz (box_at hb3 HB0'.out); clear hq hq3 hb3)
    | (go_at_call 80; (with_reducible refine (check_built w3 P [.func (.func g1) #[] l1, .func (.func g2) #[] l2, .func (.func g3) #[] l3, .func (.func 186) #[] #[.pointer (some ⟨w.heap.size, 0, none⟩)]] 4 [thereE t [i], fileE' t i, pagedE p, dataE d] 0 HE.out _ rfl (by omega) (asked4 HQ1''.out HQ2'.out HQ3.out (q_write rfl HD.out (World.block_lt_of_cell? _ _ HB0''.out) HB0''.out)) (by simp)).mono ?_); rintro e w4 ⟨rfl, hb4⟩
       have hb : Below w.heap.size w w4 := ptrans (ptrans HB3.out (below_a1 _ _)) hb4
       have k7 : w4.cell? ⟨w.heap.size, 0, none⟩ = some (.string d) := box_at hb4 (box_old _ HB0''.out)
       have hT := HT.out.below hb
       have c1 := hT.c1
       have hlk := hT.look_some HX.out
       have n4 : w4.cell? ⟨y.f i, 4, none⟩ = some (.map (some (y.G i))) := (hT.node i x HX.out).cell 4
       have hpg := (hT.node i x HX.out).page (p := p) ⟨by omega, by omega⟩
       have HB := zz hb
       have hfl : y.f i < w4.heap.size := (hT.node i x HX.out).ltQ
       have h7l : w.heap.size < w4.heap.size := World.block_lt_of_cell? _ _ k7
       clear hb hb4 hT HQ1 HQ2 HQ3 HQ1' HQ1'' HQ2' HB1 HB2 HB3 HB0 HB0' HB0'')
    | ((with_reducible refine wpList_alloc_z 149 z66 zero66 ?_); intro w5 hw5
       have ht5 : w5.there w4.heap.size 0 64 := (by rw [hw5]; exact there_new w4 _)
       have hB5 : Below w4.heap.size w4 w5 := (by rw [hw5]; exact below_a1 _ _)
       obtain ⟨w6, hst, hpa, hg6⟩ := page_store HLen.out ht5
       have hb6 := below_grown hB5 hg6 (Nat.le_refl _)
       have m7 : w6.cell? ⟨w.heap.size, 0, none⟩ = some (.string d) := box_at hb6 k7
       have HPA := zz hpa
       have HB46 := zz hb6
       have HB6 := zz (ptrans HB.out hb6)
       clear hw5 ht5 hB5 hpa hg6 hb6)
    | (refine wpList_store_run 149 11 39 w6 _ _ rfl rfl hst ?_; clear hst))
   go_frame
   have HN4 := HT.out.below HB.out
   refine wp_region_front 2 (phi [isV (.slice (some ⟨w4.heap.size, 0, none⟩) 64 64), isV (.string d)]) (by kernel_rfl) (by kernel_rfl) (by kernel_rfl) ?_ ?_ ?_
   · refine stays_phi ?_
     simp only [List.forall_mem_cons]
     exact ⟨stays_V _, stays_V _, fun _ h => absurd h (by simp)⟩
   · refine ⟨?_, ?_, trivial⟩
     · refine op_mk rfl fun a W hB hp hq K hK => ?_
       have e11 : a.tmps[11]?.getD undef = .pointer (some ⟨w4.heap.size, 0, none⟩) := hp 11 (by kernel_rfl)
       clear hp hq
       go_simp
       exact hK _ _ (Below.refl _ _) rfl
     · refine op_mk rfl fun a W hB hp hq K hK => ?_
       have e7 : a.tmps[7]?.getD undef = .pointer (some ⟨w.heap.size, 0, none⟩) := hp 7 (by kernel_rfl)
       have cc := box_at hB m7
       clear hp hq
       go_simp
       exact hK _ _ (Below.refl _ _) rfl
   · intro vs W hB hv
     have f0 : vs 0 = .slice (some ⟨w4.heap.size, 0, none⟩) 64 64 := hv 0 (by decide) (by kernel_rfl)
     have f1 : vs 1 = .string d := hv 1 (by decide) (by kernel_rfl)
     clear hv
     have hpW := HPA.out.below (hB.block _ HPA.out.lt)
     obtain ⟨w7, hcp, hp7, hg7⟩ := hpW.copy HLen.out d d2
     have hB47 : Below w4.heap.size w4 w7 := below_grown (ptrans HB46.out hB) hg7 (Nat.le_refl _)
     have k7 : w7.cell? ⟨w.heap.size, 0, none⟩ = some (.string d) := box_at hB47 k7
     have H47 := zz hB47
     have HP7 := zz hp7
     clear hpW hp7 hg7 hB47 HB46 HB6 HPA hB m7
     refine (show wpAny Tryz.prog .any _ _ 1 _ _ W from ?_)
     refine wpAny_one (i := 2) (by kernel_rfl) (by rfl) rfl (fun K hK => ?_)
     simp only [List.take_succ_cons, List.take_zero, putAll, Act.put, List.setIfInBounds_toArray, List.set_cons_succ, List.set_cons_zero, Nat.zero_add, f0, f1] at hK ⊢
     go_simp
     refine hK _ _ (wpAny_end (by kernel_rfl) ?_)
     clear hK hcp
     go_wp2
     have hT7 := HN4.below H47.out
     refine wp_region_front 6 (phi [isV (.pointer (some ⟨y.f i, 0, none⟩)), isV (.pointer (some ⟨y.f i, 0, none⟩)), isV (.pointer (some ⟨y.f i, 4, none⟩)), isV (.map (some (y.G i))), isV (.int .i64 p), isV (pageV (over d.data.toList ((x.pages p).getD z64)))]) (by kernel_rfl) (by kernel_rfl) (by kernel_rfl) ?_ ?_ ?_
     · refine stays_phi ?_
       simp only [List.forall_mem_cons]
       exact ⟨stays_V _, stays_V _, stays_V _, stays_V _, stays_V _, stays_V _, fun _ h => absurd h (by simp)⟩
     · refine ⟨?_, ?_, ?_, ?_, ?_, ?_, trivial⟩
       · refine op_mk rfl fun a W2 hB hp hq K hK => ?_
         have e10 : a.tmps[10]?.getD undef = .pointer (some ⟨y.f i, 0, none⟩) := hp 10 (by kernel_rfl)
         clear hp hq
         go_simp
         exact hK _ _ (Below.refl _ _) rfl
       · refine op_mk rfl fun a W2 hB hp hq K hK => ?_
         have e43 : a.tmps[43]?.getD undef = .pointer (some ⟨y.f i, 0, none⟩) := hq 0 43 (by kernel_rfl) (by kernel_rfl)
         clear hp hq
         go_simp
         exact hK _ _ (Below.refl _ _) rfl
       · refine op_mk rfl fun a W2 hB hp hq K hK => ?_
         have e44 : a.tmps[44]?.getD undef = .pointer (some ⟨y.f i, 0, none⟩) := hq 1 44 (by kernel_rfl) (by kernel_rfl)
         clear hp hq
         go_simp
         exact hK _ _ (Below.refl _ _) rfl
       · refine op_mk rfl fun a W2 hB hp hq K hK => ?_
         have e45 : a.tmps[45]?.getD undef = .pointer (some ⟨y.f i, 4, none⟩) := hq 2 45 (by kernel_rfl) (by kernel_rfl)
         have cc : W2.cell? ⟨y.f i, 4, none⟩ = some (.map (some (y.G i))) := ((hT7.below hB).node i x HX.out).cell 4
         clear hp hq
         go_simp
         exact hK _ _ (Below.refl _ _) rfl
       · refine op_mk rfl fun a W2 hB hp hq K hK => ?_
         have e2 : a.tmps[2]?.getD undef = .int .i64 p := hp 2 (by kernel_rfl)
         clear hp hq
         go_simp
         exact hK _ _ (Below.refl _ _) rfl
       · refine op_mk rfl fun a W2 hB hp hq K hK => ?_
         have e11 : a.tmps[11]?.getD undef = .pointer (some ⟨w4.heap.size, 0, none⟩) := hp 11 (by kernel_rfl)
         have hpa := HP7.out.below (hB.block _ HP7.out.lt)
         have hln : ((over d.data.toList ((x.pages p).getD z64)).map byteV).length = 64 := by
          rw [List.length_map, over_length (by rw [HLen.out]; simpa using d2), HLen.out]
         refine wp_load_mid 149 (.tmp 11) rfl w4.heap.size 0 ((eval_slot a 11).trans e11) _ _ hpa.range Tryz.underlying149 rfl (by rw [hln]; exact info66) ?_
         exact hK _ _ (Below.refl _ _) rfl
     · intro us W2 hB hv
       have u3 : us 3 = .map (some (y.G i)) := hv 3 (by decide) (by kernel_rfl)
       have u4 : us 4 = .int .i64 p := hv 4 (by decide) (by kernel_rfl)
       have u5 : us 5 = pageV (over d.data.toList ((x.pages p).getD z64)) := hv 5 (by decide) (by kernel_rfl)
       clear hv
       have hT2 := hT7.below hB
       obtain ⟨w8, hrun, hM8, ht8⟩ := (hT2.node i x HX.out).pages.update law64 Tryz.underlying113 (by have := HN.out; unfold maxLen; omega) (val := pageV (over d.data.toList ((x.pages p).getD z64))) (pkey64 (k := p) ⟨by omega, by omega⟩)
       obtain ⟨hT8, hU8⟩ := hT2.pages_ (Nat.le_succ N) HX.out (hM8.congr (pagesM_upd x.pages p _)) ht8
       have hi8 : (t.set i { x with pages := updP x.pages p (over d.data.toList ((x.pages p).getD z64)) }).n i = some { x with pages := updP x.pages p (over d.data.toList ((x.pages p).getD z64)) } := by rw [PT.set_n, if_pos rfl]
       have n2 : w8.cell? ⟨y.f i, 2, none⟩ = some (.int .u32 x.size) := (hT8.node i _ hi8).cell 2
       have nf2 := (hT8.node i _ hi8).frozen 2
       have k78 : w8.cell? ⟨w.heap.size, 0, none⟩ = some (.string d) := ht8.grown.cell (box_at hB k7) (fun e => by
        injection e with e
        have := (HT.out.foot i x HX.out).2.2
        have := HT.out.lt _ this
        simp at e; omega)
       have HU := zz ((Turn.of_below F (ptrans HB.out (ptrans H47.out hB))).trans hU8)
       have HT8 := zz hT8
       have HI8 := zz hi8
       clear hT2 hT7 hT8 hU8 hM8 ht8 hi8 hB HN4 H47 HP7 k7
       refine (show wpAny Tryz.prog .any _ _ 1 _ _ W2 from ?_)
       refine wpAny_one (i := 6) (by kernel_rfl) (by rfl) rfl (fun K hK => ?_)
       simp only [List.take_succ_cons, List.take_zero, putAll, Act.put, List.setIfInBounds_toArray, List.set_cons_succ, List.set_cons_zero, Nat.zero_add, Nat.reduceAdd, u3, u4, u5] at hK ⊢
       go_simp
       refine hK _ _ (wpAny_end (by kernel_rfl) ?_)
       clear hK hrun
       go_wp2
       have wr1 : IntKind.i64.wrap (p * 64) = p * 64 := IntWalk.i64_in _ (by omega)
       have wr2 : IntKind.i64.wrap (p * 64 + (d.size : Int)) = p * 64 + (d.size : Int) := IntWalk.i64_in _ (by omega)
       have wr3 : IntKind.u32.wrap (p * 64 + (d.size : Int)) = p * 64 + (d.size : Int) := IntWalk.u32_in _ (by omega)
       refine wp_region_front 16 (phi [isV (.pointer (some ⟨y.f i, 0, none⟩)), isV (.pointer (some ⟨y.f i, 0, none⟩)), isV (.pointer (some ⟨y.f i, 0, none⟩)), isV (.pointer (some ⟨y.f i, 0, none⟩)), isV (.pointer (some ⟨y.f i, 2, none⟩)), isV (.int .u32 x.size), isV (.int .i64 p), isV (.int .i64 (p * 64)), isV (.string d), isV (.int .i64 d.size), isV (.int .i64 (p * 64 + d.size)), isV (.int .u32 (p * 64 + d.size)), isV (.int .u32 (max x.size (p * 64 + d.size))), isV (.pointer (some ⟨y.f i, 0, none⟩)), isV (.pointer (some ⟨y.f i, 0, none⟩)), isV (.pointer (some ⟨y.f i, 2, none⟩))]) (by kernel_rfl) (by kernel_rfl) (by kernel_rfl) ?_ ?_ ?_
       · refine stays_phi ?_
         simp only [List.forall_mem_cons]
         exact ⟨stays_V _, stays_V _, stays_V _, stays_V _, stays_V _, stays_V _, stays_V _, stays_V _, stays_V _, stays_V _, stays_V _, stays_V _, stays_V _, stays_V _, stays_V _, stays_V _, fun _ h => absurd h (by simp)⟩
       · refine ⟨?_, ?_, ?_, ?_, ?_, ?_, ?_, ?_, ?_, ?_, ?_, ?_, ?_, ?_, ?_, ?_, trivial⟩
         · refine op_mk rfl fun a W3 hB hp hq K hK => ?_
           have e10 : a.tmps[10]?.getD undef = (.pointer (some ⟨y.f i, 0, none⟩)) := hp 10 (by kernel_rfl)
           clear hp hq
           go_simp
           exact hK _ _ (Below.refl _ _) rfl
         · refine op_mk rfl fun a W3 hB hp hq K hK => ?_
           have e10 : a.tmps[10]?.getD undef = (.pointer (some ⟨y.f i, 0, none⟩)) := hp 10 (by kernel_rfl)
           clear hp hq
           go_simp
           exact hK _ _ (Below.refl _ _) rfl
         · refine op_mk rfl fun a W3 hB hp hq K hK => ?_
           have e50 : a.tmps[50]?.getD undef = (.pointer (some ⟨y.f i, 0, none⟩)) := hq 1 50 (by kernel_rfl) (by kernel_rfl)
           clear hp hq
           go_simp
           exact hK _ _ (Below.refl _ _) rfl
         · refine op_mk rfl fun a W3 hB hp hq K hK => ?_
           have e51 : a.tmps[51]?.getD undef = (.pointer (some ⟨y.f i, 0, none⟩)) := hq 2 51 (by kernel_rfl) (by kernel_rfl)
           clear hp hq
           go_simp
           exact hK _ _ (Below.refl _ _) rfl
         · refine op_mk rfl fun a W3 hB hp hq K hK => ?_
           have e52 : a.tmps[52]?.getD undef = (.pointer (some ⟨y.f i, 0, none⟩)) := hq 3 52 (by kernel_rfl) (by kernel_rfl)
           clear hp hq
           go_simp
           exact hK _ _ (Below.refl _ _) rfl
         · refine op_mk rfl fun a W3 hB hp hq K hK => ?_
           have e53 : a.tmps[53]?.getD undef = (.pointer (some ⟨y.f i, 2, none⟩)) := hq 4 53 (by kernel_rfl) (by kernel_rfl)
           have cc : W3.cell? ⟨y.f i, 2, none⟩ = some (.int .u32 x.size) := (hB.cell (p := ⟨y.f i, 2, none⟩) (World.block_lt_of_cell? _ _ n2)).trans n2
           clear hp hq
           go_simp
           exact hK _ _ (Below.refl _ _) rfl
         · refine op_mk rfl fun a W3 hB hp hq K hK => ?_
           have e2 : a.tmps[2]?.getD undef = (.int .i64 p) := hp 2 (by kernel_rfl)
           clear hp hq
           go_simp
           exact hK _ _ (Below.refl _ _) rfl
         · refine op_mk rfl fun a W3 hB hp hq K hK => ?_
           have e55 : a.tmps[55]?.getD undef = (.int .i64 p) := hq 6 55 (by kernel_rfl) (by kernel_rfl)
           clear hp hq
           go_simp
           exact hK _ _ (Below.refl _ _) rfl
         · refine op_mk rfl fun a W3 hB hp hq K hK => ?_
           have e7 : a.tmps[7]?.getD undef = (.pointer (some ⟨w.heap.size, 0, none⟩)) := hp 7 (by kernel_rfl)
           have cc := box_at hB k78
           clear hp hq
           go_simp
           exact hK _ _ (Below.refl _ _) rfl
         · refine op_mk rfl fun a W3 hB hp hq K hK => ?_
           have e57 : a.tmps[57]?.getD undef = (.string d) := hq 8 57 (by kernel_rfl) (by kernel_rfl)
           clear hp hq
           go_simp
           exact hK _ _ (Below.refl _ _) rfl
         · refine op_mk rfl fun a W3 hB hp hq K hK => ?_
           have e56 : a.tmps[56]?.getD undef = (.int .i64 (p * 64)) := hq 7 56 (by kernel_rfl) (by kernel_rfl)
           have e58 : a.tmps[58]?.getD undef = (.int .i64 d.size) := hq 9 58 (by kernel_rfl) (by kernel_rfl)
           clear hp hq
           go_simp
           exact hK _ _ (Below.refl _ _) rfl
         · refine op_mk rfl fun a W3 hB hp hq K hK => ?_
           have e59 : a.tmps[59]?.getD undef = (.int .i64 (p * 64 + d.size)) := hq 10 59 (by kernel_rfl) (by kernel_rfl)
           clear hp hq
           go_simp
           exact hK _ _ (Below.refl _ _) rfl
         · refine op_mk rfl fun a W3 hB hp hq K hK => ?_
           have e54 : a.tmps[54]?.getD undef = (.int .u32 x.size) := hq 5 54 (by kernel_rfl) (by kernel_rfl)
           have e60 : a.tmps[60]?.getD undef = (.int .u32 (p * 64 + d.size)) := hq 11 60 (by kernel_rfl) (by kernel_rfl)
           clear hp hq
           go_simp
           exact hK _ _ (Below.refl _ _) (by show Value.int _ _ = _; congr 1; omega)
         · refine op_mk rfl fun a W3 hB hp hq K hK => ?_
           have e49 : a.tmps[49]?.getD undef = (.pointer (some ⟨y.f i, 0, none⟩)) := hq 0 49 (by kernel_rfl) (by kernel_rfl)
           clear hp hq
           go_simp
           exact hK _ _ (Below.refl _ _) rfl
         · refine op_mk rfl fun a W3 hB hp hq K hK => ?_
           have e62 : a.tmps[62]?.getD undef = (.pointer (some ⟨y.f i, 0, none⟩)) := hq 13 62 (by kernel_rfl) (by kernel_rfl)
           clear hp hq
           go_simp
           exact hK _ _ (Below.refl _ _) rfl
         · refine op_mk rfl fun a W3 hB hp hq K hK => ?_
           have e63 : a.tmps[63]?.getD undef = (.pointer (some ⟨y.f i, 0, none⟩)) := hq 14 63 (by kernel_rfl) (by kernel_rfl)
           clear hp hq
           go_simp
           exact hK _ _ (Below.refl _ _) rfl
       · intro ts W3 hB hv
         have t12 : ts 12 = .int .u32 (max x.size (p * 64 + d.size)) := hv 12 (by decide) (by kernel_rfl)
         have t15 : ts 15 = .pointer (some ⟨y.f i, 2, none⟩) := hv 15 (by decide) (by kernel_rfl)
         clear hv
         have hT3 := HT8.out.below hB
         have n3 : W3.cell? ⟨y.f i, 2, none⟩ = some (.int .u32 x.size) := (hT3.node i _ HI8.out).cell 2
         have nf3 := (hT3.node i _ HI8.out).frozen 2
         have hTF := hT3.store HI8.out 2 (.int .u32 (max x.size (p * 64 + d.size))) (x' := { x with pages := updP x.pages p (over d.data.toList ((x.pages p).getD z64)), size := max x.size (p * 64 + d.size) }) rfl rfl rfl
         have HTF := zz hTF
         have HUF := zz (HU.out.trans ((Turn.of_below F hB).trans (turn_store F W3 (y.f i) 2 (.int .u32 (max x.size (p * 64 + d.size))) (hT3.foot_f HI8.out))))
         clear hT3 hTF hB HT8 HU n2 nf2 k78
         refine (show wpAny Tryz.prog .any _ _ 1 _ _ W3 from ?_)
         refine wpAny_one (i := 16) (by kernel_rfl) (by rfl) rfl (fun K hK => ?_)
         simp only [List.take_succ_cons, List.take_zero, putAll, Act.put, List.setIfInBounds_toArray, List.set_cons_succ, List.set_cons_zero, Nat.zero_add, Nat.reduceAdd, t12, t15] at hK ⊢
         go_simp
         refine hK _ _ (wpAny_end (by kernel_rfl) ?_)
         clear hK
         go_wp2
         go_ret
         obtain ⟨rfl, rfl⟩ := HP.out
         refine ⟨rfl, ?_, HUF.out⟩
         have := HTF.out
         rw [PT.set_set] at this
         exact this
 · have hz' : (q != 0) = true := by simpa using hz
   have HP : Hid (r = q ∧ t' = t) := by
    unfold writeP at hr
    rw [hq, if_neg hz] at hr
    injection hr with a b
    exact ⟨a.symm, b.symm⟩
   clear h hi hok hr hz hd hq
   go_enter Tryz.func111, Tryz.ntmps111
   go_wp2_with (first
    | (go_at_call 81; (with_reducible refine (HTh.out _ _ _ (below_a2 w _ _) (SliceAt.built' _ [.int .u32 i] _ (w.heap.size + 1) (by simp))).mono ?_); rintro e w1 hq; obtain ⟨g1, l1, rfl, hq1, hb1⟩ := hq.get
       have HB0 : Hid (w1.cell? ⟨w.heap.size, 0, none⟩ = some (.string d)) := box_at hb1 (two_at w _ _ _)
       have HQ1 := zz hq1; have HB1 := zz (ptrans (below_a2 w _ _) hb1); clear hq hq1 hb1)
    | (go_at_call 89; (with_reducible refine (HFl.out _ HB1.out).mono ?_); rintro e w2 ⟨g2, l2, rfl, hq2, hb2⟩; have HQ2 := zz hq2; have HB2 := zz (ptrans HB1.out hb2); have HQ1' := zz (HQ1.out.later hb2); have HB0' := zz (box_at hb2 HB0.out); clear hq2 hb2)
    | (go_at_call 90; (with_reducible refine (t_paged p _ rfl w2).mono ?_); rintro e w3 hq; obtain ⟨g3, l3, rfl, hq3, hb3⟩ := hq.get; have HQ3 := zz hq3; have HB3 := zz (ptrans HB2.out hb3); have HQ1'' := zz (HQ1'.out.later hb3); have HQ2' := zz (fun h => (HQ2.out h).later hb3); have HB0'' := zz (box_at hb3 HB0'.out); clear hq hq3 hb3)
    | (go_at_call 80; (with_reducible refine (check_built w3 P [.func (.func g1) #[] l1, .func (.func g2) #[] l2, .func (.func g3) #[] l3, .func (.func 186) #[] #[.pointer (some ⟨w.heap.size, 0, none⟩)]] 4 [thereE t [i], fileE' t i, pagedE p, dataE d] q HE.out _ rfl (by omega) (asked4 HQ1''.out HQ2'.out HQ3.out (q_write rfl HD.out (World.block_lt_of_cell? _ _ HB0''.out) HB0''.out)) (by simp)).mono ?_); rintro e w4 ⟨rfl, hb4⟩
       have HB : Hid (Below w.heap.size w w4) := ptrans (ptrans HB3.out (below_a1 _ _)) hb4
       clear hb4 HQ1 HQ2 HQ3 HQ1' HQ1'' HQ2' HB1 HB2 HB3 HB0 HB0' HB0''))
   go_ret
   obtain ⟨rfl, rfl⟩ := HP.out
   exact ⟨rfl, (HT.out.below HB.out).mono (by omega), Turn.of_below F HB.out⟩
end
end
end Go.Proofs.YtpcnolkdnmolgaaGreatDoor
