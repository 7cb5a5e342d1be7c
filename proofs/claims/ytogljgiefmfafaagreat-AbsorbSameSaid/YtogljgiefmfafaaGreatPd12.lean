/- Check of a record, walked. -/
import Derived.Test.YtogljgiefmfafaaGreatPd11
import Derived.Deep.DeepCutAuto
import Derived.Deep.CutBlock
import Derived.Laws.Strings
namespace Go.Proofs.YtogljgiefmfafaaGreat
open Go.RowKit Go.Maps
abbrev recObj (r : R) : Obj := .cells #[.int .u64 r.stamp, .int .u8 r.act, .int .u32 r.dir, .string r.name, .int .u32 r.ino, .int .u8 r.kind, .int .u32 r.dir2, .string r.name2, .int .u32 r.old, .int .u32 r.size, .int .i64 r.page, .string r.data] 50
abbrev k0C : Array Value := #[.string ⟨#[]⟩, .bool false, .bool false, .bool false, .bool false, .bool false, .nilFunc]
structure RelF (B G : Nat) (n : Bool) (W W' : World) : Prop where
 os : W'.os = W.os
 tape : W'.tape = W.tape
 output : W'.output = W.output
 size : W.heap.size ≤ W'.heap.size
 old : ∀ b, b < G → b ≠ B → W'.heap[b]? = W.heap[b]?
 box : W'.heap[B]? = W.heap[B]? ∨ W'.heap[B]? = some (.cells #[.bool n] 4 (0, 0))
section
variable {B G : Nat} {n o : Bool} {W W' W'' : World}
theorem RelF.refl (W : World) : RelF B G n W W := ⟨rfl, rfl, rfl, Nat.le_refl _, fun _ _ _ => rfl, .inl rfl⟩
theorem RelF.trans (h : RelF B G n W W') (g : RelF B G n W' W'') : RelF B G n W W'' :=
 ⟨g.os.trans h.os, g.tape.trans h.tape, g.output.trans h.output, Nat.le_trans h.size g.size, fun b h1 h2 => (g.old b h1 h2).trans (h.old b h1 h2), by
  rcases g.box with e | e
  · rw [e]; exact h.box
  · exact .inr e⟩
theorem RelF.of_below (h : Below W.heap.size W W') (hG : G ≤ W.heap.size) (hB : B < G) : RelF B G n W W' :=
 ⟨h.os, h.tape, h.output, h.size, fun b hb _ => h.block b (Nat.lt_of_lt_of_le hb hG), .inl (h.block B (Nat.lt_of_lt_of_le hB hG))⟩
theorem RelF.drew (W : World) (_ : B < G) : RelF B G n W W.drew := ⟨rfl, rfl, rfl, Nat.le_refl _, fun _ _ _ => rfl, .inl rfl⟩
theorem RelF.at_ (h : RelF B G n W W') (hc : W.heap[B]? = some (.cells #[.bool o] 4 (0, 0))) : W'.heap[B]? = some (.cells #[.bool o] 4 (0, 0)) ∨ W'.heap[B]? = some (.cells #[.bool n] 4 (0, 0)) := by
 rcases h.box with e | e
 · exact .inl (e.trans hc)
 · exact .inr e
theorem RelF.set (hg : W.grownBy W' (some B)) (h : W'.heap[B]? = some (.cells #[.bool n] 4 (0, 0))) (hG : G ≤ W.heap.size) : RelF B G n W W' :=
 ⟨hg.os, hg.tape, hg.output, hg.size, fun b hb hne => hg.block b (Nat.lt_of_lt_of_le hb hG) (fun e => hne (by injection e)), .inr h⟩
theorem RelF.stays : ∀ (v : Value) (W W' : World), (fun (_ : Value) (W : World) => W.heap[B]? = some (.cells #[.bool n] 4 (0, 0))) v W → RelF B G n W W' → (fun (_ : Value) (_W : World) => W'.heap[B]? = some (.cells #[.bool n] 4 (0, 0))) v W' := fun _ W W' h hr => by
 rcases hr.box with e | e
 · exact e.trans h
 · exact e
end
structure StF (r : R) (w : World) (B3 B4 : Nat) (wd : ByteArray) (f : Value) (o : Bool) (W : World) : Prop where
 box : W.heap[B4]? = some (.cells #[.bool o] 4 (0, 0))
 rc : W.heap[w.heap.size]? = some (.cells #[.int .u64 r.stamp, .int .u8 r.act, .int .u32 r.dir, .string r.name, .int .u32 r.ino, .int .u8 r.kind, .int .u32 r.dir2, .string r.name2, .int .u32 r.old, .int .u32 r.size, .int .i64 r.page, .string r.data] 50 (0, 0))
 kd : W.heap[B3]? = some (.cells #[.string wd, .bool (kEntry r.act), .bool (kKind r.act), .bool (kMove r.act), .bool (kSized r.act), .bool (kData r.act), f] 118 (0, 0))
 below : Below w.heap.size w W
 l3 : w.heap.size < B3
 l4 : w.heap.size < B4
theorem StF.ne {r : R} {w : World} {B3 B4 : Nat} {wd : ByteArray} {f : Value} {o : Bool} {W : World} (h : StF r w B3 B4 wd f o W) : B3 ≠ B4 := fun e => by
 have a3 := h.kd
 rw [e, h.box] at a3
 injection a3 with a3
 injection a3 with _ a3
 cases a3
theorem StF.set {r : R} {w : World} {B3 B4 : Nat} {wd : ByteArray} {f : Value} {o n : Bool} {W W' : World} (h : StF r w B3 B4 wd f o W) (h4 : W'.heap[B4]? = some (.cells #[.bool n] 4 (0, 0))) (hg : W.grownBy W' (some B4)) : StF r w B3 B4 wd f n W' := by
 have lt : ∀ (B : Nat) (o : Obj), W.heap[B]? = some o → B < W.heap.size := fun B o h => (Array.getElem?_eq_some_iff.1 h).1
 refine ⟨h4, ?_, ?_, ?_, h.l3, h.l4⟩
 · exact (hg.block _ (lt _ _ h.rc) (fun e => by injection e with e; have := h.l4; omega)).trans h.rc
 · exact (hg.block _ (lt _ _ h.kd) (fun e => by injection e with e; exact h.ne e)).trans h.kd
 · exact below_grown h.below hg (Nat.le_of_lt h.l4)
theorem StF.rel {r : R} {w : World} {B3 B4 G : Nat} {wd : ByteArray} {f : Value} {o n m : Bool} {W W' : World} (h : StF r w B3 B4 wd f o W) (hG : G = W.heap.size) (h4 : W'.heap[B4]? = some (.cells #[.bool n] 4 (0, 0))) (hr : RelF B4 G m W W') : StF r w B3 B4 wd f n W' := by
 have lt : ∀ (B : Nat) (o : Obj), W.heap[B]? = some o → B < W.heap.size := fun B o h => (Array.getElem?_eq_some_iff.1 h).1
 subst hG
 refine ⟨h4, ?_, ?_, ?_, h.l3, h.l4⟩
 · exact (hr.old _ (lt _ _ h.rc) (fun e => by have := h.l4; omega)).trans h.rc
 · exact (hr.old _ (lt _ _ h.kd) h.ne).trans h.kd
 · have hb := h.below
   exact ⟨hr.os.trans hb.os, hr.tape.trans hb.tape, hr.output.trans hb.output, Nat.le_trans hb.size hr.size, fun b hb2 => (hr.old b (Nat.lt_of_lt_of_le hb2 hb.size) (fun e => by have := h.l4; omega)).trans (hb.block b hb2)⟩
def isIf (c : Prop) (p : Ph) : Ph := fun v W => c → p v W
theorem and_twice (o x : Bool) : ((o && x) && x) = (o && x) := by cases o <;> cases x <;> rfl
theorem pg_cases (p : Int) : (decide (0 ≤ p) = true ∧ decide (p < 36) = true ∧ (p == 0) = true ∧ 0 ≤ p ∧ p < 36) ∨ (decide (0 ≤ p) = true ∧ decide (p < 36) = true ∧ (p == 0) = false ∧ 0 ≤ p ∧ p < 36) ∨ (decide (0 ≤ p) = true ∧ decide (p < 36) = false ∧ (p == 0) = false ∧ 0 ≤ p ∧ ¬ p < 36) ∨ (decide (0 ≤ p) = false ∧ decide (p < 36) = true ∧ (p == 0) = false ∧ ¬ 0 ≤ p ∧ p < 36) := by
 by_cases h1 : 0 ≤ p <;> by_cases h2 : p < 36 <;> by_cases h3 : p = 0 <;> simp [h1, h2, h3] <;> omega
theorem isEmpty_size (b : ByteArray) : b.toList.isEmpty = (b.size == 0) := by
 have e : b.data.toList.length = b.size := Array.length_toList
 rw [ByteArray.toList_eq]
 cases h : b.data.toList with
 | nil =>
  rw [h] at e
  simp at e
  simp [← e]
 | cons x l =>
  rw [h] at e
  simp at e
  simp [← e]
theorem dt_cases (d : ByteArray) : ((d.size == 64) = true ∧ ((d.size : Int) == 64) = true ∧ d.toList.isEmpty = false ∧ d.size = 64) ∨ ((d.size == 64) = false ∧ ((d.size : Int) == 64) = false ∧ d.toList.isEmpty = true ∧ d.size ≠ 64) ∨ ((d.size == 64) = false ∧ ((d.size : Int) == 64) = false ∧ d.toList.isEmpty = false ∧ d.size ≠ 64) := by
 rw [isEmpty_size]
 by_cases h1 : d.size = 64 <;> by_cases h3 : d.size = 0 <;> simp [h1, h3] <;> omega
theorem checkB_chain (r : R) {ib o5 nw n7 n8 n9 n10 : Bool} (h1 : decide (1 ≤ r.act ∧ r.act ≤ 7) = ib) (h2 : (ib && fitB true (inoB r.ino) false) = o5)
  (h3 : (o5 && fitB (kEntry r.act) (inoB r.dir && pnameB r.name) (r.dir == 0 && r.name.toList.isEmpty)) = nw) (h4 : (nw && fitB (kKind r.act) (r.kind == 1 || r.kind == 2) (r.kind == 0)) = n7)
  (h5 : (n7 && fitB (kMove r.act) (inoB r.dir2 && pnameB r.name2 && decide (r.old ≤ 256)) (r.dir2 == 0 && r.name2.toList.isEmpty && r.old == 0)) = n8)
  (h6 : (n8 && fitB (kSized r.act) (decide (r.size ≤ 2304)) (r.size == 0)) = n9)
  (h7 : (n9 && fitB (kData r.act) (decide (0 ≤ r.page) && decide (r.page < 36) && r.data.size == 64) (r.page == 0 && r.data.toList.isEmpty)) = n10) : checkB r = n10 := by
 subst h1 h2 h3 h4 h5 h6 h7
 unfold checkB
 simp only [isEmpty_size, Bool.decide_and, Bool.and_assoc]
 simp [fitB]
set_option maxRecDepth 100000 in
set_option maxHeartbeats 4000000 in
theorem t_chk (r : R) (hr : r.Ok) (h1 : r.name.size ≤ maxLen) (h2 : r.name2.size ≤ maxLen) (w : World) : Calls Tryz.prog 54 #[r.val] w fun e w' => e = .returned (.int .i64 (checkE r)) ∧ Below w.heap.size w w' := by
 unfold R.val
 obtain ⟨wd, f, hkw, hf1⟩ := kindW_form r.act
 go_enter Tryz.func54, Tryz.ntmps54
 go_wp2
 obtain ⟨w0, hw0⟩ : ∃ w0, w.alloc (recObj r) = w0 := ⟨_, rfl⟩
 have hbox : w0.heap[w.heap.size]? = some (.cells #[.int .u64 r.stamp, .int .u8 r.act, .int .u32 r.dir, .string r.name, .int .u32 r.ino, .int .u8 r.kind, .int .u32 r.dir2, .string r.name2, .int .u32 r.old, .int .u32 r.size, .int .i64 r.page, .string r.data] 50 (0, 0)) := by rw [← hw0]; exact heap_alloc_new _ _
 have hBw : Below w.heap.size w w0 := by rw [← hw0]; exact (Below.refl _ _).alloc (Nat.le_refl _) _
 have hsz : w0.heap.size = w.heap.size + 1 := by rw [← hw0]; simp
 unfold recObj at hw0
 rw [hw0]
 clear hw0
 obtain ⟨kc, hkc⟩ : ∃ kc : Array Value, #[.string wd, .bool (kEntry r.act), .bool (kKind r.act), .bool (kMove r.act), .bool (kSized r.act), .bool (kData r.act), f] = kc := ⟨_, rfl⟩
 have hks : kc.size = 7 := by rw [← hkc]; rfl
 have hk1 : kc.all (·.oneCell') = true := by rw [← hkc]; exact hf1
 rw [hkc] at hkw
 have hsm := kindO_isSome r.act
 obtain ⟨ib, hib⟩ : ∃ ib, decide (1 ≤ r.act ∧ r.act ≤ 7) = ib := ⟨_, rfl⟩
 rw [hib] at hsm
 have HIB := Lib.hid hib
 clear hib
 refine wp_region_rel (RelK w0.heap.size kc (.bool ib)) (phi [isKinds, isV (.pointer (some ⟨w.heap.size, 1, none⟩)), isV (.int .u8 r.act), isV (.tuple #[.agg kc, .bool ib]), isV (.tuple #[.agg kc, .bool ib]), isV (.agg kc), isV (.bool ib), isBlk w0.heap.size k0C kc 118, isBlk w0.heap.size #[.bool false] #[.bool ib] 4,
  isBlk w0.heap.size kc kc 118, isBlk w0.heap.size #[.bool ib] #[.bool ib] 4]) (by kernel_rfl) (by kernel_rfl) (by kernel_rfl) ((RelK.refl _).trans (RelK.of_below ⟨rfl, rfl, rfl, Nat.le_refl _, fun _ _ => rfl⟩ (Nat.le_refl _))) (fun _ _ _ a b => a.trans b) ?_ ?_ ?_
 · refine stays_phiR ?_
   simp only [List.forall_mem_cons]
   exact ⟨isKinds.stays, fun _ _ _ h _ => h, fun _ _ _ h _ => h, fun _ _ _ h _ => h, fun _ _ _ h _ => h, fun _ _ _ h _ => h, fun _ _ _ h _ => h, isBlk.staysK, isBlk.staysB, isBlk.staysK, isBlk.staysB, fun _ h => absurd h (by simp)⟩
 · refine ⟨?_, ?_, ?_, ?_, ?_, ?_, ?_, ?_, ?_, ?_, ?_, trivial⟩
   · refine opR_mk rfl fun a W2 hB hp hq K hK => ?_
     have hs := hB.size
     clear hp hq hB
     go_simp
     refine (t_rkinds W2).mono ?_
     rintro e w' ⟨b, rfl, hm, hb, _⟩
     exact hK _ _ (RelK.of_below hb (by omega)) ⟨b, rfl, hm⟩
   · refine opR_mk rfl fun a W2 hB hp hq K hK => ?_
     have e1 : a.tmps[1]?.getD undef = .pointer (some ⟨w.heap.size, 0, none⟩) := hp 1 (by kernel_rfl)
     clear hp hq
     go_simp
     exact hK _ _ (RelK.refl _) rfl
   · refine opR_mk rfl fun a W2 hB hp hq K hK => ?_
     have e10 : a.tmps[10]?.getD undef = .pointer (some ⟨w.heap.size, 1, none⟩) := hq 1 _ (by kernel_rfl) rfl
     have cc : W2.cell? ⟨w.heap.size, 1, none⟩ = some (.int .u8 r.act) := by
      have hb := (hB.old w.heap.size (by omega)).trans hbox
      simp only [World.cell?, hb]; rfl
     clear hp hq
     go_simp
     exact hK _ _ (RelK.refl _) rfl
   · refine opR_mk rfl fun a W2 hB hp hq K hK => ?_
     obtain ⟨b, e9, hm⟩ : isKinds (a.tmps[9]?.getD undef) W2 := hq 0 _ (by kernel_rfl) rfl
     have e11 : a.tmps[11]?.getD undef = .int .u8 r.act := hq 2 _ (by kernel_rfl) rfl
     have hlk := hm.look_ok law8 Tryz.underlying119 (zeroK W2) (pkey8 hr.act)
     rw [show ((kindsM (.int .u8 r.act)).getD kind0) = .agg kc from hkw, show (kindsM (.int .u8 r.act)).isSome = ib from hsm] at hlk
     clear hp hq
     go_simp
     exact hK _ _ (RelK.refl _) rfl
   · refine opR_mk rfl fun a W2 hB hp hq K hK => ?_
     have e12 : a.tmps[12]?.getD undef = .tuple #[.agg kc, .bool ib] := hq 3 _ (by kernel_rfl) rfl
     clear hp hq
     go_simp
     exact hK _ _ (RelK.refl _) rfl
   · refine opR_mk rfl fun a W2 hB hp hq K hK => ?_
     have e8 : a.tmps[8]?.getD undef = .tuple #[.agg kc, .bool ib] := hq 4 _ (by kernel_rfl) rfl
     clear hp hq
     go_simp
     exact hK _ _ (RelK.refl _) rfl
   · refine opR_mk rfl fun a W2 hB hp hq K hK => ?_
     have e8 : a.tmps[8]?.getD undef = .tuple #[.agg kc, .bool ib] := hq 4 _ (by kernel_rfl) rfl
     clear hp hq
     go_simp
     exact hK _ _ (RelK.refl _) rfl
   · refine opR_mk rfl fun a W2 hB hp hq K hK => ?_
     have hs := hB.size
     clear hp hq
     go_simp
     exact hK _ _ (RelK.of_below ((Below.refl _ _).alloc (Nat.le_refl _) _) (by omega)) ⟨_, rfl, by omega, .inl (heap_alloc_new _ _)⟩
   · refine opR_mk rfl fun a W2 hB hp hq K hK => ?_
     have hs := hB.size
     clear hp hq
     go_simp
     exact hK _ _ (RelK.of_below ((Below.refl _ _).alloc (Nat.le_refl _) _) (by omega)) ⟨_, rfl, by omega, .inl (heap_alloc_new _ _)⟩
   · refine opR_mk rfl fun a W2 hB hp hq K hK => ?_
     obtain ⟨B, e3, hBG, hBc⟩ : isBlk w0.heap.size k0C kc 118 (a.tmps[3]?.getD undef) W2 := hq 7 _ (by kernel_rfl) rfl
     have e13 : a.tmps[13]?.getD undef = .agg kc := hq 5 _ (by kernel_rfl) rfl
     have hK3 : ∀ W', RelK w0.heap.size kc (.bool ib) W2 W' → W'.heap[B]? = some (.cells kc 118 (0, 0)) → K (a.put none undef) W' := fun W' h1 h2 => hK undef W' h1 (by show isBlk _ _ _ _ (a.tmps[3]?.getD undef) W'; rw [e3]; exact ⟨B, rfl, hBG, .inl h2⟩)
     clear hp hq hK
     have key : ∀ cs : Array Value, cs.size = 7 → W2.heap[B]? = some (.cells cs 118 (0, 0)) → K (a.put none undef) (W2.setCells B 0 kc.toList) ∧ W2.there B 0 kc.size := fun cs h7 hc => by
      obtain ⟨g1, g2, g3⟩ := set_block (kc := kc) hc (h7.trans hks.symm)
      exact ⟨hK3 _ (RelK.setK hc hBG g2 g1) g1, g3⟩
     obtain ⟨k1, k2⟩ : K (a.put none undef) (W2.setCells B 0 kc.toList) ∧ W2.there B 0 kc.size := by
      rcases hBc with h | h
      · exact key _ rfl h
      · exact key _ hks h
     exact wp_store_mid 118 (.tmp 3) (.tmp 13) rfl B 0 kc ((eval_slot a 3).trans e3) ((eval_slot a 13).trans e13) k2 (by rw [hks]; exact infoK) hk1 k1
   · refine opR_mk rfl fun a W2 hB hp hq K hK => ?_
     obtain ⟨B, e4, hBG, hBc⟩ : isBlk w0.heap.size #[.bool false] #[.bool ib] 4 (a.tmps[4]?.getD undef) W2 := hq 8 _ (by kernel_rfl) rfl
     have e14 : a.tmps[14]?.getD undef = .bool ib := hq 6 _ (by kernel_rfl) rfl
     have hK3 : ∀ W', RelK w0.heap.size kc (.bool ib) W2 W' → W'.heap[B]? = some (.cells #[.bool ib] 4 (0, 0)) → K (a.put none undef) W' := fun W' h1 h2 => hK undef W' h1 (by show isBlk _ _ _ _ (a.tmps[4]?.getD undef) W'; rw [e4]; exact ⟨B, rfl, hBG, .inl h2⟩)
     clear hp hq hK
     have key : ∀ cs : Array Value, cs.size = 1 → W2.heap[B]? = some (.cells cs 4 (0, 0)) → K (a.put none undef) (W2.setCell ⟨B, 0, none⟩ (.bool ib)) := fun cs h7 hc => by
      have g1 := pheap_set W2 B 0 (.bool ib) _ _ hc
      have e : cs.setIfInBounds 0 (.bool ib) = #[.bool ib] := by
       apply Array.ext
       · simp [h7]
       · intro i h1 h2
         have : i = 0 := by simp at h2; omega
         subst this
         simp
      rw [e] at g1
      exact hK3 _ (RelK.setB hc hBG (pgrown_set _ _ _ _) g1) g1
     have hcell : ∃ v, W2.cell? ⟨B, 0, none⟩ = some v := by
      rcases hBc with h | h <;> (simp only [World.cell?, h]; exact ⟨_, rfl⟩)
     have hfz : W2.frozen? ⟨B, 0, none⟩ = false := by
      rcases hBc with h | h <;> simp [World.frozen?, h]
     have hfin : K (a.put none undef) (W2.setCell ⟨B, 0, none⟩ (.bool ib)) := by
      rcases hBc with h | h
      · exact key _ rfl h
      · exact key _ rfl h
     obtain ⟨v0, hv0⟩ := hcell
     clear key hK3 hBc
     go_simp
     exact hfin
 · intro us W2 hB2 hv hst
   obtain ⟨B3, u7, hg3, _⟩ : isBlk w0.heap.size k0C kc 118 (us 7) W2 := hv 7 _ rfl rfl
   obtain ⟨B4, u8, hg4, _⟩ : isBlk w0.heap.size #[.bool false] #[.bool ib] 4 (us 8) W2 := hv 8 _ rfl rfl
   obtain ⟨B3', e3, _, hc3⟩ : isBlk w0.heap.size kc kc 118 (us 7) W2 := hst 9 _ 3 7 _ rfl rfl rfl rfl rfl
   obtain ⟨B4', e4, _, hc4⟩ : isBlk w0.heap.size #[.bool ib] #[.bool ib] 4 (us 8) W2 := hst 10 _ 4 8 _ rfl rfl rfl rfl rfl
   have h3 : W2.heap[B3]? = some (.cells kc 118 (0, 0)) := by
    rw [u7] at e3; injection e3 with e3; injection e3 with e3; injection e3 with e3; rw [e3]; exact hc3.elim id id
   have h4 : W2.heap[B4]? = some (.cells #[.bool ib] 4 (0, 0)) := by
    rw [u8] at e4; injection e4 with e4; injection e4 with e4; injection e4 with e4; rw [e4]; exact hc4.elim id id
   have hb2 := (hB2.old w.heap.size (by omega)).trans hbox
   have hBw2 : Below w.heap.size w W2 := ⟨hB2.os.trans hBw.os, hB2.tape.trans hBw.tape, hB2.output.trans hBw.output, Nat.le_trans hBw.size hB2.size, fun b hb => (hB2.old b (by omega)).trans (hBw.block b hb)⟩
   have hl3 : w.heap.size < B3 := by omega
   have hl4 : w.heap.size < B4 := by omega
   rw [← hkc] at h3
   have H3 := Lib.hid h3
   have H4 := Lib.hid h4
   have HBX := Lib.hid hb2
   have HB2 := Lib.hid hBw2
   clear hv hst e3 e4 hc3 hc4 h3 h4 hb2 hBw2 hkc hks hk1 hkw hB2 hbox hBw hg3 hg4 hsm hf1
   simp only [putAll, Act.put, List.setIfInBounds_toArray, List.set_cons_succ, List.set_cons_zero, Nat.zero_add, Nat.reduceAdd, u7, u8]
   have c4 : W2.cell? ⟨w.heap.size, 4, none⟩ = some (.int .u32 r.ino) := by (simp only [World.cell?, HBX.out]; rfl)
   go_wp2_with (first
    | (go_at_call 106; (with_reducible refine (t_ino _ _ rfl _).mono ?_); rintro e w' ⟨rfl, rfl⟩)
    | (go_at_call 109; (with_reducible refine (t_fits _ _ _ _ _ B4 _ rfl H4.out).mono ?_); rintro e W5 ⟨rfl, h5, hg5⟩
       have H5 := Lib.hid h5
       have HX5 := Lib.hid ((hg5.block w.heap.size (by have := (Array.getElem?_eq_some_iff.1 HBX.out).1; exact this) (fun e => by injection e with e; omega)).trans HBX.out)
       have HK5 := Lib.hid ((hg5.block B3 (by have := (Array.getElem?_eq_some_iff.1 H3.out).1; exact this) (fun e => by injection e with e; have a3 := H3.out; have a4 := H4.out; rw [e, a4] at a3; injection a3 with a3; injection a3 with _ a3; cases a3)).trans H3.out)
       have HB5 := Lib.hid (below_grown HB2.out hg5 (by omega))
       clear h5 hg5))
   obtain ⟨o5, ho5⟩ : ∃ b : Bool, (ib && fitB true (inoB r.ino) false) = b := ⟨_, rfl⟩
   rw [ho5] at H5
   have HO5 := Lib.hid ho5
   have HLB : Hid (B4 < W5.heap.size) := (Array.getElem?_eq_some_iff.1 H5.out).1
   have HLR : Hid (w.heap.size < W5.heap.size ∧ w.heap.size ≠ B4) := ⟨(Array.getElem?_eq_some_iff.1 HX5.out).1, by omega⟩
   have HLK : Hid (B3 < W5.heap.size ∧ B3 ≠ B4) := ⟨(Array.getElem?_eq_some_iff.1 HK5.out).1, fun e => by have a3 := HK5.out; rw [e, H5.out] at a3; injection a3 with a3; injection a3 with _ a3; cases a3⟩
   clear ho5 c4 HBX H3 H4 HB2
   obtain ⟨q61, hq61⟩ : ∃ b : Bool, (inoB r.dir) = b := ⟨_, rfl⟩
   have Hq61 := Lib.hid hq61
   clear hq61
   obtain ⟨q62, hq62⟩ : ∃ b : Bool, (pnameB r.name) = b := ⟨_, rfl⟩
   have Hq62 := Lib.hid hq62
   clear hq62
   obtain ⟨q63, hq63⟩ : ∃ b : Bool, (r.dir == 0) = b := ⟨_, rfl⟩
   have Hq63 := Lib.hid hq63
   clear hq63
   obtain ⟨q64, hq64⟩ : ∃ b : Bool, (r.name.toList.isEmpty) = b := ⟨_, rfl⟩
   have Hq64 := Lib.hid hq64
   clear hq64
   obtain ⟨nw, hnw⟩ : ∃ b : Bool, (o5 && fitB (kEntry r.act) (q61 && q62) (q63 && q64)) = b := ⟨_, rfl⟩
   have HNW := Lib.hid hnw
   clear hnw
   refine wp_region_rel (RelF B4 W5.heap.size nw) (phi [isV (.func (.func 109) #[] #[.pointer (some ⟨B4, 0, none⟩)]), isV (.pointer (some ⟨B3, 1, none⟩)), isV (.bool (kEntry r.act)), isV (.func (.func 106) #[] #[]), isV (.pointer (some ⟨w.heap.size, 2, none⟩)), isV (.int .u32 r.dir), isV (.bool q61), isV (.bool q61), isIf (q61 = true) (isV (.func (.func 107) #[] #[])), isIf (q61 = true) (isV (.pointer (some ⟨w.heap.size, 3, none⟩))), isIf (q61 = true) (isV (.string r.name)), isIf (q61 = true) (isV (.bool q62)), isV (.bool (q61 && q62)), isV (.pointer (some ⟨w.heap.size, 2, none⟩)), isV (.int .u32 r.dir), isV (.bool q63), isV (.bool q63), isIf (q63 = true) (isV (.pointer (some ⟨w.heap.size, 3, none⟩))), isIf (q63 = true) (isV (.string r.name)), isIf (q63 = true) (isV (.bool q64)), isV (.bool (q63 && q64)), fun _ W => W.heap[B4]? = some (.cells #[.bool nw] 4 (0, 0))]) (by kernel_rfl) (by kernel_rfl) (by kernel_rfl) (RelF.drew _ HLB.out) (fun _ _ _ a b => a.trans b) ?_ ?_ ?_
   · refine stays_phiR ?_
     simp only [List.forall_mem_cons]
     exact ⟨fun _ _ _ h _ => h, fun _ _ _ h _ => h, fun _ _ _ h _ => h, fun _ _ _ h _ => h, fun _ _ _ h _ => h, fun _ _ _ h _ => h, fun _ _ _ h _ => h, fun _ _ _ h _ => h, fun _ _ _ h _ => h, fun _ _ _ h _ => h, fun _ _ _ h _ => h, fun _ _ _ h _ => h, fun _ _ _ h _ => h, fun _ _ _ h _ => h, fun _ _ _ h _ => h, fun _ _ _ h _ => h, fun _ _ _ h _ => h, fun _ _ _ h _ => h, fun _ _ _ h _ => h, fun _ _ _ h _ => h, fun _ _ _ h _ => h, RelF.stays, fun _ h => absurd h (by simp)⟩
   · refine ⟨?_, ?_, ?_, ?_, ?_, ?_, ?_, ?_, ?_, ?_, ?_, ?_, ?_, ?_, ?_, ?_, ?_, ?_, ?_, ?_, ?_, ?_, trivial⟩
     · refine opR_mk rfl fun a W2 hB hp hq K hK => ?_
       have e7 : a.tmps[7]?.getD undef = .func (.func 109) #[] #[.pointer (some ⟨B4, 0, none⟩)] := hp 7 (by kernel_rfl)
       clear hp hq
       go_simp
       exact hK _ _ (RelF.refl _) rfl
     · refine opR_mk rfl fun a W2 hB hp hq K hK => ?_
       have e3 : a.tmps[3]?.getD undef = .pointer (some ⟨B3, 0, none⟩) := hp 3 (by kernel_rfl)
       clear hp hq
       go_simp
       exact hK _ _ (RelF.refl _) rfl
     · refine opR_mk rfl fun a W2 hB hp hq K hK => ?_
       have e23 : a.tmps[23]?.getD undef = .pointer (some ⟨B3, 1, none⟩) := hq 1 _ (by kernel_rfl) rfl
       have cc : W2.cell? ⟨B3, 1, none⟩ = some (.bool (kEntry r.act)) := by (have hb := (hB.old B3 HLK.out.1 HLK.out.2).trans HK5.out; simp only [World.cell?, hb]; rfl)
       clear hp hq
       go_simp
       exact hK _ _ (RelF.refl _) rfl
     · refine opR_mk rfl fun a W2 hB hp hq K hK => ?_
       have e5 : a.tmps[5]?.getD undef = .func (.func 106) #[] #[] := hp 5 (by kernel_rfl)
       clear hp hq
       go_simp
       exact hK _ _ (RelF.refl _) rfl
     · refine opR_mk rfl fun a W2 hB hp hq K hK => ?_
       have e1 : a.tmps[1]?.getD undef = .pointer (some ⟨w.heap.size, 0, none⟩) := hp 1 (by kernel_rfl)
       clear hp hq
       go_simp
       exact hK _ _ (RelF.refl _) rfl
     · refine opR_mk rfl fun a W2 hB hp hq K hK => ?_
       have e26 : a.tmps[26]?.getD undef = .pointer (some ⟨w.heap.size, 2, none⟩) := hq 4 _ (by kernel_rfl) rfl
       have cc : W2.cell? ⟨w.heap.size, 2, none⟩ = some (.int .u32 r.dir) := by (have hb := (hB.old w.heap.size HLR.out.1 HLR.out.2).trans HX5.out; simp only [World.cell?, hb]; rfl)
       clear hp hq
       go_simp
       exact hK _ _ (RelF.refl _) rfl
     · refine opR_mk rfl fun a W2 hB hp hq K hK => ?_
       have e25 : a.tmps[25]?.getD undef = .func (.func 106) #[] #[] := hq 3 _ (by kernel_rfl) rfl
       have e27 : a.tmps[27]?.getD undef = .int .u32 r.dir := hq 5 _ (by kernel_rfl) rfl
       clear hp hq
       go_simp
       refine (t_ino _ _ Hq61.out _).mono ?_
       rintro e w2 ⟨rfl, rfl⟩
       exact hK _ _ (RelF.refl _) rfl
     · refine opR_mk rfl fun a W2 hB hp hq K hK => ?_
       have e28 : a.tmps[28]?.getD undef = .bool q61 := hq 6 _ (by kernel_rfl) rfl
       clear hp hq
       go_simp
       exact hK _ _ (RelF.refl _) rfl
     · refine opR_guard (j := 7) (d := 29) (c := q61) rfl rfl (by kernel_rfl) rfl rfl (fun v W h => h) (fun _ => RelF.refl _) (fun hne _ h => absurd h hne) fun hc a W2 hB hp hq K hK => ?_
       have e6 : a.tmps[6]?.getD undef = .func (.func 107) #[] #[] := hp 6 (by kernel_rfl)
       clear hp hq
       go_simp
       exact hK _ _ (RelF.refl _) (fun _ => rfl)
     · refine opR_guard (j := 7) (d := 29) (c := q61) rfl rfl (by kernel_rfl) rfl rfl (fun v W h => h) (fun _ => RelF.refl _) (fun hne _ h => absurd h hne) fun hc a W2 hB hp hq K hK => ?_
       have e1 : a.tmps[1]?.getD undef = .pointer (some ⟨w.heap.size, 0, none⟩) := hp 1 (by kernel_rfl)
       clear hp hq
       go_simp
       exact hK _ _ (RelF.refl _) (fun _ => rfl)
     · refine opR_guard (j := 7) (d := 29) (c := q61) rfl rfl (by kernel_rfl) rfl rfl (fun v W h => h) (fun _ => RelF.refl _) (fun hne _ h => absurd h hne) fun hc a W2 hB hp hq K hK => ?_
       have e31 : a.tmps[31]?.getD undef = .pointer (some ⟨w.heap.size, 3, none⟩) := hq 9 _ (by kernel_rfl) rfl hc
       have cc : W2.cell? ⟨w.heap.size, 3, none⟩ = some (.string r.name) := by (have hb := (hB.old w.heap.size HLR.out.1 HLR.out.2).trans HX5.out; simp only [World.cell?, hb]; rfl)
       clear hp hq
       go_simp
       exact hK _ _ (RelF.refl _) (fun _ => rfl)
     · refine opR_guard (j := 7) (d := 29) (c := q61) rfl rfl (by kernel_rfl) rfl rfl (fun v W h => h) (fun _ => RelF.refl _) (fun hne _ h => absurd h hne) fun hc a W2 hB hp hq K hK => ?_
       have e30 : a.tmps[30]?.getD undef = .func (.func 107) #[] #[] := hq 8 _ (by kernel_rfl) rfl hc
       have e32 : a.tmps[32]?.getD undef = .string r.name := hq 10 _ (by kernel_rfl) rfl hc
       have hs := hB.size
       clear hp hq
       go_simp
       refine (t_nm _ _ Hq62.out _ h1).mono ?_
       rintro e w2 ⟨rfl, hb2⟩
       exact hK _ _ (RelF.of_below hb2 hs HLB.out) (fun _ => rfl)
     · refine opR_mk rfl fun a W2 hB hp hq K hK => ?_
       have e29 : a.tmps[29]?.getD undef = .bool q61 := hq 7 _ (by kernel_rfl) rfl
       by_cases hc : (q61) = true
       · have e33 : a.tmps[33]?.getD undef = .bool q62 := hq 11 _ (by kernel_rfl) rfl hc
         clear hp hq
         rw [hc] at e29
         go_simp
         exact hK _ _ (RelF.refl _) (by show _ = _; rw [hc]; simp)
       · have hc0 : (q61) = false := by simpa using hc
         clear hp hq
         rw [hc0] at e29
         go_simp
         exact hK _ _ (RelF.refl _) (by show _ = _; rw [hc0]; rfl)
     · refine opR_mk rfl fun a W2 hB hp hq K hK => ?_
       have e1 : a.tmps[1]?.getD undef = .pointer (some ⟨w.heap.size, 0, none⟩) := hp 1 (by kernel_rfl)
       clear hp hq
       go_simp
       exact hK _ _ (RelF.refl _) rfl
     · refine opR_mk rfl fun a W2 hB hp hq K hK => ?_
       have e35 : a.tmps[35]?.getD undef = .pointer (some ⟨w.heap.size, 2, none⟩) := hq 13 _ (by kernel_rfl) rfl
       have cc : W2.cell? ⟨w.heap.size, 2, none⟩ = some (.int .u32 r.dir) := by (have hb := (hB.old w.heap.size HLR.out.1 HLR.out.2).trans HX5.out; simp only [World.cell?, hb]; rfl)
       clear hp hq
       go_simp
       exact hK _ _ (RelF.refl _) rfl
     · refine opR_mk rfl fun a W2 hB hp hq K hK => ?_
       have e36 : a.tmps[36]?.getD undef = .int .u32 r.dir := hq 14 _ (by kernel_rfl) rfl
       clear hp hq
       go_simp
       first | (rw [Hq63.out]; exact hK _ _ (RelF.refl _) rfl) | (have hh := hK (.bool (r.dir == 0)) _ (RelF.refl _) (by rw [Hq63.out]; rfl); simpa using hh)
     · refine opR_mk rfl fun a W2 hB hp hq K hK => ?_
       have e37 : a.tmps[37]?.getD undef = .bool q63 := hq 15 _ (by kernel_rfl) rfl
       clear hp hq
       go_simp
       exact hK _ _ (RelF.refl _) rfl
     · refine opR_guard (j := 16) (d := 38) (c := q63) rfl rfl (by kernel_rfl) rfl rfl (fun v W h => h) (fun _ => RelF.refl _) (fun hne _ h => absurd h hne) fun hc a W2 hB hp hq K hK => ?_
       have e1 : a.tmps[1]?.getD undef = .pointer (some ⟨w.heap.size, 0, none⟩) := hp 1 (by kernel_rfl)
       clear hp hq
       go_simp
       exact hK _ _ (RelF.refl _) (fun _ => rfl)
     · refine opR_guard (j := 16) (d := 38) (c := q63) rfl rfl (by kernel_rfl) rfl rfl (fun v W h => h) (fun _ => RelF.refl _) (fun hne _ h => absurd h hne) fun hc a W2 hB hp hq K hK => ?_
       have e39 : a.tmps[39]?.getD undef = .pointer (some ⟨w.heap.size, 3, none⟩) := hq 17 _ (by kernel_rfl) rfl hc
       have cc : W2.cell? ⟨w.heap.size, 3, none⟩ = some (.string r.name) := by (have hb := (hB.old w.heap.size HLR.out.1 HLR.out.2).trans HX5.out; simp only [World.cell?, hb]; rfl)
       clear hp hq
       go_simp
       exact hK _ _ (RelF.refl _) (fun _ => rfl)
     · refine opR_guard (j := 16) (d := 38) (c := q63) rfl rfl (by kernel_rfl) rfl rfl (fun v W h => h) (fun _ => RelF.refl _) (fun hne _ h => absurd h hne) fun hc a W2 hB hp hq K hK => ?_
       have e40 : a.tmps[40]?.getD undef = .string r.name := hq 18 _ (by kernel_rfl) rfl hc
       clear hp hq
       go_simp
       first | (rw [Hq64.out]; exact hK _ _ (RelF.refl _) (fun _ => rfl)) | (have hh := hK (.bool (r.name.toList.isEmpty)) _ (RelF.refl _) (by rw [Hq64.out]; exact fun _ => rfl); simpa using hh)
     · refine opR_mk rfl fun a W2 hB hp hq K hK => ?_
       have e38 : a.tmps[38]?.getD undef = .bool q63 := hq 16 _ (by kernel_rfl) rfl
       by_cases hc : (q63) = true
       · have e41 : a.tmps[41]?.getD undef = .bool q64 := hq 19 _ (by kernel_rfl) rfl hc
         clear hp hq
         rw [hc] at e38
         go_simp
         exact hK _ _ (RelF.refl _) (by show _ = _; rw [hc]; simp)
       · have hc0 : (q63) = false := by simpa using hc
         clear hp hq
         rw [hc0] at e38
         go_simp
         exact hK _ _ (RelF.refl _) (by show _ = _; rw [hc0]; rfl)
     · refine opR_mk rfl fun a W2 hB hp hq K hK => ?_
       have e22 : a.tmps[22]?.getD undef = .func (.func 109) #[] #[.pointer (some ⟨B4, 0, none⟩)] := hq 0 _ (by kernel_rfl) rfl
       have e24 : a.tmps[24]?.getD undef = .bool (kEntry r.act) := hq 2 _ (by kernel_rfl) rfl
       have e34 : a.tmps[34]?.getD undef = .bool (q61 && q62) := hq 12 _ (by kernel_rfl) rfl
       have e42 : a.tmps[42]?.getD undef = .bool (q63 && q64) := hq 20 _ (by kernel_rfl) rfl
       have hat := hB.at_ H5.out
       have hK3 : ∀ W', W2.grownBy W' (some B4) → W'.heap[B4]? = some (.cells #[.bool nw] 4 (0, 0)) → K (a.put (some 43) (.tuple #[])) W' := fun W' g1 g2 => hK _ _ (RelF.set g1 g2 hB.size) g2
       clear hp hq hK
       rcases hat with hat | hat
       · go_simp
         refine (t_fits _ _ _ _ nw B4 _ HNW.out hat).mono ?_
         rintro e w2 ⟨rfl, g1, g2⟩
         exact hK3 _ g2 g1
       · go_simp
         refine (t_fits _ _ _ _ nw B4 _ (by rw [← HNW.out]; exact and_twice _ _) hat).mono ?_
         rintro e w2 ⟨rfl, g1, g2⟩
         exact hK3 _ g2 g1
   · intro vs W6 hB6 hv6 _
     have hS5 : StF r w B3 B4 wd f o5 W5 := ⟨H5.out, HX5.out, HK5.out, HB5.out, hl3, hl4⟩
     have h46 : W6.heap[B4]? = some (.cells #[.bool nw] 4 (0, 0)) := hv6 21 _ rfl rfl
     have HS6 := Lib.hid (hS5.rel rfl h46 hB6)
     clear hS5 h46 hB6 hv6 H5 HX5 HK5 HB5 HLB HLR HLK
     simp only [putAll, Act.put, List.setIfInBounds_toArray, List.set_cons_succ, List.set_cons_zero, Nat.zero_add, Nat.reduceAdd]
     obtain ⟨n7, hn7⟩ : ∃ b : Bool, (nw && fitB (kKind r.act) (r.kind == 1 || r.kind == 2) (r.kind == 0)) = b := ⟨_, rfl⟩
     have HN7 := Lib.hid hn7
     clear hn7
     go_upto_region 7 with fail
     go_cut [] (fun wx => Hid (StF r w B3 B4 wd f n7 wx))
     case first =>
      have c5 : W6.cell? ⟨w.heap.size, 5, none⟩ = some (.int .u8 r.kind) := by (simp only [World.cell?, HS6.out.rc]; rfl)
      have k2 : W6.cell? ⟨B3, 2, none⟩ = some (.bool (kKind r.act)) := by (simp only [World.cell?, HS6.out.kd]; rfl)
      cases h1k : (r.kind == 1) <;> cases h2k : (r.kind == 2) <;> cases h0k : (r.kind == 0)
      all_goals
       have H1K := Lib.hid h1k
       have H2K := Lib.hid h2k
       have H0K := Lib.hid h0k
       go_wp2_with (go_at_call 109; (with_reducible refine (t_fits _ _ _ _ n7 B4 _ (by have hh := HN7.out; rw [H1K.out, H2K.out, H0K.out] at hh; simpa using hh) HS6.out.box).mono ?_); rintro e W7 ⟨rfl, g1, g2⟩; have HS7 := Lib.hid (HS6.out.set g1 g2); clear g1 g2)
       go_meet
       exact HS7
     case rest =>
     have HS7 := hcut
     clear hcut HS6
     go_wp2
     have H5 := Lib.hid HS7.out.box
     have HX5 := Lib.hid HS7.out.rc
     have HK5 := Lib.hid HS7.out.kd
     have HLB : Hid (B4 < wc.heap.size) := (Array.getElem?_eq_some_iff.1 H5.out).1
     have HLR : Hid (w.heap.size < wc.heap.size ∧ w.heap.size ≠ B4) := ⟨(Array.getElem?_eq_some_iff.1 HX5.out).1, by have := HS7.out.l4; omega⟩
     have HLK : Hid (B3 < wc.heap.size ∧ B3 ≠ B4) := ⟨(Array.getElem?_eq_some_iff.1 HK5.out).1, HS7.out.ne⟩
     obtain ⟨q81, hq81⟩ : ∃ b : Bool, (inoB r.dir2) = b := ⟨_, rfl⟩
     have Hq81 := Lib.hid hq81
     clear hq81
     obtain ⟨q82, hq82⟩ : ∃ b : Bool, (pnameB r.name2) = b := ⟨_, rfl⟩
     have Hq82 := Lib.hid hq82
     clear hq82
     obtain ⟨q83, hq83⟩ : ∃ b : Bool, (decide (r.old ≤ 256)) = b := ⟨_, rfl⟩
     have Hq83 := Lib.hid hq83
     clear hq83
     obtain ⟨q84, hq84⟩ : ∃ b : Bool, (r.dir2 == 0) = b := ⟨_, rfl⟩
     have Hq84 := Lib.hid hq84
     clear hq84
     obtain ⟨q85, hq85⟩ : ∃ b : Bool, (r.name2.toList.isEmpty) = b := ⟨_, rfl⟩
     have Hq85 := Lib.hid hq85
     clear hq85
     obtain ⟨q86, hq86⟩ : ∃ b : Bool, (r.old == 0) = b := ⟨_, rfl⟩
     have Hq86 := Lib.hid hq86
     clear hq86
     obtain ⟨n8, hn8⟩ : ∃ b : Bool, (n7 && fitB (kMove r.act) (q81 && q82 && q83) (q84 && q85 && q86)) = b := ⟨_, rfl⟩
     have HN8 := Lib.hid hn8
     clear hn8
     refine wp_region_rel (RelF B4 wc.heap.size n8) (phi [isV (.func (.func 109) #[] #[.pointer (some ⟨B4, 0, none⟩)]), isV (.pointer (some ⟨B3, 3, none⟩)), isV (.bool (kMove r.act)), isV (.func (.func 106) #[] #[]), isV (.pointer (some ⟨w.heap.size, 6, none⟩)), isV (.int .u32 r.dir2), isV (.bool q81), isV (.bool q81), isIf (q81 = true) (isV (.func (.func 107) #[] #[])), isIf (q81 = true) (isV (.pointer (some ⟨w.heap.size, 7, none⟩))), isIf (q81 = true) (isV (.string r.name2)), isIf (q81 = true) (isV (.bool q82)), isV (.bool (q81 && q82)), isV (.bool (q81 && q82)), isIf ((q81 && q82) = true) (isV (.pointer (some ⟨w.heap.size, 8, none⟩))), isIf ((q81 && q82) = true) (isV (.int .u32 r.old)), isIf ((q81 && q82) = true) (isV (.bool q83)), isV (.bool (q81 && q82 && q83)), isV (.pointer (some ⟨w.heap.size, 6, none⟩)), isV (.int .u32 r.dir2), isV (.bool q84), isV (.bool q84), isIf (q84 = true) (isV (.pointer (some ⟨w.heap.size, 7, none⟩))), isIf (q84 = true) (isV (.string r.name2)), isIf (q84 = true) (isV (.bool q85)), isV (.bool (q84 && q85)), isV (.bool (q84 && q85)), isIf ((q84 && q85) = true) (isV (.pointer (some ⟨w.heap.size, 8, none⟩))), isIf ((q84 && q85) = true) (isV (.int .u32 r.old)), isIf ((q84 && q85) = true) (isV (.bool q86)), isV (.bool (q84 && q85 && q86)), fun _ W => W.heap[B4]? = some (.cells #[.bool n8] 4 (0, 0))]) (by kernel_rfl) (by kernel_rfl) (by kernel_rfl) (RelF.drew _ HLB.out) (fun _ _ _ a b => a.trans b) ?_ ?_ ?_
     · refine stays_phiR ?_
       simp only [List.forall_mem_cons]
       exact ⟨fun _ _ _ h _ => h, fun _ _ _ h _ => h, fun _ _ _ h _ => h, fun _ _ _ h _ => h, fun _ _ _ h _ => h, fun _ _ _ h _ => h, fun _ _ _ h _ => h, fun _ _ _ h _ => h, fun _ _ _ h _ => h, fun _ _ _ h _ => h, fun _ _ _ h _ => h, fun _ _ _ h _ => h, fun _ _ _ h _ => h, fun _ _ _ h _ => h, fun _ _ _ h _ => h, fun _ _ _ h _ => h, fun _ _ _ h _ => h, fun _ _ _ h _ => h, fun _ _ _ h _ => h, fun _ _ _ h _ => h, fun _ _ _ h _ => h, fun _ _ _ h _ => h, fun _ _ _ h _ => h, fun _ _ _ h _ => h, fun _ _ _ h _ => h, fun _ _ _ h _ => h, fun _ _ _ h _ => h, fun _ _ _ h _ => h, fun _ _ _ h _ => h, fun _ _ _ h _ => h, fun _ _ _ h _ => h, RelF.stays, fun _ h => absurd h (by simp)⟩
     · refine ⟨?_, ?_, ?_, ?_, ?_, ?_, ?_, ?_, ?_, ?_, ?_, ?_, ?_, ?_, ?_, ?_, ?_, ?_, ?_, ?_, ?_, ?_, ?_, ?_, ?_, ?_, ?_, ?_, ?_, ?_, ?_, ?_, trivial⟩
       · refine opR_mk rfl fun a W2 hB hp hq K hK => ?_
         have e7 : a.tmps[7]?.getD undef = .func (.func 109) #[] #[.pointer (some ⟨B4, 0, none⟩)] := hp 7 (by kernel_rfl)
         clear hp hq
         go_simp
         exact hK _ _ (RelF.refl _) rfl
       · refine opR_mk rfl fun a W2 hB hp hq K hK => ?_
         have e3 : a.tmps[3]?.getD undef = .pointer (some ⟨B3, 0, none⟩) := hp 3 (by kernel_rfl)
         clear hp hq
         go_simp
         exact hK _ _ (RelF.refl _) rfl
       · refine opR_mk rfl fun a W2 hB hp hq K hK => ?_
         have e60 : a.tmps[60]?.getD undef = .pointer (some ⟨B3, 3, none⟩) := hq 1 _ (by kernel_rfl) rfl
         have cc : W2.cell? ⟨B3, 3, none⟩ = some (.bool (kMove r.act)) := by (have hb := (hB.old B3 HLK.out.1 HLK.out.2).trans HK5.out; simp only [World.cell?, hb]; rfl)
         clear hp hq
         go_simp
         exact hK _ _ (RelF.refl _) rfl
       · refine opR_mk rfl fun a W2 hB hp hq K hK => ?_
         have e5 : a.tmps[5]?.getD undef = .func (.func 106) #[] #[] := hp 5 (by kernel_rfl)
         clear hp hq
         go_simp
         exact hK _ _ (RelF.refl _) rfl
       · refine opR_mk rfl fun a W2 hB hp hq K hK => ?_
         have e1 : a.tmps[1]?.getD undef = .pointer (some ⟨w.heap.size, 0, none⟩) := hp 1 (by kernel_rfl)
         clear hp hq
         go_simp
         exact hK _ _ (RelF.refl _) rfl
       · refine opR_mk rfl fun a W2 hB hp hq K hK => ?_
         have e63 : a.tmps[63]?.getD undef = .pointer (some ⟨w.heap.size, 6, none⟩) := hq 4 _ (by kernel_rfl) rfl
         have cc : W2.cell? ⟨w.heap.size, 6, none⟩ = some (.int .u32 r.dir2) := by (have hb := (hB.old w.heap.size HLR.out.1 HLR.out.2).trans HX5.out; simp only [World.cell?, hb]; rfl)
         clear hp hq
         go_simp
         exact hK _ _ (RelF.refl _) rfl
       · refine opR_mk rfl fun a W2 hB hp hq K hK => ?_
         have e62 : a.tmps[62]?.getD undef = .func (.func 106) #[] #[] := hq 3 _ (by kernel_rfl) rfl
         have e64 : a.tmps[64]?.getD undef = .int .u32 r.dir2 := hq 5 _ (by kernel_rfl) rfl
         clear hp hq
         go_simp
         refine (t_ino _ _ Hq81.out _).mono ?_
         rintro e w2 ⟨rfl, rfl⟩
         exact hK _ _ (RelF.refl _) rfl
       · refine opR_mk rfl fun a W2 hB hp hq K hK => ?_
         have e65 : a.tmps[65]?.getD undef = .bool q81 := hq 6 _ (by kernel_rfl) rfl
         clear hp hq
         go_simp
         exact hK _ _ (RelF.refl _) rfl
       · refine opR_guard (j := 7) (d := 66) (c := q81) rfl rfl (by kernel_rfl) rfl rfl (fun v W h => h) (fun _ => RelF.refl _) (fun hne _ h => absurd h hne) fun hc a W2 hB hp hq K hK => ?_
         have e6 : a.tmps[6]?.getD undef = .func (.func 107) #[] #[] := hp 6 (by kernel_rfl)
         clear hp hq
         go_simp
         exact hK _ _ (RelF.refl _) (fun _ => rfl)
       · refine opR_guard (j := 7) (d := 66) (c := q81) rfl rfl (by kernel_rfl) rfl rfl (fun v W h => h) (fun _ => RelF.refl _) (fun hne _ h => absurd h hne) fun hc a W2 hB hp hq K hK => ?_
         have e1 : a.tmps[1]?.getD undef = .pointer (some ⟨w.heap.size, 0, none⟩) := hp 1 (by kernel_rfl)
         clear hp hq
         go_simp
         exact hK _ _ (RelF.refl _) (fun _ => rfl)
       · refine opR_guard (j := 7) (d := 66) (c := q81) rfl rfl (by kernel_rfl) rfl rfl (fun v W h => h) (fun _ => RelF.refl _) (fun hne _ h => absurd h hne) fun hc a W2 hB hp hq K hK => ?_
         have e68 : a.tmps[68]?.getD undef = .pointer (some ⟨w.heap.size, 7, none⟩) := hq 9 _ (by kernel_rfl) rfl hc
         have cc : W2.cell? ⟨w.heap.size, 7, none⟩ = some (.string r.name2) := by (have hb := (hB.old w.heap.size HLR.out.1 HLR.out.2).trans HX5.out; simp only [World.cell?, hb]; rfl)
         clear hp hq
         go_simp
         exact hK _ _ (RelF.refl _) (fun _ => rfl)
       · refine opR_guard (j := 7) (d := 66) (c := q81) rfl rfl (by kernel_rfl) rfl rfl (fun v W h => h) (fun _ => RelF.refl _) (fun hne _ h => absurd h hne) fun hc a W2 hB hp hq K hK => ?_
         have e67 : a.tmps[67]?.getD undef = .func (.func 107) #[] #[] := hq 8 _ (by kernel_rfl) rfl hc
         have e69 : a.tmps[69]?.getD undef = .string r.name2 := hq 10 _ (by kernel_rfl) rfl hc
         have hs := hB.size
         clear hp hq
         go_simp
         refine (t_nm _ _ Hq82.out _ h2).mono ?_
         rintro e w2 ⟨rfl, hb2⟩
         exact hK _ _ (RelF.of_below hb2 hs HLB.out) (fun _ => rfl)
       · refine opR_mk rfl fun a W2 hB hp hq K hK => ?_
         have e66 : a.tmps[66]?.getD undef = .bool q81 := hq 7 _ (by kernel_rfl) rfl
         by_cases hc : (q81) = true
         · have e70 : a.tmps[70]?.getD undef = .bool q82 := hq 11 _ (by kernel_rfl) rfl hc
           clear hp hq
           rw [hc] at e66
           go_simp
           exact hK _ _ (RelF.refl _) (by show _ = _; rw [hc]; simp)
         · have hc0 : (q81) = false := by simpa using hc
           clear hp hq
           rw [hc0] at e66
           go_simp
           exact hK _ _ (RelF.refl _) (by show _ = _; rw [hc0]; rfl)
       · refine opR_mk rfl fun a W2 hB hp hq K hK => ?_
         have e71 : a.tmps[71]?.getD undef = .bool (q81 && q82) := hq 12 _ (by kernel_rfl) rfl
         clear hp hq
         go_simp
         exact hK _ _ (RelF.refl _) rfl
       · refine opR_guard (j := 13) (d := 72) (c := q81 && q82) rfl rfl (by kernel_rfl) rfl rfl (fun v W h => h) (fun _ => RelF.refl _) (fun hne _ h => absurd h hne) fun hc a W2 hB hp hq K hK => ?_
         have e1 : a.tmps[1]?.getD undef = .pointer (some ⟨w.heap.size, 0, none⟩) := hp 1 (by kernel_rfl)
         clear hp hq
         go_simp
         exact hK _ _ (RelF.refl _) (fun _ => rfl)
       · refine opR_guard (j := 13) (d := 72) (c := q81 && q82) rfl rfl (by kernel_rfl) rfl rfl (fun v W h => h) (fun _ => RelF.refl _) (fun hne _ h => absurd h hne) fun hc a W2 hB hp hq K hK => ?_
         have e73 : a.tmps[73]?.getD undef = .pointer (some ⟨w.heap.size, 8, none⟩) := hq 14 _ (by kernel_rfl) rfl hc
         have cc : W2.cell? ⟨w.heap.size, 8, none⟩ = some (.int .u32 r.old) := by (have hb := (hB.old w.heap.size HLR.out.1 HLR.out.2).trans HX5.out; simp only [World.cell?, hb]; rfl)
         clear hp hq
         go_simp
         exact hK _ _ (RelF.refl _) (fun _ => rfl)
       · refine opR_guard (j := 13) (d := 72) (c := q81 && q82) rfl rfl (by kernel_rfl) rfl rfl (fun v W h => h) (fun _ => RelF.refl _) (fun hne _ h => absurd h hne) fun hc a W2 hB hp hq K hK => ?_
         have e74 : a.tmps[74]?.getD undef = .int .u32 r.old := hq 15 _ (by kernel_rfl) rfl hc
         clear hp hq
         go_simp
         first | (rw [Hq83.out]; exact hK _ _ (RelF.refl _) (fun _ => rfl)) | (have hh := hK (.bool (decide (r.old ≤ 256))) _ (RelF.refl _) (by rw [Hq83.out]; exact fun _ => rfl); simpa using hh)
       · refine opR_mk rfl fun a W2 hB hp hq K hK => ?_
         have e72 : a.tmps[72]?.getD undef = .bool (q81 && q82) := hq 13 _ (by kernel_rfl) rfl
         by_cases hc : (q81 && q82) = true
         · have e75 : a.tmps[75]?.getD undef = .bool q83 := hq 16 _ (by kernel_rfl) rfl hc
           clear hp hq
           rw [hc] at e72
           go_simp
           exact hK _ _ (RelF.refl _) (by show _ = _; rw [hc]; simp)
         · have hc0 : (q81 && q82) = false := by simpa using hc
           clear hp hq
           rw [hc0] at e72
           go_simp
           exact hK _ _ (RelF.refl _) (by show _ = _; rw [hc0]; rfl)
       · refine opR_mk rfl fun a W2 hB hp hq K hK => ?_
         have e1 : a.tmps[1]?.getD undef = .pointer (some ⟨w.heap.size, 0, none⟩) := hp 1 (by kernel_rfl)
         clear hp hq
         go_simp
         exact hK _ _ (RelF.refl _) rfl
       · refine opR_mk rfl fun a W2 hB hp hq K hK => ?_
         have e77 : a.tmps[77]?.getD undef = .pointer (some ⟨w.heap.size, 6, none⟩) := hq 18 _ (by kernel_rfl) rfl
         have cc : W2.cell? ⟨w.heap.size, 6, none⟩ = some (.int .u32 r.dir2) := by (have hb := (hB.old w.heap.size HLR.out.1 HLR.out.2).trans HX5.out; simp only [World.cell?, hb]; rfl)
         clear hp hq
         go_simp
         exact hK _ _ (RelF.refl _) rfl
       · refine opR_mk rfl fun a W2 hB hp hq K hK => ?_
         have e78 : a.tmps[78]?.getD undef = .int .u32 r.dir2 := hq 19 _ (by kernel_rfl) rfl
         clear hp hq
         go_simp
         first | (rw [Hq84.out]; exact hK _ _ (RelF.refl _) rfl) | (have hh := hK (.bool (r.dir2 == 0)) _ (RelF.refl _) (by rw [Hq84.out]; rfl); simpa using hh)
       · refine opR_mk rfl fun a W2 hB hp hq K hK => ?_
         have e79 : a.tmps[79]?.getD undef = .bool q84 := hq 20 _ (by kernel_rfl) rfl
         clear hp hq
         go_simp
         exact hK _ _ (RelF.refl _) rfl
       · refine opR_guard (j := 21) (d := 80) (c := q84) rfl rfl (by kernel_rfl) rfl rfl (fun v W h => h) (fun _ => RelF.refl _) (fun hne _ h => absurd h hne) fun hc a W2 hB hp hq K hK => ?_
         have e1 : a.tmps[1]?.getD undef = .pointer (some ⟨w.heap.size, 0, none⟩) := hp 1 (by kernel_rfl)
         clear hp hq
         go_simp
         exact hK _ _ (RelF.refl _) (fun _ => rfl)
       · refine opR_guard (j := 21) (d := 80) (c := q84) rfl rfl (by kernel_rfl) rfl rfl (fun v W h => h) (fun _ => RelF.refl _) (fun hne _ h => absurd h hne) fun hc a W2 hB hp hq K hK => ?_
         have e81 : a.tmps[81]?.getD undef = .pointer (some ⟨w.heap.size, 7, none⟩) := hq 22 _ (by kernel_rfl) rfl hc
         have cc : W2.cell? ⟨w.heap.size, 7, none⟩ = some (.string r.name2) := by (have hb := (hB.old w.heap.size HLR.out.1 HLR.out.2).trans HX5.out; simp only [World.cell?, hb]; rfl)
         clear hp hq
         go_simp
         exact hK _ _ (RelF.refl _) (fun _ => rfl)
       · refine opR_guard (j := 21) (d := 80) (c := q84) rfl rfl (by kernel_rfl) rfl rfl (fun v W h => h) (fun _ => RelF.refl _) (fun hne _ h => absurd h hne) fun hc a W2 hB hp hq K hK => ?_
         have e82 : a.tmps[82]?.getD undef = .string r.name2 := hq 23 _ (by kernel_rfl) rfl hc
         clear hp hq
         go_simp
         first | (rw [Hq85.out]; exact hK _ _ (RelF.refl _) (fun _ => rfl)) | (have hh := hK (.bool (r.name2.toList.isEmpty)) _ (RelF.refl _) (by rw [Hq85.out]; exact fun _ => rfl); simpa using hh)
       · refine opR_mk rfl fun a W2 hB hp hq K hK => ?_
         have e80 : a.tmps[80]?.getD undef = .bool q84 := hq 21 _ (by kernel_rfl) rfl
         by_cases hc : (q84) = true
         · have e83 : a.tmps[83]?.getD undef = .bool q85 := hq 24 _ (by kernel_rfl) rfl hc
           clear hp hq
           rw [hc] at e80
           go_simp
           exact hK _ _ (RelF.refl _) (by show _ = _; rw [hc]; simp)
         · have hc0 : (q84) = false := by simpa using hc
           clear hp hq
           rw [hc0] at e80
           go_simp
           exact hK _ _ (RelF.refl _) (by show _ = _; rw [hc0]; rfl)
       · refine opR_mk rfl fun a W2 hB hp hq K hK => ?_
         have e84 : a.tmps[84]?.getD undef = .bool (q84 && q85) := hq 25 _ (by kernel_rfl) rfl
         clear hp hq
         go_simp
         exact hK _ _ (RelF.refl _) rfl
       · refine opR_guard (j := 26) (d := 85) (c := q84 && q85) rfl rfl (by kernel_rfl) rfl rfl (fun v W h => h) (fun _ => RelF.refl _) (fun hne _ h => absurd h hne) fun hc a W2 hB hp hq K hK => ?_
         have e1 : a.tmps[1]?.getD undef = .pointer (some ⟨w.heap.size, 0, none⟩) := hp 1 (by kernel_rfl)
         clear hp hq
         go_simp
         exact hK _ _ (RelF.refl _) (fun _ => rfl)
       · refine opR_guard (j := 26) (d := 85) (c := q84 && q85) rfl rfl (by kernel_rfl) rfl rfl (fun v W h => h) (fun _ => RelF.refl _) (fun hne _ h => absurd h hne) fun hc a W2 hB hp hq K hK => ?_
         have e86 : a.tmps[86]?.getD undef = .pointer (some ⟨w.heap.size, 8, none⟩) := hq 27 _ (by kernel_rfl) rfl hc
         have cc : W2.cell? ⟨w.heap.size, 8, none⟩ = some (.int .u32 r.old) := by (have hb := (hB.old w.heap.size HLR.out.1 HLR.out.2).trans HX5.out; simp only [World.cell?, hb]; rfl)
         clear hp hq
         go_simp
         exact hK _ _ (RelF.refl _) (fun _ => rfl)
       · refine opR_guard (j := 26) (d := 85) (c := q84 && q85) rfl rfl (by kernel_rfl) rfl rfl (fun v W h => h) (fun _ => RelF.refl _) (fun hne _ h => absurd h hne) fun hc a W2 hB hp hq K hK => ?_
         have e87 : a.tmps[87]?.getD undef = .int .u32 r.old := hq 28 _ (by kernel_rfl) rfl hc
         clear hp hq
         go_simp
         first | (rw [Hq86.out]; exact hK _ _ (RelF.refl _) (fun _ => rfl)) | (have hh := hK (.bool (r.old == 0)) _ (RelF.refl _) (by rw [Hq86.out]; exact fun _ => rfl); simpa using hh)
       · refine opR_mk rfl fun a W2 hB hp hq K hK => ?_
         have e85 : a.tmps[85]?.getD undef = .bool (q84 && q85) := hq 26 _ (by kernel_rfl) rfl
         by_cases hc : (q84 && q85) = true
         · have e88 : a.tmps[88]?.getD undef = .bool q86 := hq 29 _ (by kernel_rfl) rfl hc
           clear hp hq
           rw [hc] at e85
           go_simp
           exact hK _ _ (RelF.refl _) (by show _ = _; rw [hc]; simp)
         · have hc0 : (q84 && q85) = false := by simpa using hc
           clear hp hq
           rw [hc0] at e85
           go_simp
           exact hK _ _ (RelF.refl _) (by show _ = _; rw [hc0]; rfl)
       · refine opR_mk rfl fun a W2 hB hp hq K hK => ?_
         have e59 : a.tmps[59]?.getD undef = .func (.func 109) #[] #[.pointer (some ⟨B4, 0, none⟩)] := hq 0 _ (by kernel_rfl) rfl
         have e61 : a.tmps[61]?.getD undef = .bool (kMove r.act) := hq 2 _ (by kernel_rfl) rfl
         have e76 : a.tmps[76]?.getD undef = .bool (q81 && q82 && q83) := hq 17 _ (by kernel_rfl) rfl
         have e89 : a.tmps[89]?.getD undef = .bool (q84 && q85 && q86) := hq 30 _ (by kernel_rfl) rfl
         have hat := hB.at_ H5.out
         have hK3 : ∀ W', W2.grownBy W' (some B4) → W'.heap[B4]? = some (.cells #[.bool n8] 4 (0, 0)) → K (a.put (some 90) (.tuple #[])) W' := fun W' g1 g2 => hK _ _ (RelF.set g1 g2 hB.size) g2
         clear hp hq hK
         rcases hat with hat | hat
         · go_simp
           refine (t_fits _ _ _ _ n8 B4 _ HN8.out hat).mono ?_
           rintro e w2 ⟨rfl, g1, g2⟩
           exact hK3 _ g2 g1
         · go_simp
           refine (t_fits _ _ _ _ n8 B4 _ (by rw [← HN8.out]; exact and_twice _ _) hat).mono ?_
           rintro e w2 ⟨rfl, g1, g2⟩
           exact hK3 _ g2 g1
     · intro vs W8 hB8 hv8 _
       have h48 : W8.heap[B4]? = some (.cells #[.bool n8] 4 (0, 0)) := hv8 31 _ rfl rfl
       have HS8 := Lib.hid (HS7.out.rel rfl h48 hB8)
       clear h48 hB8 hv8 H5 HX5 HK5 HLB HLR HLK HS7
       simp only [putAll, Act.put, List.setIfInBounds_toArray, List.set_cons_succ, List.set_cons_zero, Nat.zero_add, Nat.reduceAdd]
       obtain ⟨n9, hn9⟩ : ∃ b : Bool, (n8 && fitB (kSized r.act) (decide (r.size ≤ 2304)) (r.size == 0)) = b := ⟨_, rfl⟩
       have HN9 := Lib.hid hn9
       clear hn9
       go_upto_region 9 with fail
       go_cut [] (fun wx => Hid (StF r w B3 B4 wd f n9 wx))
       case first =>
        have c9 : W8.cell? ⟨w.heap.size, 9, none⟩ = some (.int .u32 r.size) := by (simp only [World.cell?, HS8.out.rc]; rfl)
        have k4 : W8.cell? ⟨B3, 4, none⟩ = some (.bool (kSized r.act)) := by (simp only [World.cell?, HS8.out.kd]; rfl)
        by_cases hle : r.size ≤ 2304
        · have HLE : Hid (decide (r.size ≤ 2304) = true) := by show _ = _; simpa using hle
          have hng : decide (2304 < r.size) = false := by simpa using hle
          cases h0k : (r.size == 0)
          all_goals
           have H0K := Lib.hid h0k
           go_wp2_with (go_at_call 109; (with_reducible refine (t_fits _ _ _ _ n9 B4 _ (by have hh := HN9.out; rw [HLE.out, H0K.out] at hh; simpa using hh) HS8.out.box).mono ?_); rintro e W9 ⟨rfl, g1, g2⟩; have HS9 := Lib.hid (HS8.out.set g1 g2); clear g1 g2)
           go_meet
           exact HS9
        · have HLE : Hid (decide (r.size ≤ 2304) = false) := by show _ = _; simpa using hle
          have hgt : 2304 < r.size := by omega
          cases h0k : (r.size == 0)
          all_goals
           have H0K := Lib.hid h0k
           go_wp2_with (go_at_call 109; (with_reducible refine (t_fits _ _ _ _ n9 B4 _ (by have hh := HN9.out; rw [HLE.out, H0K.out] at hh; simpa using hh) HS8.out.box).mono ?_); rintro e W9 ⟨rfl, g1, g2⟩; have HS9 := Lib.hid (HS8.out.set g1 g2); clear g1 g2)
           go_meet
           exact HS9
       case rest =>
       have HS9 := hcut
       clear hcut HS8
       obtain ⟨n10, hn10⟩ : ∃ b : Bool, (n9 && fitB (kData r.act) (decide (0 ≤ r.page) && decide (r.page < 36) && r.data.size == 64) (r.page == 0 && r.data.toList.isEmpty)) = b := ⟨_, rfl⟩
       have HN10 := Lib.hid hn10
       clear hn10
       go_upto_region 10 with fail
       go_cut [] (fun wx => Hid (StF r w B3 B4 wd f n10 wx))
       case first =>
        have c10 : wc.cell? ⟨w.heap.size, 10, none⟩ = some (.int .i64 r.page) := by (simp only [World.cell?, HS9.out.rc]; rfl)
        have c11 : wc.cell? ⟨w.heap.size, 11, none⟩ = some (.string r.data) := by (simp only [World.cell?, HS9.out.rc]; rfl)
        have k5 : wc.cell? ⟨B3, 5, none⟩ = some (.bool (kData r.act)) := by (simp only [World.cell?, HS9.out.kd]; rfl)
        rcases pg_cases r.page with ⟨p1, p2, p3, p4, p5⟩ | ⟨p1, p2, p3, p4, p5⟩ | ⟨p1, p2, p3, p4, p5⟩ | ⟨p1, p2, p3, p4, p5⟩
        all_goals
         have P1 := Lib.hid p1
         have P2 := Lib.hid p2
         have P3 := Lib.hid p3
         rcases dt_cases r.data with ⟨d1, d2, d3, d4⟩ | ⟨d1, d2, d3, d4⟩ | ⟨d1, d2, d3, d4⟩
         all_goals
          have D1 := Lib.hid d1
          have D3 := Lib.hid d3
          go_wp2_with (go_at_call 109; (with_reducible refine (t_fits _ _ _ _ n10 B4 _ (by have hh := HN10.out; rw [P1.out, P2.out, P3.out, D1.out, D3.out] at hh; simpa using hh) HS9.out.box).mono ?_); rintro e W10 ⟨rfl, g1, g2⟩; have HS10 := Lib.hid (HS9.out.set g1 g2); clear g1 g2)
          go_meet
          exact HS10
       case rest =>
       have HS10 := hcut
       clear hcut HS9
       have cB : wc.cell? ⟨B4, 0, none⟩ = some (.bool n10) := by (simp only [World.cell?, HS10.out.box]; rfl)
       have hfin : checkB r = n10 := checkB_chain r HIB.out HO5.out (by rw [Hq61.out, Hq62.out, Hq63.out, Hq64.out]; exact HNW.out) HN7.out (by rw [Hq81.out, Hq82.out, Hq83.out, Hq84.out, Hq85.out, Hq86.out]; exact HN8.out) HN9.out HN10.out
       have hbl := HS10.out.below
       have he : checkE r = (if n10 = true then 0 else 2) := by unfold checkE; rw [hfin]
       clear hfin
       cases n10
       · have HE : Hid (checkE r = 2) := he
         have HBL := Lib.hid hbl
         clear he hbl
         go_wp2
         go_ret
         exact ⟨by rw [HE.out]; rfl, HBL.out⟩
       · have HE : Hid (checkE r = 0) := he
         have HBL := Lib.hid hbl
         clear he hbl
         go_wp2
         go_ret
         exact ⟨by rw [HE.out]; rfl, HBL.out⟩
end Go.Proofs.YtogljgiefmfafaaGreat
