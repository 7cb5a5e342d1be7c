/- Parts of a record, walked. -/
import Derived.Test.YtogljgiefmfafaaGreatPb26
namespace Go.Proofs.YtogljgiefmfafaaGreat
section
open Go.RowKit Go.Maps
def partsL (r : R) : List Pt :=
 if checkB r = true then
  (if kEntry r.act = true then
   [⟨1, r.dir, r.name, true⟩] ++ (if (r.act == 4) = true then [⟨1, r.dir2, r.name2, true⟩] else []) ++ [⟨2, r.ino, ⟨#[]⟩, true⟩] ++ (if (r.old != 0) = true then [⟨2, r.old, ⟨#[]⟩, true⟩] else []) ++ (if (r.act == 4 && r.kind == 2) = true then [⟨3, 0, ⟨#[]⟩, true⟩] else []) ++ [⟨2, r.dir, ⟨#[]⟩, false⟩] ++ (if (r.act == 4) = true then [⟨2, r.dir2, ⟨#[]⟩, false⟩] else [])
  else [⟨2, r.ino, ⟨#[]⟩, true⟩])
 else []
structure StQ (w : World) (r : R) (Bo Bw : Nat) (p : Pt) (l : List Pt) (W : World) : Prop where
 rc : W.heap[w.heap.size]? = some (.cells (cellsR r) 50 (0, 0))
 own : W.heap[Bw]? = some (.cells #[.int .u8 p.kind, .int .u32 p.ino, .string p.name, .bool p.write] 125 (0, 0))
 out : ∃ v, W.heap[Bo]? = some (.cells #[v] 99 (0, 0)) ∧ W.ownsRow (Bw + 1) 125 4 v l.length (flatP l)
 below : Below w.heap.size w W
 lo : w.heap.size < Bo
 lw : Bo < Bw
 len : l.length ≤ 900
section
variable {w W W' : World} {r : R} {Bo Bw : Nat} {p : Pt} {l : List Pt}
theorem StQ.cr (h : StQ w r Bo Bw p l W) (i : Nat) (v : Value) (hv : (cellsR r)[i]? = some v) : W.cell? ⟨w.heap.size, i, none⟩ = some v := by simp only [World.cell?, h.rc]; exact hv
theorem StQ.cw (h : StQ w r Bo Bw p l W) (i : Nat) (v : Value) (hv : (#[.int .u8 p.kind, .int .u32 p.ino, .string p.name, .bool p.write] : Array Value)[i]? = some v) : W.cell? ⟨Bw, i, none⟩ = some v := by simp only [World.cell?, h.own]; exact hv
theorem StQ.out2 (h : StQ w r Bo Bw p l W) (n : Nat) (hn : l.length = n) : ∃ A c, W.heap[Bo]? = some (.cells #[.slice A n c] 99 (0, 0)) ∧ W.ownsRow (Bw + 1) 125 4 (.slice A n c) n (flatP l) := by
 subst hn
 obtain ⟨v, h1, h2⟩ := h.out
 obtain ⟨A, c, rfl⟩ := row_slice h2
 exact ⟨A, c, h1, h2⟩
theorem StQ.mono (h : StQ w r Bo Bw p l W) (hb : Below W.heap.size W W') : StQ w r Bo Bw p l W' := by
 obtain ⟨v, h1, h2⟩ := h.out
 have hg : W.grownBy W' none := ⟨hb.os, hb.tape, hb.output, hb.size, fun k hk _ => hb.block k hk⟩
 exact ⟨(hb.block _ (lt_heap h.rc)).trans h.rc, (hb.block _ (lt_heap h.own)).trans h.own, ⟨v, (hb.block _ (lt_heap h1)).trans h1, h2.kept hg (by cases hv : v.ownBlock with | none => exact .inl rfl | some x => exact .inr (by simp))⟩, h.below.trans (hb.mono h.below.size), h.lo, h.lw, h.len⟩
theorem StQ.put (h : StQ w r Bo Bw p l W) (x : Pt) (hl : l.length < 900) (h1 : ∃ v', W'.heap[Bo]? = some (.cells #[v'] 99 (0, 0)) ∧ W'.ownsRow (Bw + 1) 125 4 v' (l.length + 1) (flatP (l ++ [x]))) (h2 : RelO Bo (Bw + 1) W W') : StQ w r Bo Bw p (l ++ [x]) W' := by
 obtain ⟨v', h3, h4⟩ := h1
 have e1 := h.lo
 have e2 := h.lw
 refine ⟨(h2.old _ (by omega) (by omega)).trans h.rc, (h2.old _ (by omega) (by omega)).trans h.own, ⟨v', h3, by rw [List.length_append]; exact h4⟩, ?_, h.lo, h.lw, by rw [List.length_append]; simp; omega⟩
 exact ⟨h2.os.trans h.below.os, h2.tape.trans h.below.tape, h2.output.trans h.below.output, Nat.le_trans h.below.size h2.size, fun b hb => (h2.old b (by omega) (by omega)).trans (h.below.block b hb)⟩
theorem World.alloc_size' (W : World) (o : Obj) : (W.alloc o).heap.size = W.heap.size + 1 := by simp
theorem le_alloc {W : World} {B : Nat} {o : Obj} (h : B < W.heap.size) : B + 1 ≤ (W.alloc o).heap.size := by rw [World.alloc_size']; omega
theorem qp_write (h : StQ w r Bo Bw p l W) (hl : l.length < 900) (k i : Int) (n : ByteArray) (b : Bool) :
  Calls Tryz.prog 110 #[.slice (some ⟨W.heap.size, 0, none⟩) 1 1, .pointer (some ⟨Bo, 0, none⟩)] (W.alloc (.cells #[.int .u8 k, .int .u32 i, .string n, .bool b] 125)) fun e W' => e = .returned (.tuple #[]) ∧ StQ w r Bo Bw p (l ++ [⟨k, i, n, true⟩]) W' := by
 have h' := h.mono (below_a1' W (.cells #[.int .u8 k, .int .u32 i, .string n, .bool b] 125))
 obtain ⟨v, h1, h2⟩ := h'.out
 have hsz : (W.alloc (.cells #[.int .u8 k, .int .u32 i, .string n, .bool b] 125)).heap.size = W.heap.size + 1 := by simp
 have hw := lt_heap h.own
 refine (t_write ⟨k, i, n, b⟩ W.heap.size Bo (Bw + 1) v l _ (heap_alloc_new _ _) h1 (by have := h.lw; omega) (by rw [World.alloc_size']; omega) h2 (by omega)).mono ?_
 rintro e W' ⟨rfl, v', g1, g2, g3⟩
 exact ⟨rfl, h'.put _ hl ⟨v', g1, g2⟩ g3⟩
theorem qp_append {w1 : World} {v : Value} {A1 : Option Addr} {c1 : Nat} (h : StQ w r Bo Bw p l W) (hl : l.length < 900) (x : Pt) {A : Obj} (n k : Nat) (hn : l.length = n) (hk : n + 1 = k) (hv : W.heap[Bo]? = some (.cells #[v] 99 (0, 0))) (hr : W.ownsRow (Bw + 1) 125 4 v n (flatP l))
  (h1 : w1.ownsRow (Bw + 1) 125 4 (.slice A1 k c1) k (flatP (l ++ [x]))) (h2 : (W.alloc A).grownBy w1 v.ownBlock) :
  w1.cell? ⟨Bo, 0, none⟩ = some v ∧ w1.frozen? ⟨Bo, 0, none⟩ = false ∧ w1.cell? ⟨w.heap.size, 1, none⟩ = some (.int .u8 r.act) ∧ w1.cell? ⟨w.heap.size, 6, none⟩ = some (.int .u32 r.dir2) ∧ ((w1.setCell ⟨Bo, 0, none⟩ (.slice A1 k c1)).heap[Bo]? = some (.cells #[.slice A1 k c1] 99 (0, 0)) ∧ (w1.setCell ⟨Bo, 0, none⟩ (.slice A1 k c1)).ownsRow (Bw + 1) 125 4 (.slice A1 k c1) k (flatP (l ++ [x]))) ∧ StQ w r Bo Bw p (l ++ [x]) (w1.setCell ⟨Bo, 0, none⟩ (.slice A1 k c1)) := by
 subst hk
 subst hn
 have e2 := h.lw
 have lB : Bo < W.heap.size := lt_heap hv
 have lW := lt_heap h.own
 have hown : ∀ b, b < Bw + 1 → some b ≠ v.ownBlock := fun b hb e => by have := (hr.lt b e.symm).1; omega
 have old : ∀ b, b < Bw + 1 → w1.heap[b]? = W.heap[b]? := fun b hb => by
  rw [h2.block b (by simp; omega) (hown b hb)]
  exact heap_alloc_old _ _ (by omega)
 have hh : w1.heap[Bo]? = some (.cells #[v] 99 (0, 0)) := (old Bo (by omega)).trans hv
 have hsz : W.heap.size ≤ w1.heap.size := by have := h2.size; simp at this; omega
 have hrc : w1.heap[w.heap.size]? = some (.cells (cellsR r) 50 (0, 0)) := (old _ (by have := h.lo; omega)).trans h.rc
 have hg := pgrown_set w1 Bo 0 (.slice A1 (l.length + 1) c1)
 have k1 : (w1.setCell ⟨Bo, 0, none⟩ (.slice A1 (l.length + 1) c1)).heap[Bo]? = some (.cells #[.slice A1 (l.length + 1) c1] 99 (0, 0)) := by rw [pheap_set _ Bo 0 _ _ _ hh]; rfl
 have k2 := h1.kept hg (by
  cases hvo : (Value.slice A1 (l.length + 1) c1).ownBlock with
  | none => exact .inl rfl
  | some x => exact .inr (fun e => by injection e with e; have := (h1.lt x hvo).1; omega))
 refine ⟨by simp only [World.cell?, hh]; rfl, by simp [World.frozen?, hh], by simp only [World.cell?, hrc]; rfl, by simp only [World.cell?, hrc]; rfl, ⟨k1, k2⟩, ?_⟩
 exact h.put x hl ⟨_, k1, k2⟩ ⟨hg.os.trans h2.os, hg.tape.trans h2.tape, hg.output.trans h2.output, Nat.le_trans hsz hg.size, fun b h3 h4 => (hg.block b (by omega) (fun e => h4 (by injection e))).trans (old b h3)⟩
theorem StQ.done (h : StQ w r Bo Bw p l W) {A : Option Addr} {c : Nat} (n : Nat) (hn : l.length = n) (hb : W.heap[Bo]? = some (.cells #[.slice A n c] 99 (0, 0))) (hr : W.ownsRow (Bw + 1) 125 4 (.slice A n c) n (flatP l)) :
  (W.setCell ⟨Bo, 0, none⟩ (.slice A n c)).cell? ⟨Bo, 0, none⟩ = some (.slice A n c) ∧ (W.setCell ⟨Bo, 0, none⟩ (.slice A n c)).ownsRow w.heap.size 125 4 (.slice A n c) n (flatP l) ∧ Below w.heap.size w (W.setCell ⟨Bo, 0, none⟩ (.slice A n c)) := by
 subst hn
 have hg := pgrown_set W Bo 0 (.slice A l.length c)
 have e1 := h.lo
 have e2 := h.lw
 refine ⟨?_, ?_, below_grown h.below hg (by omega)⟩
 · have := pheap_set W Bo 0 (.slice A l.length c) _ _ hb
   simp only [World.cell?, this]
   rfl
 · have h3 := hr.kept hg (by
    cases hvo : (Value.slice A l.length c).ownBlock with
    | none => exact .inl rfl
    | some x => exact .inr (fun e => by injection e with e; have := (hr.lt x hvo).1; omega))
   rcases h3 with ⟨h4, h5⟩
   refine ⟨h4, ?_⟩
   rcases h5 with h5 | ⟨g, cap, cur, a1, a2, a3⟩
   · exact .inl h5
   · exact .inr ⟨g, cap, cur, a1, by omega, a3⟩
end
theorem results_box {fn : Func} {p : Tmp} (h : fn.results = #[.cell p 99]) (tmps : Array Value) (w : World) (g : Nat) (v : Value)
  (hp : tmps.getD p undef = .pointer (some ⟨g, 0, none⟩)) (hc : w.cell? ⟨g, 0, none⟩ = some v) : (results fn tmps).run Tryz.prog w = .ok v w := by
 have hp' : tmps[p]?.getD undef = .pointer (some ⟨g, 0, none⟩) := by simpa using hp
 simp [results, h, hp', asAddr, loadVar, Tryz.isAgg99, run_load, hc]
end

section
open Go.RowKit Go.Maps
theorem new_at (W : World) (o : Obj) (n : Nat) (h : W.heap.size = n) : (W.alloc o).heap[n]? = some o := by subst h; exact heap_alloc_new _ _
theorem box_cell {W : World} {B : Nat} {v : Value} {T : TypeId} (h : W.heap[B]? = some (.cells #[v] T (0, 0))) : W.cell? ⟨B, 0, none⟩ = some v := by simp only [World.cell?, h]; rfl
theorem box_froz {W : World} {B : Nat} {c : Array Value} {T : TypeId} (h : W.heap[B]? = some (.cells c T (0, 0))) : W.frozen? ⟨B, 0, none⟩ = false := by simp [World.frozen?, h]
theorem parts_start {w w0 : World} {r : R} (hb : Below ((w.alloc (.cells (cellsR r) 50)).alloc (.cells #[.slice none 0 0] 99)).heap.size ((w.alloc (.cells (cellsR r) 50)).alloc (.cells #[.slice none 0 0] 99)) w0) :
  w0.heap[w.heap.size]? = some (.cells (cellsR r) 50 (0, 0)) ∧ w0.heap[w.heap.size + 1]? = some (.cells #[.slice none 0 0] 99 (0, 0)) ∧ Below w.heap.size w w0 ∧ w0.cell? ⟨w.heap.size, 4, none⟩ = some (.int .u32 r.ino) ∧ w0.cell? ⟨w.heap.size + 1, 0, none⟩ = some (.slice none 0 0) ∧ w0.frozen? ⟨w.heap.size + 1, 0, none⟩ = false := by
 have e1 : w0.heap[w.heap.size]? = some (.cells (cellsR r) 50 (0, 0)) := by
  rw [hb.block _ (by rw [World.alloc_size', World.alloc_size']; omega), heap_alloc_old _ _ (by rw [World.alloc_size']; omega)]
  exact heap_alloc_new _ _
 have e2 : w0.heap[w.heap.size + 1]? = some (.cells #[.slice none 0 0] 99 (0, 0)) := by
  rw [hb.block _ (by rw [World.alloc_size', World.alloc_size']; omega)]
  have h := heap_alloc_new (w.alloc (.cells (cellsR r) 50)) (.cells #[.slice none 0 0] 99)
  rw [World.alloc_size'] at h
  exact h
 refine ⟨e1, e2, (((Below.refl _ _).alloc (Nat.le_refl _) _).alloc (by rw [World.alloc_size']; omega) _).trans (hb.mono (by rw [World.alloc_size', World.alloc_size']; omega)), by simp only [World.cell?, e1]; rfl, by simp only [World.cell?, e2]; rfl, by simp [World.frozen?, e2]⟩
set_option maxRecDepth 100000 in
set_option maxHeartbeats 16000000 in
theorem t_parts (r : R) (hr : r.Ok) (h1 : r.name.size ≤ maxLen) (h2 : r.name2.size ≤ maxLen) (w : World) : Calls Tryz.prog 55 #[r.val] w fun e w' => ∃ v, e = .returned v ∧ w'.ownsRow w.heap.size 125 4 v (partsL r).length (flatP (partsL r)) ∧ Below w.heap.size w w' := by
 have hchk := fun w => t_chk r hr h1 h2 w
 unfold R.val at hchk ⊢
 obtain ⟨ck, hck⟩ : ∃ b, checkB r = b := ⟨_, rfl⟩
 have HCK := zz hck
 have hce : checkE r = if ck = true then 0 else 2 := by unfold checkE; rw [hck]
 obtain ⟨LP, hLP⟩ : ∃ l, partsL r = l := ⟨_, rfl⟩
 rw [hLP]
 have HLP := zz hLP
 have hra := hr.act
 clear hck hLP
 cases ck
 · have HCE : Hid (checkE r = 2) := hce
   clear hce
   go_enter Tryz.func55, Tryz.ntmps55
   go_wp2_with (go_at_call 54; (with_reducible refine (hchk _).mono ?_); rw [HCE.out]; rintro e w0 ⟨rfl, hb⟩; obtain ⟨e1, e2, e3, c4, cb, fb⟩ := parts_start hb; have HB := zz (And.intro e1 (And.intro e2 e3)); clear hb e1 e2 e3)
   refine bodyPost_ret (results_box rfl _ _ (w.heap.size + 1) (.slice none 0 0) rfl (box_cell (pheap_set _ _ 0 _ _ _ HB.out.2.1))) rfl ?_
   have hL : partsL r = [] := by (unfold partsL; rw [HCK.out]; rfl)
   refine ⟨_, rfl, ?_, below_grown HB.out.2.2 (pgrown_set _ _ 0 _) (by omega)⟩
   rw [← HLP.out, hL]
   exact World.ownsRow_nil _ _ _ _
 · have HCE : Hid (checkE r = 0) := hce
   clear hce
   obtain ⟨wd, f, hkw, hf1⟩ := kindW_form r.act
   go_enter Tryz.func55, Tryz.ntmps55
   go_wp2_with (go_at_call 54; (with_reducible refine (hchk _).mono ?_); rw [HCE.out]; rintro e w0 ⟨rfl, hb⟩; obtain ⟨e1, e2, e3, c4, cb, fb⟩ := parts_start hb; have HB := zz (And.intro e1 (And.intro e2 e3)); clear hb e1 e2 e3)
   obtain ⟨Bo, hBo⟩ : ∃ B, w.heap.size + 1 = B := ⟨_, rfl⟩
   obtain ⟨Bw, hBw⟩ : ∃ B, w0.heap.size = B := ⟨_, rfl⟩
   have hq : StQ w r Bo Bw ⟨2, r.ino, ⟨#[]⟩, false⟩ [] (w0.alloc (.cells #[.int .u8 2, .int .u32 r.ino, .string ⟨#[]⟩, .bool false] 125)) := by
    obtain ⟨e1, e2, e3⟩ := HB.out
    refine ⟨(heap_alloc_old _ _ (lt_heap e1)).trans e1, by rw [← hBw]; exact heap_alloc_new _ _, ⟨_, by rw [← hBo]; exact (heap_alloc_old _ _ (lt_heap e2)).trans e2, World.ownsRow_nil _ _ _ _⟩, e3.alloc e3.size _, by omega, by have := lt_heap e2; omega, by simp⟩
   rw [hBo, hBw]
   generalize w0.alloc (.cells #[.int .u8 2, .int .u32 r.ino, .string ⟨#[]⟩, .bool false] 125) = W1 at hq ⊢
   have HQ := zz hq
   clear hq hBo hBw HB cb fb c4 hchk
   refine wp_region_rel (RelK W1.heap.size #[] (.bool true)) (phi [isKinds, isV (.pointer (some ⟨w.heap.size, 1, none⟩)), isV (.int .u8 r.act), isV (.agg #[.string wd, .bool (kEntry r.act), .bool (kKind r.act), .bool (kMove r.act), .bool (kSized r.act), .bool (kData r.act), f]), isV (.bool (kEntry r.act)), isV (.bool (!kEntry r.act))]) (by kernel_rfl) (by kernel_rfl) (by kernel_rfl) ((RelK.refl _).trans (RelK.of_below ⟨rfl, rfl, rfl, Nat.le_refl _, fun _ _ => rfl⟩ (Nat.le_refl _))) (fun _ _ _ a b => a.trans b) ?_ ?_ ?_
   · refine stays_phiR ?_
     simp only [List.forall_mem_cons]
     exact ⟨isKinds.stays, kv, kv, kv, kv, kv, fun _ h => absurd h (by simp)⟩
   · refine ⟨?_, ?_, ?_, ?_, ?_, ?_, trivial⟩
     · refine opR_mk rfl fun a W2 hB hp hq K hK => ?_
       have hs := hB.size
       clear hp hq hB
       go_simp
       refine (t_rkinds W2).mono ?_
       rintro e w' ⟨b, rfl, hm, hb, _⟩
       exact hK _ _ (RelK.of_below hb (by omega)) ⟨b, rfl, hm⟩
     · refine opR_mk rfl fun a W2 hB hp hq K hK => ?_
       have e1 : a.tmps[1]?.getD undef = .pointer (some ⟨w.heap.size, 0, none⟩) := hp 1 (by kernel_rfl)
       clear hp hq
       go_simp
       exact hK _ _ (RelK.refl _) rfl
     · refine opR_mk rfl fun a W2 hB hp hq K hK => ?_
       have e13 : a.tmps[13]?.getD undef = .pointer (some ⟨w.heap.size, 1, none⟩) := hq 1 _ (by kernel_rfl) rfl
       have cc : W2.cell? ⟨w.heap.size, 1, none⟩ = some (.int .u8 r.act) := by
        have hb := (hB.old w.heap.size (lt_heap HQ.out.rc)).trans HQ.out.rc
        simp only [World.cell?, hb]; rfl
       clear hp hq
       go_simp
       exact hK _ _ (RelK.refl _) rfl
     · refine opR_mk rfl fun a W2 hB hp hq K hK => ?_
       obtain ⟨b, e12, hm⟩ : isKinds (a.tmps[12]?.getD undef) W2 := hq 0 _ (by kernel_rfl) rfl
       have e14 : a.tmps[14]?.getD undef = .int .u8 r.act := hq 2 _ (by kernel_rfl) rfl
       have hlk := hm.look law8 Tryz.underlying119 (zeroK W2) (pkey8 hra)
       rw [show ((kindsM (.int .u8 r.act)).getD kind0) = .agg #[.string wd, .bool (kEntry r.act), .bool (kKind r.act), .bool (kMove r.act), .bool (kSized r.act), .bool (kData r.act), f] from hkw] at hlk
       clear hp hq
       go_simp
       exact hK _ _ (RelK.refl _) rfl
     · refine opR_mk rfl fun a W2 hB hp hq K hK => ?_
       have e15 : a.tmps[15]?.getD undef = .agg #[.string wd, .bool (kEntry r.act), .bool (kKind r.act), .bool (kMove r.act), .bool (kSized r.act), .bool (kData r.act), f] := hq 3 _ (by kernel_rfl) rfl
       clear hp hq
       go_simp
       exact hK _ _ (RelK.refl _) rfl
     · refine opR_mk rfl fun a W2 hB hp hq K hK => ?_
       have e16 : a.tmps[16]?.getD undef = .bool (kEntry r.act) := hq 4 _ (by kernel_rfl) rfl
       clear hp hq
       go_simp
       exact hK _ _ (RelK.refl _) rfl
   intro us W0 hB2 hv hst
   have HQ0 : Hid (StQ w r Bo Bw ⟨2, r.ino, ⟨#[]⟩, false⟩ [] W0) := HQ.out.mono ⟨hB2.os, hB2.tape, hB2.output, hB2.size, fun b hb => hB2.old b hb⟩
   have u5 : us 5 = .bool (!kEntry r.act) := hv 5 _ rfl rfl
   clear hv hst hB2 HQ hkw hf1
   simp only [putAll, Act.put, List.setIfInBounds_toArray, List.set_cons_succ, List.set_cons_zero, Nat.zero_add, Nat.reduceAdd, u5]
   have hbare := bare_of_check hr HCK.out

   have c1_0 := HQ0.out.cr 1 _ rfl
   have c2_0 := HQ0.out.cr 2 _ rfl
   have c3_0 := HQ0.out.cr 3 _ rfl
   have c5_0 := HQ0.out.cr 5 _ rfl
   have c6_0 := HQ0.out.cr 6 _ rfl
   have c7_0 := HQ0.out.cr 7 _ rfl
   have c8_0 := HQ0.out.cr 8 _ rfl
   have o0_0 := HQ0.out.cw 0 _ rfl
   have o1_0 := HQ0.out.cw 1 _ rfl
   have o2_0 := HQ0.out.cw 2 _ rfl
   have o3_0 := HQ0.out.cw 3 _ rfl
   obtain ⟨a0, d0, hb0, hr0⟩ := HQ0.out.out2 0 rfl
   have cb0 := box_cell hb0
   have fb0 := box_froz hb0
   have HR0 := zz (And.intro hb0 hr0)
   clear hb0 hr0
   cases hke : kEntry r.act
   · skip
     go_wp2_with (first
      | (go_at_call 110; (with_reducible refine (qp_write HQ0.out (by simp) _ _ _ _).mono ?_); rintro e W1 ⟨rfl, hq⟩; have HQ1 := zz hq; clear hq; have c1_1 := HQ1.out.cr 1 _ rfl; have c2_1 := HQ1.out.cr 2 _ rfl; have c3_1 := HQ1.out.cr 3 _ rfl; have c5_1 := HQ1.out.cr 5 _ rfl; have c6_1 := HQ1.out.cr 6 _ rfl; have c7_1 := HQ1.out.cr 7 _ rfl; have c8_1 := HQ1.out.cr 8 _ rfl; have o0_1 := HQ1.out.cw 0 _ rfl; have o1_1 := HQ1.out.cw 1 _ rfl; have o2_1 := HQ1.out.cw 2 _ rfl; have o3_1 := HQ1.out.cw 3 _ rfl; obtain ⟨a1, d1, hb1, hr1⟩ := HQ1.out.out2 1 rfl; have cb1 := box_cell hb1; have fb1 := box_froz hb1; have HR1 := zz (And.intro hb1 hr1); clear hb1 hr1))
     have hd := HQ1.out.done 1 rfl HR1.out.1 HR1.out.2
     refine bodyPost_ret (results_box rfl _ _ Bo _ rfl hd.1) rfl ?_
     refine ⟨_, rfl, ?_, hd.2.2⟩
     have hL : partsL r = (([] : List Pt) ++ [⟨2, r.ino, ⟨#[]⟩, true⟩]) := by (unfold partsL; simp [HCK.out, hke])
     rw [← HLP.out, hL]
     exact hd.2.1
   · cases h4 : (r.act == 4)
     · have hold : (r.old != 0) = false := by (have h0 : kMove r.act = false := by (unfold kMove; simpa using h4)); have := hbare.old h0; simp [this]
       go_wp2_with (first
        | (at_builtin; refine wpList_append_pt rfl (.tmp 67) (.tmp 71) rfl (Bw + 1) _ ((([] : List Pt) ++ [⟨1, r.dir, r.name, true⟩]) ++ [⟨2, r.ino, ⟨#[]⟩, true⟩]) 2 3 rfl rfl rfl (HR2.out.2.alloc _) _ ⟨2, r.dir, ⟨#[]⟩, false⟩ rfl (new_at _ _ _ (by simp)) (by simp) (le_alloc (lt_heap HQ2.out.own)) ?_; intro x3 y3 Y3 h2 h3; obtain ⟨cy3, fy3, gy3, iy3, hz, hq⟩ := qp_append HQ2.out (by simp) _ 2 3 rfl rfl HR2.out.1 HR2.out.2 h2 h3; clear h2 h3; generalize hW3 : World.setCell Y3 _ _ = W3 at hq hz; have HQ3 := zz hq; have HR3 := zz hz; have cb3 := box_cell hz.1; have fb3 := box_froz hz.1; clear hq hz; have c1_3 := HQ3.out.cr 1 _ rfl; have c2_3 := HQ3.out.cr 2 _ rfl; have c3_3 := HQ3.out.cr 3 _ rfl; have c5_3 := HQ3.out.cr 5 _ rfl; have c6_3 := HQ3.out.cr 6 _ rfl; have c7_3 := HQ3.out.cr 7 _ rfl; have c8_3 := HQ3.out.cr 8 _ rfl; have o0_3 := HQ3.out.cw 0 _ rfl; have o1_3 := HQ3.out.cw 1 _ rfl; have o2_3 := HQ3.out.cw 2 _ rfl; have o3_3 := HQ3.out.cw 3 _ rfl)
        | (go_at_call 110; (with_reducible refine (qp_write HQ1.out (by simp) _ _ _ _).mono ?_); rintro e W2 ⟨rfl, hq⟩; have HQ2 := zz hq; clear hq; have c1_2 := HQ2.out.cr 1 _ rfl; have c2_2 := HQ2.out.cr 2 _ rfl; have c3_2 := HQ2.out.cr 3 _ rfl; have c5_2 := HQ2.out.cr 5 _ rfl; have c6_2 := HQ2.out.cr 6 _ rfl; have c7_2 := HQ2.out.cr 7 _ rfl; have c8_2 := HQ2.out.cr 8 _ rfl; have o0_2 := HQ2.out.cw 0 _ rfl; have o1_2 := HQ2.out.cw 1 _ rfl; have o2_2 := HQ2.out.cw 2 _ rfl; have o3_2 := HQ2.out.cw 3 _ rfl; obtain ⟨a2, d2, hb2, hr2⟩ := HQ2.out.out2 2 rfl; have cb2 := box_cell hb2; have fb2 := box_froz hb2; have HR2 := zz (And.intro hb2 hr2); clear hb2 hr2)
        | (go_at_call 110; (with_reducible refine (qp_write HQ0.out (by simp) _ _ _ _).mono ?_); rintro e W1 ⟨rfl, hq⟩; have HQ1 := zz hq; clear hq; have c1_1 := HQ1.out.cr 1 _ rfl; have c2_1 := HQ1.out.cr 2 _ rfl; have c3_1 := HQ1.out.cr 3 _ rfl; have c5_1 := HQ1.out.cr 5 _ rfl; have c6_1 := HQ1.out.cr 6 _ rfl; have c7_1 := HQ1.out.cr 7 _ rfl; have c8_1 := HQ1.out.cr 8 _ rfl; have o0_1 := HQ1.out.cw 0 _ rfl; have o1_1 := HQ1.out.cw 1 _ rfl; have o2_1 := HQ1.out.cw 2 _ rfl; have o3_1 := HQ1.out.cw 3 _ rfl; obtain ⟨a1, d1, hb1, hr1⟩ := HQ1.out.out2 1 rfl; have cb1 := box_cell hb1; have fb1 := box_froz hb1; have HR1 := zz (And.intro hb1 hr1); clear hb1 hr1))
       have hd := HQ3.out.done 3 rfl HR3.out.1 HR3.out.2
       refine bodyPost_ret (results_box rfl _ _ Bo _ rfl hd.1) rfl ?_
       refine ⟨_, rfl, ?_, hd.2.2⟩
       have hL : partsL r = (((([] : List Pt) ++ [⟨1, r.dir, r.name, true⟩]) ++ [⟨2, r.ino, ⟨#[]⟩, true⟩]) ++ [⟨2, r.dir, ⟨#[]⟩, false⟩]) := by (unfold partsL; simp [HCK.out, hke, h4, hold])
       rw [← HLP.out, hL]
       exact hd.2.1
     · cases ho : (r.old != 0) <;> cases hk2 : (r.kind == 2)
       · skip
         go_wp2_with (first
          | (at_builtin; refine wpList_append_pt rfl (.tmp 76) (.tmp 80) rfl (Bw + 1) _ ((((([] : List Pt) ++ [⟨1, r.dir, r.name, true⟩]) ++ [⟨1, r.dir2, r.name2, true⟩]) ++ [⟨2, r.ino, ⟨#[]⟩, true⟩]) ++ [⟨2, r.dir, ⟨#[]⟩, false⟩]) 4 5 rfl rfl rfl (HR4.out.2.alloc _) _ ⟨2, r.dir2, ⟨#[]⟩, false⟩ rfl (new_at _ _ _ (by simp)) (by simp) (le_alloc (lt_heap HQ4.out.own)) ?_; intro x5 y5 Y5 h2 h3; obtain ⟨cy5, fy5, gy5, iy5, hz, hq⟩ := qp_append HQ4.out (by simp) _ 4 5 rfl rfl HR4.out.1 HR4.out.2 h2 h3; clear h2 h3; generalize hW5 : World.setCell Y5 _ _ = W5 at hq hz; have HQ5 := zz hq; have HR5 := zz hz; have cb5 := box_cell hz.1; have fb5 := box_froz hz.1; clear hq hz; have c1_5 := HQ5.out.cr 1 _ rfl; have c2_5 := HQ5.out.cr 2 _ rfl; have c3_5 := HQ5.out.cr 3 _ rfl; have c5_5 := HQ5.out.cr 5 _ rfl; have c6_5 := HQ5.out.cr 6 _ rfl; have c7_5 := HQ5.out.cr 7 _ rfl; have c8_5 := HQ5.out.cr 8 _ rfl; have o0_5 := HQ5.out.cw 0 _ rfl; have o1_5 := HQ5.out.cw 1 _ rfl; have o2_5 := HQ5.out.cw 2 _ rfl; have o3_5 := HQ5.out.cw 3 _ rfl)
          | (at_builtin; refine wpList_append_pt rfl (.tmp 67) (.tmp 71) rfl (Bw + 1) _ (((([] : List Pt) ++ [⟨1, r.dir, r.name, true⟩]) ++ [⟨1, r.dir2, r.name2, true⟩]) ++ [⟨2, r.ino, ⟨#[]⟩, true⟩]) 3 4 rfl rfl rfl (HR3.out.2.alloc _) _ ⟨2, r.dir, ⟨#[]⟩, false⟩ rfl (new_at _ _ _ (by simp)) (by simp) (le_alloc (lt_heap HQ3.out.own)) ?_; intro x4 y4 Y4 h2 h3; obtain ⟨cy4, fy4, gy4, iy4, hz, hq⟩ := qp_append HQ3.out (by simp) _ 3 4 rfl rfl HR3.out.1 HR3.out.2 h2 h3; clear h2 h3; generalize hW4 : World.setCell Y4 _ _ = W4 at hq hz; have HQ4 := zz hq; have HR4 := zz hz; have cb4 := box_cell hz.1; have fb4 := box_froz hz.1; clear hq hz; have c1_4 := HQ4.out.cr 1 _ rfl; have c2_4 := HQ4.out.cr 2 _ rfl; have c3_4 := HQ4.out.cr 3 _ rfl; have c5_4 := HQ4.out.cr 5 _ rfl; have c6_4 := HQ4.out.cr 6 _ rfl; have c7_4 := HQ4.out.cr 7 _ rfl; have c8_4 := HQ4.out.cr 8 _ rfl; have o0_4 := HQ4.out.cw 0 _ rfl; have o1_4 := HQ4.out.cw 1 _ rfl; have o2_4 := HQ4.out.cw 2 _ rfl; have o3_4 := HQ4.out.cw 3 _ rfl)
          | (go_at_call 110; (with_reducible refine (qp_write HQ2.out (by simp) _ _ _ _).mono ?_); rintro e W3 ⟨rfl, hq⟩; have HQ3 := zz hq; clear hq; have c1_3 := HQ3.out.cr 1 _ rfl; have c2_3 := HQ3.out.cr 2 _ rfl; have c3_3 := HQ3.out.cr 3 _ rfl; have c5_3 := HQ3.out.cr 5 _ rfl; have c6_3 := HQ3.out.cr 6 _ rfl; have c7_3 := HQ3.out.cr 7 _ rfl; have c8_3 := HQ3.out.cr 8 _ rfl; have o0_3 := HQ3.out.cw 0 _ rfl; have o1_3 := HQ3.out.cw 1 _ rfl; have o2_3 := HQ3.out.cw 2 _ rfl; have o3_3 := HQ3.out.cw 3 _ rfl; obtain ⟨a3, d3, hb3, hr3⟩ := HQ3.out.out2 3 rfl; have cb3 := box_cell hb3; have fb3 := box_froz hb3; have HR3 := zz (And.intro hb3 hr3); clear hb3 hr3)
          | (go_at_call 110; (with_reducible refine (qp_write HQ1.out (by simp) _ _ _ _).mono ?_); rintro e W2 ⟨rfl, hq⟩; have HQ2 := zz hq; clear hq; have c1_2 := HQ2.out.cr 1 _ rfl; have c2_2 := HQ2.out.cr 2 _ rfl; have c3_2 := HQ2.out.cr 3 _ rfl; have c5_2 := HQ2.out.cr 5 _ rfl; have c6_2 := HQ2.out.cr 6 _ rfl; have c7_2 := HQ2.out.cr 7 _ rfl; have c8_2 := HQ2.out.cr 8 _ rfl; have o0_2 := HQ2.out.cw 0 _ rfl; have o1_2 := HQ2.out.cw 1 _ rfl; have o2_2 := HQ2.out.cw 2 _ rfl; have o3_2 := HQ2.out.cw 3 _ rfl; obtain ⟨a2, d2, hb2, hr2⟩ := HQ2.out.out2 2 rfl; have cb2 := box_cell hb2; have fb2 := box_froz hb2; have HR2 := zz (And.intro hb2 hr2); clear hb2 hr2)
          | (go_at_call 110; (with_reducible refine (qp_write HQ0.out (by simp) _ _ _ _).mono ?_); rintro e W1 ⟨rfl, hq⟩; have HQ1 := zz hq; clear hq; have c1_1 := HQ1.out.cr 1 _ rfl; have c2_1 := HQ1.out.cr 2 _ rfl; have c3_1 := HQ1.out.cr 3 _ rfl; have c5_1 := HQ1.out.cr 5 _ rfl; have c6_1 := HQ1.out.cr 6 _ rfl; have c7_1 := HQ1.out.cr 7 _ rfl; have c8_1 := HQ1.out.cr 8 _ rfl; have o0_1 := HQ1.out.cw 0 _ rfl; have o1_1 := HQ1.out.cw 1 _ rfl; have o2_1 := HQ1.out.cw 2 _ rfl; have o3_1 := HQ1.out.cw 3 _ rfl; obtain ⟨a1, d1, hb1, hr1⟩ := HQ1.out.out2 1 rfl; have cb1 := box_cell hb1; have fb1 := box_froz hb1; have HR1 := zz (And.intro hb1 hr1); clear hb1 hr1))
         have hd := HQ5.out.done 5 rfl HR5.out.1 HR5.out.2
         refine bodyPost_ret (results_box rfl _ _ Bo _ rfl hd.1) rfl ?_
         refine ⟨_, rfl, ?_, hd.2.2⟩
         have hL : partsL r = (((((([] : List Pt) ++ [⟨1, r.dir, r.name, true⟩]) ++ [⟨1, r.dir2, r.name2, true⟩]) ++ [⟨2, r.ino, ⟨#[]⟩, true⟩]) ++ [⟨2, r.dir, ⟨#[]⟩, false⟩]) ++ [⟨2, r.dir2, ⟨#[]⟩, false⟩]) := by (unfold partsL; simp [HCK.out, hke, h4, ho, hk2])
         rw [← HLP.out, hL]
         exact hd.2.1
       · skip
         go_wp2_with (first
          | (at_builtin; refine wpList_append_pt rfl (.tmp 76) (.tmp 80) rfl (Bw + 1) _ (((((([] : List Pt) ++ [⟨1, r.dir, r.name, true⟩]) ++ [⟨1, r.dir2, r.name2, true⟩]) ++ [⟨2, r.ino, ⟨#[]⟩, true⟩]) ++ [⟨3, 0, ⟨#[]⟩, true⟩]) ++ [⟨2, r.dir, ⟨#[]⟩, false⟩]) 5 6 rfl rfl rfl (HR5.out.2.alloc _) _ ⟨2, r.dir2, ⟨#[]⟩, false⟩ rfl (new_at _ _ _ (by simp)) (by simp) (le_alloc (lt_heap HQ5.out.own)) ?_; intro x6 y6 Y6 h2 h3; obtain ⟨cy6, fy6, gy6, iy6, hz, hq⟩ := qp_append HQ5.out (by simp) _ 5 6 rfl rfl HR5.out.1 HR5.out.2 h2 h3; clear h2 h3; generalize hW6 : World.setCell Y6 _ _ = W6 at hq hz; have HQ6 := zz hq; have HR6 := zz hz; have cb6 := box_cell hz.1; have fb6 := box_froz hz.1; clear hq hz; have c1_6 := HQ6.out.cr 1 _ rfl; have c2_6 := HQ6.out.cr 2 _ rfl; have c3_6 := HQ6.out.cr 3 _ rfl; have c5_6 := HQ6.out.cr 5 _ rfl; have c6_6 := HQ6.out.cr 6 _ rfl; have c7_6 := HQ6.out.cr 7 _ rfl; have c8_6 := HQ6.out.cr 8 _ rfl; have o0_6 := HQ6.out.cw 0 _ rfl; have o1_6 := HQ6.out.cw 1 _ rfl; have o2_6 := HQ6.out.cw 2 _ rfl; have o3_6 := HQ6.out.cw 3 _ rfl)
          | (at_builtin; refine wpList_append_pt rfl (.tmp 67) (.tmp 71) rfl (Bw + 1) _ ((((([] : List Pt) ++ [⟨1, r.dir, r.name, true⟩]) ++ [⟨1, r.dir2, r.name2, true⟩]) ++ [⟨2, r.ino, ⟨#[]⟩, true⟩]) ++ [⟨3, 0, ⟨#[]⟩, true⟩]) 4 5 rfl rfl rfl (HR4.out.2.alloc _) _ ⟨2, r.dir, ⟨#[]⟩, false⟩ rfl (new_at _ _ _ (by simp)) (by simp) (le_alloc (lt_heap HQ4.out.own)) ?_; intro x5 y5 Y5 h2 h3; obtain ⟨cy5, fy5, gy5, iy5, hz, hq⟩ := qp_append HQ4.out (by simp) _ 4 5 rfl rfl HR4.out.1 HR4.out.2 h2 h3; clear h2 h3; generalize hW5 : World.setCell Y5 _ _ = W5 at hq hz; have HQ5 := zz hq; have HR5 := zz hz; have cb5 := box_cell hz.1; have fb5 := box_froz hz.1; clear hq hz; have c1_5 := HQ5.out.cr 1 _ rfl; have c2_5 := HQ5.out.cr 2 _ rfl; have c3_5 := HQ5.out.cr 3 _ rfl; have c5_5 := HQ5.out.cr 5 _ rfl; have c6_5 := HQ5.out.cr 6 _ rfl; have c7_5 := HQ5.out.cr 7 _ rfl; have c8_5 := HQ5.out.cr 8 _ rfl; have o0_5 := HQ5.out.cw 0 _ rfl; have o1_5 := HQ5.out.cw 1 _ rfl; have o2_5 := HQ5.out.cw 2 _ rfl; have o3_5 := HQ5.out.cw 3 _ rfl)
          | (go_at_call 110; (with_reducible refine (qp_write HQ3.out (by simp) _ _ _ _).mono ?_); rintro e W4 ⟨rfl, hq⟩; have HQ4 := zz hq; clear hq; have c1_4 := HQ4.out.cr 1 _ rfl; have c2_4 := HQ4.out.cr 2 _ rfl; have c3_4 := HQ4.out.cr 3 _ rfl; have c5_4 := HQ4.out.cr 5 _ rfl; have c6_4 := HQ4.out.cr 6 _ rfl; have c7_4 := HQ4.out.cr 7 _ rfl; have c8_4 := HQ4.out.cr 8 _ rfl; have o0_4 := HQ4.out.cw 0 _ rfl; have o1_4 := HQ4.out.cw 1 _ rfl; have o2_4 := HQ4.out.cw 2 _ rfl; have o3_4 := HQ4.out.cw 3 _ rfl; obtain ⟨a4, d4, hb4, hr4⟩ := HQ4.out.out2 4 rfl; have cb4 := box_cell hb4; have fb4 := box_froz hb4; have HR4 := zz (And.intro hb4 hr4); clear hb4 hr4)
          | (go_at_call 110; (with_reducible refine (qp_write HQ2.out (by simp) _ _ _ _).mono ?_); rintro e W3 ⟨rfl, hq⟩; have HQ3 := zz hq; clear hq; have c1_3 := HQ3.out.cr 1 _ rfl; have c2_3 := HQ3.out.cr 2 _ rfl; have c3_3 := HQ3.out.cr 3 _ rfl; have c5_3 := HQ3.out.cr 5 _ rfl; have c6_3 := HQ3.out.cr 6 _ rfl; have c7_3 := HQ3.out.cr 7 _ rfl; have c8_3 := HQ3.out.cr 8 _ rfl; have o0_3 := HQ3.out.cw 0 _ rfl; have o1_3 := HQ3.out.cw 1 _ rfl; have o2_3 := HQ3.out.cw 2 _ rfl; have o3_3 := HQ3.out.cw 3 _ rfl; obtain ⟨a3, d3, hb3, hr3⟩ := HQ3.out.out2 3 rfl; have cb3 := box_cell hb3; have fb3 := box_froz hb3; have HR3 := zz (And.intro hb3 hr3); clear hb3 hr3)
          | (go_at_call 110; (with_reducible refine (qp_write HQ1.out (by simp) _ _ _ _).mono ?_); rintro e W2 ⟨rfl, hq⟩; have HQ2 := zz hq; clear hq; have c1_2 := HQ2.out.cr 1 _ rfl; have c2_2 := HQ2.out.cr 2 _ rfl; have c3_2 := HQ2.out.cr 3 _ rfl; have c5_2 := HQ2.out.cr 5 _ rfl; have c6_2 := HQ2.out.cr 6 _ rfl; have c7_2 := HQ2.out.cr 7 _ rfl; have c8_2 := HQ2.out.cr 8 _ rfl; have o0_2 := HQ2.out.cw 0 _ rfl; have o1_2 := HQ2.out.cw 1 _ rfl; have o2_2 := HQ2.out.cw 2 _ rfl; have o3_2 := HQ2.out.cw 3 _ rfl; obtain ⟨a2, d2, hb2, hr2⟩ := HQ2.out.out2 2 rfl; have cb2 := box_cell hb2; have fb2 := box_froz hb2; have HR2 := zz (And.intro hb2 hr2); clear hb2 hr2)
          | (go_at_call 110; (with_reducible refine (qp_write HQ0.out (by simp) _ _ _ _).mono ?_); rintro e W1 ⟨rfl, hq⟩; have HQ1 := zz hq; clear hq; have c1_1 := HQ1.out.cr 1 _ rfl; have c2_1 := HQ1.out.cr 2 _ rfl; have c3_1 := HQ1.out.cr 3 _ rfl; have c5_1 := HQ1.out.cr 5 _ rfl; have c6_1 := HQ1.out.cr 6 _ rfl; have c7_1 := HQ1.out.cr 7 _ rfl; have c8_1 := HQ1.out.cr 8 _ rfl; have o0_1 := HQ1.out.cw 0 _ rfl; have o1_1 := HQ1.out.cw 1 _ rfl; have o2_1 := HQ1.out.cw 2 _ rfl; have o3_1 := HQ1.out.cw 3 _ rfl; obtain ⟨a1, d1, hb1, hr1⟩ := HQ1.out.out2 1 rfl; have cb1 := box_cell hb1; have fb1 := box_froz hb1; have HR1 := zz (And.intro hb1 hr1); clear hb1 hr1))
         have hd := HQ6.out.done 6 rfl HR6.out.1 HR6.out.2
         refine bodyPost_ret (results_box rfl _ _ Bo _ rfl hd.1) rfl ?_
         refine ⟨_, rfl, ?_, hd.2.2⟩
         have hL : partsL r = ((((((([] : List Pt) ++ [⟨1, r.dir, r.name, true⟩]) ++ [⟨1, r.dir2, r.name2, true⟩]) ++ [⟨2, r.ino, ⟨#[]⟩, true⟩]) ++ [⟨3, 0, ⟨#[]⟩, true⟩]) ++ [⟨2, r.dir, ⟨#[]⟩, false⟩]) ++ [⟨2, r.dir2, ⟨#[]⟩, false⟩]) := by (unfold partsL; simp [HCK.out, hke, h4, ho, hk2])
         rw [← HLP.out, hL]
         exact hd.2.1
       · skip
         go_wp2_with (first
          | (at_builtin; refine wpList_append_pt rfl (.tmp 76) (.tmp 80) rfl (Bw + 1) _ (((((([] : List Pt) ++ [⟨1, r.dir, r.name, true⟩]) ++ [⟨1, r.dir2, r.name2, true⟩]) ++ [⟨2, r.ino, ⟨#[]⟩, true⟩]) ++ [⟨2, r.old, ⟨#[]⟩, true⟩]) ++ [⟨2, r.dir, ⟨#[]⟩, false⟩]) 5 6 rfl rfl rfl (HR5.out.2.alloc _) _ ⟨2, r.dir2, ⟨#[]⟩, false⟩ rfl (new_at _ _ _ (by simp)) (by simp) (le_alloc (lt_heap HQ5.out.own)) ?_; intro x6 y6 Y6 h2 h3; obtain ⟨cy6, fy6, gy6, iy6, hz, hq⟩ := qp_append HQ5.out (by simp) _ 5 6 rfl rfl HR5.out.1 HR5.out.2 h2 h3; clear h2 h3; generalize hW6 : World.setCell Y6 _ _ = W6 at hq hz; have HQ6 := zz hq; have HR6 := zz hz; have cb6 := box_cell hz.1; have fb6 := box_froz hz.1; clear hq hz; have c1_6 := HQ6.out.cr 1 _ rfl; have c2_6 := HQ6.out.cr 2 _ rfl; have c3_6 := HQ6.out.cr 3 _ rfl; have c5_6 := HQ6.out.cr 5 _ rfl; have c6_6 := HQ6.out.cr 6 _ rfl; have c7_6 := HQ6.out.cr 7 _ rfl; have c8_6 := HQ6.out.cr 8 _ rfl; have o0_6 := HQ6.out.cw 0 _ rfl; have o1_6 := HQ6.out.cw 1 _ rfl; have o2_6 := HQ6.out.cw 2 _ rfl; have o3_6 := HQ6.out.cw 3 _ rfl)
          | (at_builtin; refine wpList_append_pt rfl (.tmp 67) (.tmp 71) rfl (Bw + 1) _ ((((([] : List Pt) ++ [⟨1, r.dir, r.name, true⟩]) ++ [⟨1, r.dir2, r.name2, true⟩]) ++ [⟨2, r.ino, ⟨#[]⟩, true⟩]) ++ [⟨2, r.old, ⟨#[]⟩, true⟩]) 4 5 rfl rfl rfl (HR4.out.2.alloc _) _ ⟨2, r.dir, ⟨#[]⟩, false⟩ rfl (new_at _ _ _ (by simp)) (by simp) (le_alloc (lt_heap HQ4.out.own)) ?_; intro x5 y5 Y5 h2 h3; obtain ⟨cy5, fy5, gy5, iy5, hz, hq⟩ := qp_append HQ4.out (by simp) _ 4 5 rfl rfl HR4.out.1 HR4.out.2 h2 h3; clear h2 h3; generalize hW5 : World.setCell Y5 _ _ = W5 at hq hz; have HQ5 := zz hq; have HR5 := zz hz; have cb5 := box_cell hz.1; have fb5 := box_froz hz.1; clear hq hz; have c1_5 := HQ5.out.cr 1 _ rfl; have c2_5 := HQ5.out.cr 2 _ rfl; have c3_5 := HQ5.out.cr 3 _ rfl; have c5_5 := HQ5.out.cr 5 _ rfl; have c6_5 := HQ5.out.cr 6 _ rfl; have c7_5 := HQ5.out.cr 7 _ rfl; have c8_5 := HQ5.out.cr 8 _ rfl; have o0_5 := HQ5.out.cw 0 _ rfl; have o1_5 := HQ5.out.cw 1 _ rfl; have o2_5 := HQ5.out.cw 2 _ rfl; have o3_5 := HQ5.out.cw 3 _ rfl)
          | (go_at_call 110; (with_reducible refine (qp_write HQ3.out (by simp) _ _ _ _).mono ?_); rintro e W4 ⟨rfl, hq⟩; have HQ4 := zz hq; clear hq; have c1_4 := HQ4.out.cr 1 _ rfl; have c2_4 := HQ4.out.cr 2 _ rfl; have c3_4 := HQ4.out.cr 3 _ rfl; have c5_4 := HQ4.out.cr 5 _ rfl; have c6_4 := HQ4.out.cr 6 _ rfl; have c7_4 := HQ4.out.cr 7 _ rfl; have c8_4 := HQ4.out.cr 8 _ rfl; have o0_4 := HQ4.out.cw 0 _ rfl; have o1_4 := HQ4.out.cw 1 _ rfl; have o2_4 := HQ4.out.cw 2 _ rfl; have o3_4 := HQ4.out.cw 3 _ rfl; obtain ⟨a4, d4, hb4, hr4⟩ := HQ4.out.out2 4 rfl; have cb4 := box_cell hb4; have fb4 := box_froz hb4; have HR4 := zz (And.intro hb4 hr4); clear hb4 hr4)
          | (go_at_call 110; (with_reducible refine (qp_write HQ2.out (by simp) _ _ _ _).mono ?_); rintro e W3 ⟨rfl, hq⟩; have HQ3 := zz hq; clear hq; have c1_3 := HQ3.out.cr 1 _ rfl; have c2_3 := HQ3.out.cr 2 _ rfl; have c3_3 := HQ3.out.cr 3 _ rfl; have c5_3 := HQ3.out.cr 5 _ rfl; have c6_3 := HQ3.out.cr 6 _ rfl; have c7_3 := HQ3.out.cr 7 _ rfl; have c8_3 := HQ3.out.cr 8 _ rfl; have o0_3 := HQ3.out.cw 0 _ rfl; have o1_3 := HQ3.out.cw 1 _ rfl; have o2_3 := HQ3.out.cw 2 _ rfl; have o3_3 := HQ3.out.cw 3 _ rfl; obtain ⟨a3, d3, hb3, hr3⟩ := HQ3.out.out2 3 rfl; have cb3 := box_cell hb3; have fb3 := box_froz hb3; have HR3 := zz (And.intro hb3 hr3); clear hb3 hr3)
          | (go_at_call 110; (with_reducible refine (qp_write HQ1.out (by simp) _ _ _ _).mono ?_); rintro e W2 ⟨rfl, hq⟩; have HQ2 := zz hq; clear hq; have c1_2 := HQ2.out.cr 1 _ rfl; have c2_2 := HQ2.out.cr 2 _ rfl; have c3_2 := HQ2.out.cr 3 _ rfl; have c5_2 := HQ2.out.cr 5 _ rfl; have c6_2 := HQ2.out.cr 6 _ rfl; have c7_2 := HQ2.out.cr 7 _ rfl; have c8_2 := HQ2.out.cr 8 _ rfl; have o0_2 := HQ2.out.cw 0 _ rfl; have o1_2 := HQ2.out.cw 1 _ rfl; have o2_2 := HQ2.out.cw 2 _ rfl; have o3_2 := HQ2.out.cw 3 _ rfl; obtain ⟨a2, d2, hb2, hr2⟩ := HQ2.out.out2 2 rfl; have cb2 := box_cell hb2; have fb2 := box_froz hb2; have HR2 := zz (And.intro hb2 hr2); clear hb2 hr2)
          | (go_at_call 110; (with_reducible refine (qp_write HQ0.out (by simp) _ _ _ _).mono ?_); rintro e W1 ⟨rfl, hq⟩; have HQ1 := zz hq; clear hq; have c1_1 := HQ1.out.cr 1 _ rfl; have c2_1 := HQ1.out.cr 2 _ rfl; have c3_1 := HQ1.out.cr 3 _ rfl; have c5_1 := HQ1.out.cr 5 _ rfl; have c6_1 := HQ1.out.cr 6 _ rfl; have c7_1 := HQ1.out.cr 7 _ rfl; have c8_1 := HQ1.out.cr 8 _ rfl; have o0_1 := HQ1.out.cw 0 _ rfl; have o1_1 := HQ1.out.cw 1 _ rfl; have o2_1 := HQ1.out.cw 2 _ rfl; have o3_1 := HQ1.out.cw 3 _ rfl; obtain ⟨a1, d1, hb1, hr1⟩ := HQ1.out.out2 1 rfl; have cb1 := box_cell hb1; have fb1 := box_froz hb1; have HR1 := zz (And.intro hb1 hr1); clear hb1 hr1))
         have hd := HQ6.out.done 6 rfl HR6.out.1 HR6.out.2
         refine bodyPost_ret (results_box rfl _ _ Bo _ rfl hd.1) rfl ?_
         refine ⟨_, rfl, ?_, hd.2.2⟩
         have hL : partsL r = ((((((([] : List Pt) ++ [⟨1, r.dir, r.name, true⟩]) ++ [⟨1, r.dir2, r.name2, true⟩]) ++ [⟨2, r.ino, ⟨#[]⟩, true⟩]) ++ [⟨2, r.old, ⟨#[]⟩, true⟩]) ++ [⟨2, r.dir, ⟨#[]⟩, false⟩]) ++ [⟨2, r.dir2, ⟨#[]⟩, false⟩]) := by (unfold partsL; simp [HCK.out, hke, h4, ho, hk2])
         rw [← HLP.out, hL]
         exact hd.2.1
       · skip
         go_wp2_with (first
          | (at_builtin; refine wpList_append_pt rfl (.tmp 76) (.tmp 80) rfl (Bw + 1) _ ((((((([] : List Pt) ++ [⟨1, r.dir, r.name, true⟩]) ++ [⟨1, r.dir2, r.name2, true⟩]) ++ [⟨2, r.ino, ⟨#[]⟩, true⟩]) ++ [⟨2, r.old, ⟨#[]⟩, true⟩]) ++ [⟨3, 0, ⟨#[]⟩, true⟩]) ++ [⟨2, r.dir, ⟨#[]⟩, false⟩]) 6 7 rfl rfl rfl (HR6.out.2.alloc _) _ ⟨2, r.dir2, ⟨#[]⟩, false⟩ rfl (new_at _ _ _ (by simp)) (by simp) (le_alloc (lt_heap HQ6.out.own)) ?_; intro x7 y7 Y7 h2 h3; obtain ⟨cy7, fy7, gy7, iy7, hz, hq⟩ := qp_append HQ6.out (by simp) _ 6 7 rfl rfl HR6.out.1 HR6.out.2 h2 h3; clear h2 h3; generalize hW7 : World.setCell Y7 _ _ = W7 at hq hz; have HQ7 := zz hq; have HR7 := zz hz; have cb7 := box_cell hz.1; have fb7 := box_froz hz.1; clear hq hz; have c1_7 := HQ7.out.cr 1 _ rfl; have c2_7 := HQ7.out.cr 2 _ rfl; have c3_7 := HQ7.out.cr 3 _ rfl; have c5_7 := HQ7.out.cr 5 _ rfl; have c6_7 := HQ7.out.cr 6 _ rfl; have c7_7 := HQ7.out.cr 7 _ rfl; have c8_7 := HQ7.out.cr 8 _ rfl; have o0_7 := HQ7.out.cw 0 _ rfl; have o1_7 := HQ7.out.cw 1 _ rfl; have o2_7 := HQ7.out.cw 2 _ rfl; have o3_7 := HQ7.out.cw 3 _ rfl)
          | (at_builtin; refine wpList_append_pt rfl (.tmp 67) (.tmp 71) rfl (Bw + 1) _ (((((([] : List Pt) ++ [⟨1, r.dir, r.name, true⟩]) ++ [⟨1, r.dir2, r.name2, true⟩]) ++ [⟨2, r.ino, ⟨#[]⟩, true⟩]) ++ [⟨2, r.old, ⟨#[]⟩, true⟩]) ++ [⟨3, 0, ⟨#[]⟩, true⟩]) 5 6 rfl rfl rfl (HR5.out.2.alloc _) _ ⟨2, r.dir, ⟨#[]⟩, false⟩ rfl (new_at _ _ _ (by simp)) (by simp) (le_alloc (lt_heap HQ5.out.own)) ?_; intro x6 y6 Y6 h2 h3; obtain ⟨cy6, fy6, gy6, iy6, hz, hq⟩ := qp_append HQ5.out (by simp) _ 5 6 rfl rfl HR5.out.1 HR5.out.2 h2 h3; clear h2 h3; generalize hW6 : World.setCell Y6 _ _ = W6 at hq hz; have HQ6 := zz hq; have HR6 := zz hz; have cb6 := box_cell hz.1; have fb6 := box_froz hz.1; clear hq hz; have c1_6 := HQ6.out.cr 1 _ rfl; have c2_6 := HQ6.out.cr 2 _ rfl; have c3_6 := HQ6.out.cr 3 _ rfl; have c5_6 := HQ6.out.cr 5 _ rfl; have c6_6 := HQ6.out.cr 6 _ rfl; have c7_6 := HQ6.out.cr 7 _ rfl; have c8_6 := HQ6.out.cr 8 _ rfl; have o0_6 := HQ6.out.cw 0 _ rfl; have o1_6 := HQ6.out.cw 1 _ rfl; have o2_6 := HQ6.out.cw 2 _ rfl; have o3_6 := HQ6.out.cw 3 _ rfl)
          | (go_at_call 110; (with_reducible refine (qp_write HQ4.out (by simp) _ _ _ _).mono ?_); rintro e W5 ⟨rfl, hq⟩; have HQ5 := zz hq; clear hq; have c1_5 := HQ5.out.cr 1 _ rfl; have c2_5 := HQ5.out.cr 2 _ rfl; have c3_5 := HQ5.out.cr 3 _ rfl; have c5_5 := HQ5.out.cr 5 _ rfl; have c6_5 := HQ5.out.cr 6 _ rfl; have c7_5 := HQ5.out.cr 7 _ rfl; have c8_5 := HQ5.out.cr 8 _ rfl; have o0_5 := HQ5.out.cw 0 _ rfl; have o1_5 := HQ5.out.cw 1 _ rfl; have o2_5 := HQ5.out.cw 2 _ rfl; have o3_5 := HQ5.out.cw 3 _ rfl; obtain ⟨a5, d5, hb5, hr5⟩ := HQ5.out.out2 5 rfl; have cb5 := box_cell hb5; have fb5 := box_froz hb5; have HR5 := zz (And.intro hb5 hr5); clear hb5 hr5)
          | (go_at_call 110; (with_reducible refine (qp_write HQ3.out (by simp) _ _ _ _).mono ?_); rintro e W4 ⟨rfl, hq⟩; have HQ4 := zz hq; clear hq; have c1_4 := HQ4.out.cr 1 _ rfl; have c2_4 := HQ4.out.cr 2 _ rfl; have c3_4 := HQ4.out.cr 3 _ rfl; have c5_4 := HQ4.out.cr 5 _ rfl; have c6_4 := HQ4.out.cr 6 _ rfl; have c7_4 := HQ4.out.cr 7 _ rfl; have c8_4 := HQ4.out.cr 8 _ rfl; have o0_4 := HQ4.out.cw 0 _ rfl; have o1_4 := HQ4.out.cw 1 _ rfl; have o2_4 := HQ4.out.cw 2 _ rfl; have o3_4 := HQ4.out.cw 3 _ rfl; obtain ⟨a4, d4, hb4, hr4⟩ := HQ4.out.out2 4 rfl; have cb4 := box_cell hb4; have fb4 := box_froz hb4; have HR4 := zz (And.intro hb4 hr4); clear hb4 hr4)
          | (go_at_call 110; (with_reducible refine (qp_write HQ2.out (by simp) _ _ _ _).mono ?_); rintro e W3 ⟨rfl, hq⟩; have HQ3 := zz hq; clear hq; have c1_3 := HQ3.out.cr 1 _ rfl; have c2_3 := HQ3.out.cr 2 _ rfl; have c3_3 := HQ3.out.cr 3 _ rfl; have c5_3 := HQ3.out.cr 5 _ rfl; have c6_3 := HQ3.out.cr 6 _ rfl; have c7_3 := HQ3.out.cr 7 _ rfl; have c8_3 := HQ3.out.cr 8 _ rfl; have o0_3 := HQ3.out.cw 0 _ rfl; have o1_3 := HQ3.out.cw 1 _ rfl; have o2_3 := HQ3.out.cw 2 _ rfl; have o3_3 := HQ3.out.cw 3 _ rfl; obtain ⟨a3, d3, hb3, hr3⟩ := HQ3.out.out2 3 rfl; have cb3 := box_cell hb3; have fb3 := box_froz hb3; have HR3 := zz (And.intro hb3 hr3); clear hb3 hr3)
          | (go_at_call 110; (with_reducible refine (qp_write HQ1.out (by simp) _ _ _ _).mono ?_); rintro e W2 ⟨rfl, hq⟩; have HQ2 := zz hq; clear hq; have c1_2 := HQ2.out.cr 1 _ rfl; have c2_2 := HQ2.out.cr 2 _ rfl; have c3_2 := HQ2.out.cr 3 _ rfl; have c5_2 := HQ2.out.cr 5 _ rfl; have c6_2 := HQ2.out.cr 6 _ rfl; have c7_2 := HQ2.out.cr 7 _ rfl; have c8_2 := HQ2.out.cr 8 _ rfl; have o0_2 := HQ2.out.cw 0 _ rfl; have o1_2 := HQ2.out.cw 1 _ rfl; have o2_2 := HQ2.out.cw 2 _ rfl; have o3_2 := HQ2.out.cw 3 _ rfl; obtain ⟨a2, d2, hb2, hr2⟩ := HQ2.out.out2 2 rfl; have cb2 := box_cell hb2; have fb2 := box_froz hb2; have HR2 := zz (And.intro hb2 hr2); clear hb2 hr2)
          | (go_at_call 110; (with_reducible refine (qp_write HQ0.out (by simp) _ _ _ _).mono ?_); rintro e W1 ⟨rfl, hq⟩; have HQ1 := zz hq; clear hq; have c1_1 := HQ1.out.cr 1 _ rfl; have c2_1 := HQ1.out.cr 2 _ rfl; have c3_1 := HQ1.out.cr 3 _ rfl; have c5_1 := HQ1.out.cr 5 _ rfl; have c6_1 := HQ1.out.cr 6 _ rfl; have c7_1 := HQ1.out.cr 7 _ rfl; have c8_1 := HQ1.out.cr 8 _ rfl; have o0_1 := HQ1.out.cw 0 _ rfl; have o1_1 := HQ1.out.cw 1 _ rfl; have o2_1 := HQ1.out.cw 2 _ rfl; have o3_1 := HQ1.out.cw 3 _ rfl; obtain ⟨a1, d1, hb1, hr1⟩ := HQ1.out.out2 1 rfl; have cb1 := box_cell hb1; have fb1 := box_froz hb1; have HR1 := zz (And.intro hb1 hr1); clear hb1 hr1))
         have hd := HQ7.out.done 7 rfl HR7.out.1 HR7.out.2
         refine bodyPost_ret (results_box rfl _ _ Bo _ rfl hd.1) rfl ?_
         refine ⟨_, rfl, ?_, hd.2.2⟩
         have hL : partsL r = (((((((([] : List Pt) ++ [⟨1, r.dir, r.name, true⟩]) ++ [⟨1, r.dir2, r.name2, true⟩]) ++ [⟨2, r.ino, ⟨#[]⟩, true⟩]) ++ [⟨2, r.old, ⟨#[]⟩, true⟩]) ++ [⟨3, 0, ⟨#[]⟩, true⟩]) ++ [⟨2, r.dir, ⟨#[]⟩, false⟩]) ++ [⟨2, r.dir2, ⟨#[]⟩, false⟩]) := by (unfold partsL; simp [HCK.out, hke, h4, ho, hk2])
         rw [← HLP.out, hL]
         exact hd.2.1
end
end Go.Proofs.YtogljgiefmfafaaGreat
