/- Check of a record. -/
import Derived.Test.YtogljgiefmfafaaGreatPb19
import Derived.Deep.MidRow
namespace Go.Proofs.YtogljgiefmfafaaGreat
section
open Go.RowKit Go.Maps
theorem t_ino (i : Int) (b : Bool) (hb : inoB i = b) (w : World) : Calls Tryz.prog 106 #[.int .u32 i] w fun e w' => e = .returned (.bool b) ∧ w = w' := by
 have HB := zz hb
 by_cases h1 : 1 ≤ i
 · by_cases h2 : i ≤ 256
   · have HR : Hid (true = b) := by show _ = _; rw [← HB.out]; unfold inoB; simp [h1, h2]
     clear hb
     go_enter Tryz.func106, Tryz.ntmps106
     go_wp2
     go_ret
     exact ⟨pret_bool HR.out, rfl⟩
   · have HR : Hid (false = b) := by show _ = _; rw [← HB.out]; unfold inoB; simp [h2]
     clear hb
     go_enter Tryz.func106, Tryz.ntmps106
     go_wp2
     go_ret
     exact ⟨pret_bool HR.out, rfl⟩
 · have HR : Hid (false = b) := by show _ = _; rw [← HB.out]; unfold inoB; simp [h1]
   clear hb
   go_enter Tryz.func106, Tryz.ntmps106
   go_wp2
   go_ret
   exact ⟨pret_bool HR.out, rfl⟩
theorem t_nm (s : ByteArray) (b : Bool) (hb : pnameB s = b) (w : World) (hs : s.size ≤ maxLen) : Calls Tryz.prog 107 #[.string s] w fun e w' => e = .returned (.bool b) ∧ Below w.heap.size w w' := by
 cases b
 · have HN := zz (t_pname s 2 (by unfold nameE; rw [hb]; rfl) w hs)
   clear hb hs
   go_enter Tryz.func107, Tryz.ntmps107
   go_wp2_with (go_at_call 108; (with_reducible refine HN.out.mono ?_); rintro e w1 ⟨rfl, h1⟩; have HB := zz h1; clear h1)
   go_ret
   exact ⟨rfl, HB.out⟩
 · have HN := zz (t_pname s 0 (by unfold nameE; rw [hb]; rfl) w hs)
   clear hb hs
   go_enter Tryz.func107, Tryz.ntmps107
   go_wp2_with (go_at_call 108; (with_reducible refine HN.out.mono ?_); rintro e w1 ⟨rfl, h1⟩; have HB := zz h1; clear h1)
   go_ret
   exact ⟨rfl, HB.out⟩
theorem t_fits (c a b o r : Bool) (B : Nat) (w : World) (hr : (o && fitB c a b) = r) (hc : w.heap[B]? = some (.cells #[.bool o] 4 (0, 0))) :
  Calls Tryz.prog 109 #[.bool c, .bool a, .bool b, .pointer (some ⟨B, 0, none⟩)] w fun e w' => e = .returned (.tuple #[]) ∧ w'.heap[B]? = some (.cells #[.bool r] 4 (0, 0)) ∧ w.grownBy w' (some B) := by
 subst hr
 have c0 : w.cell? ⟨B, 0, none⟩ = some (.bool o) := by simp only [World.cell?, hc]; rfl
 have f0 : w.frozen? ⟨B, 0, none⟩ = false := by simp [World.frozen?, hc]
 cases o <;> cases c <;> cases a <;> cases b <;>
  (go_enter Tryz.func109, Tryz.ntmps109
   go_wp2
   go_end0
   exact ⟨rfl, by rw [pheap_set _ _ 0 _ _ _ hc]; rfl, pgrown_set _ _ _ _⟩)
theorem heap_setCells_all (B : Nat) (T : TypeId) : ∀ (vs pre post : List Value) (w : World), w.heap[B]? = some (.cells (pre ++ post).toArray T (0, 0)) → post.length = vs.length → (w.setCells B pre.length vs).heap[B]? = some (.cells (pre ++ vs).toArray T (0, 0))
 | [], pre, post, w, h, hl => by
  have : post = [] := List.eq_nil_of_length_eq_zero hl
  subst this
  exact h
 | v :: r, pre, [], w, _, hl => by cases hl
 | v :: r, pre, p :: post, w, h, hl => by
  have h1 := pheap_set w B pre.length v _ _ h
  have e : (pre ++ p :: post).toArray.setIfInBounds pre.length v = ((pre ++ [v]) ++ post).toArray := by
   rw [List.setIfInBounds_toArray]
   congr 1
   rw [List.set_append_right _ _ (Nat.le_refl _)]
   simp
  rw [e] at h1
  have h2 := heap_setCells_all B T r (pre ++ [v]) post _ h1 (by simpa using hl)
  have e2 : (pre ++ [v]).length = pre.length + 1 := by simp
  rw [e2] at h2
  have e3 : pre ++ [v] ++ r = pre ++ v :: r := by simp
  rw [e3] at h2
  exact h2
theorem grown_setCellsB (B : Nat) : ∀ (vs : List Value) (o : Nat) (w : World), w.grownBy (w.setCells B o vs) (some B)
 | [], _, _w => ⟨rfl, rfl, rfl, Nat.le_refl _, fun _ _ _ => rfl⟩
 | v :: r, o, w => pgrown_trans (pgrown_set w B o v) (grown_setCellsB B r (o + 1) _)
theorem there_cells {w : World} {B : Nat} {cs : Array Value} {T : TypeId} (h : w.heap[B]? = some (.cells cs T (0, 0))) : w.there B 0 cs.size := fun j hj => by
 constructor
 · simp only [World.cell?, h, Nat.zero_add]
   rw [Array.getElem?_eq_getElem hj]
   rfl
 · simp [World.frozen?, h]
theorem set_block {w : World} {B : Nat} {cs kc : Array Value} {T : TypeId} (h : w.heap[B]? = some (.cells cs T (0, 0))) (hs : cs.size = kc.size) : (w.setCells B 0 kc.toList).heap[B]? = some (.cells kc T (0, 0)) ∧ w.grownBy (w.setCells B 0 kc.toList) (some B) ∧ w.there B 0 kc.size := by
 refine ⟨?_, grown_setCellsB B _ _ _, by rw [← hs]; exact there_cells h⟩
 have h1 := heap_setCells_all B T kc.toList [] cs.toList w (by simpa using h) (by simpa using hs)
 simpa using h1
def isKinds : Ph := fun v W => ∃ b, v = .map (some b) ∧ MapAt W Tryz.prog 5 b 7 kindsM
def isBlk (G : Nat) (c0 c1 : Array Value) (T : TypeId) : Ph := fun v W => ∃ B, v = .pointer (some ⟨B, 0, none⟩) ∧ G ≤ B ∧ (W.heap[B]? = some (.cells c0 T (0, 0)) ∨ W.heap[B]? = some (.cells c1 T (0, 0)))
structure RelK (G : Nat) (k : Array Value) (b : Value) (W W' : World) : Prop where
 os : W'.os = W.os
 tape : W'.tape = W.tape
 output : W'.output = W.output
 size : W.heap.size ≤ W'.heap.size
 old : ∀ B, B < G → W'.heap[B]? = W.heap[B]?
 map : ∀ (B : Nat) es c, W.heap[B]? = some (Obj.map es c) → W'.heap[B]? = W.heap[B]?
 kind : ∀ (B : Nat) cs, W.heap[B]? = some (Obj.cells cs 118 (0, 0)) → W'.heap[B]? = some (.cells cs 118 (0, 0)) ∨ W'.heap[B]? = some (.cells k 118 (0, 0))
 bool : ∀ (B : Nat) cs, W.heap[B]? = some (Obj.cells cs 4 (0, 0)) → W'.heap[B]? = some (.cells cs 4 (0, 0)) ∨ W'.heap[B]? = some (.cells #[b] 4 (0, 0))
section
variable {G : Nat} {k : Array Value} {b : Value} {W W' W'' : World}
theorem RelK.of_below (h : Below W.heap.size W W') (hG : G ≤ W.heap.size) : RelK G k b W W' :=
 have lt : ∀ (B : Nat) (o : Obj), W.heap[B]? = some o → B < W.heap.size := fun _B _o h => (Array.getElem?_eq_some_iff.1 h).1
 ⟨h.os, h.tape, h.output, h.size, fun B hB => h.block B (Nat.lt_of_lt_of_le hB hG), fun B _es _c hc => h.block B (lt B _ hc), fun B _cs hc => .inl ((h.block B (lt B _ hc)).trans hc), fun B _cs hc => .inl ((h.block B (lt B _ hc)).trans hc)⟩
theorem RelK.refl (W : World) : RelK G k b W W := ⟨rfl, rfl, rfl, Nat.le_refl _, fun _ _ => rfl, fun _ _ _ _ => rfl, fun _ _ h => .inl h, fun _ _ h => .inl h⟩
theorem RelK.trans (h : RelK G k b W W') (g : RelK G k b W' W'') : RelK G k b W W'' := by
 refine ⟨g.os.trans h.os, g.tape.trans h.tape, g.output.trans h.output, Nat.le_trans h.size g.size, fun B hB => (g.old B hB).trans (h.old B hB), fun B es c hc => ?_, fun B cs hc => ?_, fun B cs hc => ?_⟩
 · have h1 := h.map B es c hc
   exact (g.map B es c (h1.trans hc)).trans h1
 · rcases h.kind B cs hc with e | e
   · exact g.kind B cs e
   · exact .inr ((g.kind B k e).elim id id)
 · rcases h.bool B cs hc with e | e
   · exact g.bool B cs e
   · exact .inr ((g.bool B _ e).elim id id)
theorem RelK.setK {B : Nat} {cs : Array Value} (hc : W.heap[B]? = some (.cells cs 118 (0, 0))) (hB : G ≤ B) (hg : W.grownBy W' (some B)) (h : W'.heap[B]? = some (.cells k 118 (0, 0))) : RelK G k b W W' := by
 have lt : ∀ (B : Nat) (o : Obj), W.heap[B]? = some o → B < W.heap.size := fun B o h => (Array.getElem?_eq_some_iff.1 h).1
 have hBl := lt B _ hc
 refine ⟨hg.os, hg.tape, hg.output, hg.size, fun C hC => hg.block C (by omega) (fun e => by injection e with e; omega), fun C es c hm => ?_, fun C cs' hm => ?_, fun C cs' hm => ?_⟩
 · exact hg.block C (lt C _ hm) (fun e => by injection e with e; rw [e, hc] at hm; cases hm)
 · by_cases e : C = B
   · rw [e]; exact .inr h
   · exact .inl ((hg.block C (lt C _ hm) (fun e' => e (by injection e'))).trans hm)
 · exact .inl ((hg.block C (lt C _ hm) (fun e => by injection e with e; rw [e, hc] at hm; injection hm with hm; injection hm with _ hm; cases hm)).trans hm)
theorem RelK.setB {B : Nat} {cs : Array Value} (hc : W.heap[B]? = some (.cells cs 4 (0, 0))) (hB : G ≤ B) (hg : W.grownBy W' (some B)) (h : W'.heap[B]? = some (.cells #[b] 4 (0, 0))) : RelK G k b W W' := by
 have lt : ∀ (B : Nat) (o : Obj), W.heap[B]? = some o → B < W.heap.size := fun B o h => (Array.getElem?_eq_some_iff.1 h).1
 have hBl := lt B _ hc
 refine ⟨hg.os, hg.tape, hg.output, hg.size, fun C hC => hg.block C (by omega) (fun e => by injection e with e; omega), fun C es c hm => ?_, fun C cs' hm => ?_, fun C cs' hm => ?_⟩
 · exact hg.block C (lt C _ hm) (fun e => by injection e with e; rw [e, hc] at hm; cases hm)
 · exact .inl ((hg.block C (lt C _ hm) (fun e => by injection e with e; rw [e, hc] at hm; injection hm with hm; injection hm with _ hm; cases hm)).trans hm)
 · by_cases e : C = B
   · rw [e]; exact .inr h
   · exact .inl ((hg.block C (lt C _ hm) (fun e' => e (by injection e'))).trans hm)
end
theorem stays_phiR {l : List Ph} {Rel : World → World → Prop} (h : ∀ p ∈ l, ∀ v W W', p v W → Rel W W' → p v W') (i : Nat) (v : Value) (W W' : World) (hp : phi l i v W) (hb : Rel W W') : phi l i v W' := by
 unfold phi at *
 rw [List.getD_eq_getElem?_getD] at *
 cases hi : l[i]? with
 | none => trivial
 | some p => rw [hi] at hp; exact h p (List.mem_of_getElem? hi) v W W' hp hb
theorem isKinds.stays {G : Nat} {k : Array Value} {b : Value} : ∀ v W W', isKinds v W → RelK G k b W W' → isKinds v W' := fun _ _ _ ⟨B, h1, h2⟩ hr => by
 obtain ⟨es, c, hm⟩ := h2.isMap
 exact ⟨B, h1, h2.same (hr.map B es c hm)⟩
theorem isBlk.staysK {G : Nat} {k c0 : Array Value} {b : Value} : ∀ v W W', isBlk G c0 k 118 v W → RelK G k b W W' → isBlk G c0 k 118 v W' := fun _ _ _ ⟨B, h1, h2, h3⟩ hr => by
 refine ⟨B, h1, h2, ?_⟩
 rcases h3 with h | h
 · exact hr.kind B _ h
 · exact .inr ((hr.kind B _ h).elim id id)
theorem isBlk.staysB {G : Nat} {k c0 : Array Value} {b : Value} : ∀ v W W', isBlk G c0 #[b] 4 v W → RelK G k b W W' → isBlk G c0 #[b] 4 v W' := fun _ _ _ ⟨B, h1, h2, h3⟩ hr => by
 refine ⟨B, h1, h2, ?_⟩
 rcases h3 with h | h
 · exact hr.bool B _ h
 · exact .inr ((hr.bool B _ h).elim id id)
def kindW (a : Int) : Value := (kindO a).getD kind0
theorem seven_one (wd : ByteArray) (a b c d e : Bool) (f : Value) (hf : f.oneCell' = true) : (#[.string wd, .bool a, .bool b, .bool c, .bool d, .bool e, f] : Array Value).all (·.oneCell') = true := by
 rw [← Array.all_toList]
 simp only [List.all_cons, List.all_nil, Bool.and_true, hf]
 rfl
theorem kindW_form (a : Int) : ∃ wd f, kindW a = .agg #[.string wd, .bool (kEntry a), .bool (kKind a), .bool (kMove a), .bool (kSized a), .bool (kData a), f] ∧ (#[.string wd, .bool (kEntry a), .bool (kKind a), .bool (kMove a), .bool (kSized a), .bool (kData a), f] : Array Value).all (·.oneCell') = true := by
 unfold kindW kindO
 by_cases h7 : a = 7
 · subst h7; exact ⟨_, _, rfl, seven_one _ _ _ _ _ _ _ rfl⟩
 by_cases h6 : a = 6
 · subst h6; exact ⟨_, _, rfl, seven_one _ _ _ _ _ _ _ rfl⟩
 by_cases h5 : a = 5
 · subst h5; exact ⟨_, _, rfl, seven_one _ _ _ _ _ _ _ rfl⟩
 by_cases h4 : a = 4
 · subst h4; exact ⟨_, _, rfl, seven_one _ _ _ _ _ _ _ rfl⟩
 by_cases h3 : a = 3
 · subst h3; exact ⟨_, _, rfl, seven_one _ _ _ _ _ _ _ rfl⟩
 by_cases h2 : a = 2
 · subst h2; exact ⟨_, _, rfl, seven_one _ _ _ _ _ _ _ rfl⟩
 by_cases h1 : a = 1
 · subst h1; exact ⟨_, _, rfl, seven_one _ _ _ _ _ _ _ rfl⟩
 rw [if_neg h7, if_neg h6, if_neg h5, if_neg h4, if_neg h3, if_neg h2, if_neg h1]
 have e1 : kEntry a = false := by simp [kEntry]; omega
 have e2 : kKind a = false := by simp [kKind]; omega
 have e3 : kMove a = false := by simp [kMove]; omega
 have e4 : kSized a = false := by simp [kSized]; omega
 have e5 : kData a = false := by simp [kData]; omega
 rw [e1, e2, e3, e4, e5]
 exact ⟨_, _, rfl, seven_one _ _ _ _ _ _ _ rfl⟩
theorem zeroK (w : World) : (zeroValue 118).run Tryz.prog w = .ok kind0 w := by kernel_rfl
theorem infoK : (Tryz.prog.info? 118).map (·.size) = some 7 := by kernel_rfl
theorem kindO_isSome (a : Int) : (kindO a).isSome = decide (1 ≤ a ∧ a ≤ 7) := by
 unfold kindO
 by_cases h7 : a = 7
 · simp [h7]
 by_cases h6 : a = 6
 · simp [h6]
 by_cases h5 : a = 5
 · simp [h5]
 by_cases h4 : a = 4
 · simp [h4]
 by_cases h3 : a = 3
 · simp [h3]
 by_cases h2 : a = 2
 · simp [h2]
 by_cases h1 : a = 1
 · simp [h1]
 rw [if_neg h7, if_neg h6, if_neg h5, if_neg h4, if_neg h3, if_neg h2, if_neg h1]
 symm
 simp
 omega
end
end Go.Proofs.YtogljgiefmfafaaGreat
