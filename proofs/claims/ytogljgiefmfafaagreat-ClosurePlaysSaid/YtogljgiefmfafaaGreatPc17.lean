/- closure's want: a place counted, and laid into the heap the first time. -/
import Derived.Test.YtogljgiefmfafaaGreatPc03
import Derived.Test.YtogljgiefmfafaaGreatPc16
import Derived.Test.YtogljgiefmfafaaGreatProg
import Derived.Shelf.Lays
import Derived.WalkKit
import Derived.Shelf.Sort.Plain
import Derived.Shelf.Slices.In.SortNone
import Derived.Sort.OwnSortedInts
namespace Go.Proofs.YtogljgiefmfafaaGreat
section
open Go.RowKit Go.Maps
def cntI (l : List Int) : Lit → Option Value
 | .int .i64 v => if l.count v = 0 then none else some (.int .i64 ((l.count v : Nat) : Int))
 | _ => none
theorem cntI_get (l : List Int) (v : Int) : (cntI l (.int .i64 v)).getD (.int .i64 0) = .int .i64 ((l.count v : Nat) : Int) := by
 show (if l.count v = 0 then none else some _ : Option Value).getD _ = _
 split
 · rename_i h; rw [h]; rfl
 · rfl
theorem cntI_snoc (l : List Int) (v : Int) : ∀ kl, WideAt.IsKeyLit kl → updM (cntI l) (.int .i64 v) (.int .i64 (((l.count v : Nat) : Int) + 1)) kl = cntI (l ++ [v]) kl := fun kl _ => by
 cases kl with
 | int q a =>
  cases q <;> try (unfold updM; simp [cntI, Lit.sameKey]; done)
  show updM _ _ _ _ = if (l ++ [v]).count a = 0 then none else some _
  unfold updM
  rw [List.count_append]
  by_cases ha : a = v
  · subst ha
    simp [Lit.sameKey]
  · have hz : List.count a [v] = 0 := by rw [List.count_eq_zero]; simpa using ha
    rw [hz]
    simp [Lit.sameKey, ha, cntI]
 | _ => unfold updM; simp [cntI, Lit.sameKey]
theorem zeroI (w : World) : (zeroValue 3).run Tryz.prog w = .ok (.int .i64 0) w := by kernel_rfl
def I64 (k : Int) : Prop := -9223372036854775808 ≤ k ∧ k ≤ 9223372036854775807
theorem cntI_look {W : World} {M N : Nat} {l : List Int} (h : MapAt W Tryz.prog 3 M N (cntI l)) {k : Int} (hk : I64 k) :
  (Instr.lookup 142 (.map (some M)) (.int .i64 k) false).run Tryz.prog W = .ok (.int .i64 ((l.count k : Nat) : Int)) W := by
 have := h.look law64 Tryz.underlying142 (zeroI W) (pkey64 hk)
 rw [cntI_get] at this
 exact this
theorem cntI_turn {W : World} {M N : Nat} {l : List Int} (h : MapAt W Tryz.prog 3 M N (cntI l)) {k : Int} (hk : I64 k) (hN : N < 1000000000) :
  ∃ W', (Instr.mapUpdate 142 (.map (some M)) (.int .i64 k) (.int .i64 (((l.count k : Nat) : Int) + 1))).run Tryz.prog W = .ok () W' ∧ MapAt W' Tryz.prog 3 M (N + 1) (cntI (l ++ [k])) ∧ W.mapTurned W' M := by
 obtain ⟨W', h1, h2, h3⟩ := h.update law64 Tryz.underlying142 (by unfold maxLen; omega) (val := .int .i64 (((l.count k : Nat) : Int) + 1)) (pkey64 hk)
 exact ⟨W', h1, h2.congr (cntI_snoc l k), h3⟩
def Kg (G : Nat) (g : Option Nat) (b : Nat) : Prop := b < G ∨ g = some b
structure InAt (w W : World) (Bh Bp M Bw G : Nat) (g : Option Nat) (N : Nat) (l : List Int) (q : List Nat) : Prop where
 map : MapAt W Tryz.prog 3 M N (cntI l)
 boxH : W.heap[Bh]? = some (.cells #[.map (some M)] 142 (0, 0))
 boxP : W.heap[Bp]? = some (.cells #[.pointer (some ⟨Bw, 0, none⟩)] 198 (0, 0))
 want : WantAt W (Kg G g) Bw q
 below : Below w.heap.size w W
 ltM : M < G
 ltH : Bh < G
 ltP : Bp < G
 ltW : Bw < G
 ne1 : Bh ≠ M
 ne2 : Bp ≠ M
 ne3 : Bw ≠ M
 ne4 : Bh ≠ Bw
 ne5 : Bp ≠ Bw
 geM : w.heap.size ≤ M
 geW : w.heap.size ≤ Bw
 len : l.length ≤ N
 base : ∀ b, Kg G g b → b < W.heap.size
 ge : ∀ b, g = some b → G ≤ b
section
variable {w W W' : World} {Bh Bp M Bw G N N' : Nat} {g : Option Nat} {l l' : List Int} {q q' : List Nat}
theorem InAt.turned (h : InAt w W Bh Bp M Bw G g N l q) (hM : MapAt W' Tryz.prog 3 M N' (cntI l')) (ht : W.mapTurned W' M) (hl : l'.length ≤ N') : InAt w W' Bh Bp M Bw G g N' l' q := by
 have hg := ht.grown
 have hb : ∀ b, b < W.heap.size → b ≠ M → W'.heap[b]? = W.heap[b]? := fun b h1 h2 => hg.block b h1 (fun e => h2 (Option.some.inj e))
 have hz := fun b (hb : b < G) => h.base b (.inl hb)
 obtain ⟨A, c, h1, h2⟩ := h.want.row
 refine ⟨hM, (hb _ (hz _ h.ltH) h.ne1).trans h.boxH, (hb _ (hz _ h.ltP) h.ne2).trans h.boxP, ⟨⟨A, c, (hb _ (hz _ h.ltW) h.ne3).trans h1, ?_⟩, h.want.lt⟩, ?_, h.ltM, h.ltH, h.ltP, h.ltW, h.ne1, h.ne2, h.ne3, h.ne4, h.ne5, h.geM, h.geW, hl, fun b hb => Nat.lt_of_lt_of_le (h.base b hb) hg.size, h.ge⟩
 · rcases h2 with h2 | h2
   · refine .inl ⟨h2.1.kept hg ?_, h2.2⟩
     cases hvo : (Value.slice A q.length c).ownBlock with
     | none => exact .inl rfl
     | some x => exact .inr (fun e => by have := Option.some.inj e; exact h2.2 x hvo (.inl (this ▸ h.ltM)))
   · exact .inr h2
 · refine ⟨hg.os.trans h.below.os, hg.tape.trans h.below.tape, hg.output.trans h.below.output, Nat.le_trans h.below.size hg.size, fun c hc2 => ?_⟩
   refine (hb c (Nat.lt_of_lt_of_le hc2 h.below.size) (by have := h.geM; omega)).trans (h.below.block c hc2)
theorem InAt.heaped (h : InAt w W Bh Bp M Bw G g N l q) (hw : WantAt W' (Kg G g) Bw q') (hr : StaysB (Kg G g) Bw W W') : InAt w W' Bh Bp M Bw G g N l q' := by
 refine ⟨h.map.same (hr.old _ ⟨.inl h.ltM, h.ne3.symm⟩), (hr.old _ ⟨.inl h.ltH, h.ne4⟩).trans h.boxH, (hr.old _ ⟨.inl h.ltP, h.ne5⟩).trans h.boxP, hw, ?_, h.ltM, h.ltH, h.ltP, h.ltW, h.ne1, h.ne2, h.ne3, h.ne4, h.ne5, h.geM, h.geW, h.len, fun b hb => Nat.lt_of_lt_of_le (h.base b hb) hr.size, h.ge⟩
 refine ⟨hr.os.trans h.below.os, hr.tape.trans h.below.tape, hr.output.trans h.below.output, Nat.le_trans h.below.size hr.size, fun c hc => ?_⟩
 exact (hr.old c ⟨.inl (by have := h.geM; have := h.ltM; omega), by have := h.geW; omega⟩).trans (h.below.block c hc)
theorem InAt.later (h : InAt w W Bh Bp M Bw G g N l q) (hb : Below W.heap.size W W') : InAt w W' Bh Bp M Bw G g N l q := h.heaped (h.want.same hb) (Stays.belowB hb h.base)
theorem InAt.guard (h : InAt w W Bh Bp M Bw G none N l q) (hb : Below W.heap.size W W') {x : Option Nat} (h1 : ∀ b, x = some b → W.heap.size ≤ b ∧ b < W'.heap.size) : InAt w W' Bh Bp M Bw G x N l q := by
 have h' := h.later hb
 obtain ⟨A, c, k1, k2⟩ := h.want.row
 refine ⟨h'.map, h'.boxH, h'.boxP, ⟨⟨A, c, (hb.block _ (lt_heap k1)).trans k1, ?_⟩, .inl h.ltW⟩, h'.below, h'.ltM, h'.ltH, h'.ltP, h'.ltW, h'.ne1, h'.ne2, h'.ne3, h'.ne4, h'.ne5, h'.geM, h'.geW, h'.len, fun b hk => ?_, fun b hb => ?_⟩
 · rcases k2 with k2 | k2
   · refine .inl ⟨row_below k2.1 hb, fun q hq hk => ?_⟩
     rcases hk with hk | hk
     · exact k2.2 q hq (.inl hk)
     · have h3 := (k2.1.lt q hq).2
       have h4 := (h1 q hk).1
       omega
   · exact .inr k2
 · rcases hk with hk | hk
   · exact h'.base b (.inl hk)
   · exact (h1 b hk).2
 · have h3 := (h1 b hb).1
   have h4 := h.base (G - 1) (.inl (by have := h.ltM; omega))
   omega
theorem InAt.free (h : InAt w W Bh Bp M Bw G g N l q) : InAt w W Bh Bp M Bw G none N l q := by
 obtain ⟨A, c, k1, k2⟩ := h.want.row
 refine ⟨h.map, h.boxH, h.boxP, ⟨⟨A, c, k1, k2.elim (fun k2 => .inl ⟨k2.1, fun q hq hk => k2.2 q hq (hk.elim .inl (fun e => by cases e))⟩) .inr⟩, .inl h.ltW⟩, h.below, h.ltM, h.ltH, h.ltP, h.ltW, h.ne1, h.ne2, h.ne3, h.ne4, h.ne5, h.geM, h.geW, h.len, fun b hk => h.base b (hk.elim .inl (fun e => by cases e)), fun b hb => by cases hb⟩
set_option maxRecDepth 100000 in
set_option maxHeartbeats 4000000 in
theorem t_want (h : InAt w W Bh Bp M Bw G g N l q) (k : Nat) (hk : k ≤ 60000) (hN : N < 100000000) (hq : q.length ≤ 40000) :
  Calls Tryz.prog 147 #[.int .i64 (k : Int), .pointer (some ⟨Bh, 0, none⟩), .pointer (some ⟨Bp, 0, none⟩)] W fun e W' => e = .returned (.tuple #[]) ∧ (∃ q', q'.Perm (if l.count (k : Int) = 0 then k :: q else q) ∧ InAt w W' Bh Bp M Bw G g (N + 1) (l ++ [(k : Int)]) q') ∧ (∀ x, g = some x → W'.heap[x]? = W.heap[x]?) := by
 have hkk : I64 (k : Int) := ⟨by omega, by omega⟩
 have hlk := cntI_look h.map hkk
 obtain ⟨W1, hup, hM, ht⟩ := cntI_turn h.map hkk (by omega)
 have hlk1 := cntI_look hM hkk
 have HI := zz (h.turned hM ht (by simpa using h.len))
 have cH := box_cell h.boxH
 have cP := box_cell h.boxP
 have cH1 := box_cell HI.out.boxH
 have cP1 := box_cell HI.out.boxP
 have hcl : l.count (k : Int) ≤ 100000000 := Nat.le_trans List.count_le_length (by have := h.len; omega)
 obtain ⟨cc, hcc⟩ : ∃ cc, l.count (k : Int) = cc := ⟨_, rfl⟩
 have hc1 : (l ++ [(k : Int)]).count (k : Int) = cc + 1 := by rw [List.count_append, hcc]; simp
 rw [hcc] at hlk hup hcl ⊢
 rw [hc1] at hlk1
 have HG : Hid (∀ x, g = some x → W1.heap[x]? = W.heap[x]?) := fun x hx => ht.grown.block x (h.base x (.inr hx)) (fun e => by
  have h1 : x = M := Option.some.inj e
  have := h.ge x hx
  have := h.ltM
  omega)
 have HG2 : Hid (∀ x, g = some x → x ≠ Bw) := fun x hx => by
  have := h.ge x hx
  have := h.ltW
  omega
 clear hM ht hc1 hcc h
 by_cases h0 : cc = 0
 · subst h0
   have hup2 : (Instr.mapUpdate 142 (.map (some M)) (.int .i64 (k : Int)) (.int .i64 1)).run Tryz.prog W = .ok () W1 := hup
   have hlk2 : (Instr.lookup 142 (.map (some M)) (.int .i64 (k : Int)) false).run Tryz.prog W1 = .ok (.int .i64 1) W1 := hlk1
   clear hup hlk1
   have HPU := zz (t_hPush (Kg G g) Bw q k W1 HI.out.want hq HI.out.base)
   go_enter Tryz.func147, Tryz.ntmps147
   go_wp2_with (go_at_call 148; (with_reducible refine HPU.out.mono ?_); rintro e w2 ⟨rfl, q', h1, h2, h3⟩; have HP := zz (And.intro h1 (And.intro h2 h3)); clear h1 h2 h3)
   go_end0
   exact ⟨rfl, ⟨q', HP.out.1, HI.out.heaped HP.out.2.1 HP.out.2.2⟩, fun x hx => (HP.out.2.2.old x ⟨.inr hx, HG2.out x hx⟩).trans (HG.out x hx)⟩
 · rw [if_neg h0]
   have hne : ((cc : Int) + 1 == 1) = false := by simp; omega
   go_enter Tryz.func147, Tryz.ntmps147
   go_wp2
   go_end0
   exact ⟨rfl, ⟨q, List.Perm.refl _, HI.out⟩, HG.out⟩
end
inductive InC (l : List R) (inos : List Int) : Nat → Prop
 | own {k : Nat} : k < l.length → writesB (rAt l k) inos = true → InC l inos k
 | on {m k : Nat} : InC l inos m → k ∈ onL l m → InC l inos k
theorem onL_mem {l : List R} {m k : Nat} : k ∈ onL l m ↔ k < m ∧ meetB (rAt l k) (rAt l m) = true := by
 unfold onL
 rw [List.mem_filter, List.mem_range]
theorem InC.lt {l : List R} {inos : List Int} {k : Nat} (h : InC l inos k) : k < l.length := by
 induction h with
 | own h _ => exact h
 | on _ hk ih => exact Nat.lt_trans (onL_mem.1 hk).1 ih
def Named (c : List Int) (k : Nat) : Prop := (k : Int) ∈ c
structure Found (l : List R) (inos : List Int) (c : List Int) (q done : List Nat) : Prop where
 nat : ∀ x ∈ c, ∃ k : Nat, x = (k : Int) ∧ InC l inos k
 nodup : (q ++ done).Nodup
 mem : ∀ k : Nat, k ∈ q ++ done ↔ Named c k
theorem Found.start (l : List R) (inos : List Int) : Found l inos [] [] [] := ⟨fun x hx => by simp at hx, List.nodup_nil, fun k => by simp [Named]⟩
theorem Found.want {l : List R} {inos : List Int} {c : List Int} {q q' done : List Nat} {k : Nat} (h : Found l inos c q done) (hk : InC l inos k) (hq : q'.Perm (if c.count (k : Int) = 0 then k :: q else q)) : Found l inos (c ++ [(k : Int)]) q' done := by
 have hn : c.count (k : Int) = 0 ↔ ¬ k ∈ q ++ done := by rw [List.count_eq_zero, h.mem]; rfl
 have hmem : ∀ j : Nat, Named (c ++ [(k : Int)]) j ↔ Named c j ∨ j = k := fun j => by
  unfold Named
  rw [List.mem_append, List.mem_singleton]
  constructor
  · rintro (h | h)
    · exact .inl h
    · exact .inr (by omega)
  · rintro (h | h)
    · exact .inl h
    · exact .inr (by omega)
 refine ⟨fun x hx => ?_, ?_, fun j => ?_⟩
 · rcases List.mem_append.1 hx with hx | hx
   · exact h.nat x hx
   · rw [List.mem_singleton] at hx
     exact ⟨k, hx, hk⟩
 · split at hq
   · rename_i h0
     have hp : (q' ++ done).Perm (k :: (q ++ done)) := hq.append_right done
     exact hp.nodup_iff.2 (List.nodup_cons.2 ⟨hn.1 h0, h.nodup⟩)
   · exact (hq.append_right done).nodup_iff.2 h.nodup
 · rw [hmem]
   split at hq
   · have hp : (q' ++ done).Perm (k :: (q ++ done)) := hq.append_right done
     rw [hp.mem_iff, List.mem_cons, h.mem]
     exact Or.comm
   · rename_i h0
     have hp : (q' ++ done).Perm (q ++ done) := hq.append_right done
     rw [hp.mem_iff, h.mem]
     constructor
     · exact .inl
     · rintro (h1 | h1)
       · exact h1
       · subst h1
         rw [← h.mem]
         exact Decidable.by_contra fun hh => h0 (hn.2 hh)
theorem Found.pop {l : List R} {inos : List Int} {c : List Int} {q q' done : List Nat} {x : Nat} (h : Found l inos c q done) (hq : (x :: q').Perm q) : Found l inos c q' (x :: done) := by
 have hp : (q' ++ x :: done).Perm (q ++ done) := (List.perm_middle (l₁ := q') (l₂ := done)).trans (hq.append_right done)
 exact ⟨h.nat, hp.nodup_iff.2 h.nodup, fun k => by rw [hp.mem_iff, h.mem]⟩
theorem Found.lt {l : List R} {inos : List Int} {c : List Int} {q done : List Nat} (h : Found l inos c q done) : ∀ k ∈ q ++ done, InC l inos k := fun k hk => by
 obtain ⟨j, h1, h2⟩ := h.nat _ ((h.mem k).1 hk)
 have : k = j := by omega
 rw [this]
 exact h2
theorem nodup_le : ∀ (n : Nat) (l : List Nat), l.Nodup → (∀ k ∈ l, k < n) → l.length ≤ n
 | 0, l, _, h2 => by
  cases l with
  | nil => exact Nat.le_refl _
  | cons a l => exact absurd (h2 a (by simp)) (by omega)
 | n + 1, l, h1, h2 => by
  by_cases hn : n ∈ l
  · have h3 := nodup_le n (l.erase n) (h1.erase n) fun k hk => by
     have h4 := h2 k (List.mem_of_mem_erase hk)
     have h5 : k ≠ n := fun e => by
      rw [e] at hk
      exact h1.not_mem_erase hk
     omega
    rw [List.length_erase_of_mem hn] at h3
    omega
  · have h3 := nodup_le n l h1 fun k hk => by
     have h4 := h2 k hk
     have h5 : k ≠ n := fun e => hn (e ▸ hk)
     omega
    omega
theorem Found.len {l : List R} {inos : List Int} {c : List Int} {q done : List Nat} (h : Found l inos c q done) : q.length + done.length ≤ l.length := by
 have := nodup_le l.length _ h.nodup fun k hk => (h.lt k hk).lt
 rw [List.length_append] at this
 exact this
theorem Found.all {l : List R} {inos : List Int} {c : List Int} {done : List Nat} (h : Found l inos c [] done) (h1 : ∀ k, k < l.length → writesB (rAt l k) inos = true → Named c k) (h2 : ∀ m ∈ done, ∀ k ∈ onL l m, Named c k) : ∀ k : Nat, Named c k ↔ InC l inos k := fun k => by
 constructor
 · intro hk
   exact h.lt k ((h.mem k).2 hk)
 · intro hk
   induction hk with
   | own a b => exact h1 _ a b
   | on _ hm ih =>
    have := (h.mem _).2 ih
    rw [List.nil_append] at this
    exact h2 _ this _ hm
end

section
open Go.RowKit Go.Maps
noncomputable def minOf (p : Nat → Prop) : Nat := open Classical in if h : ∃ m, p m ∧ ∀ k, p k → m ≤ k then h.choose else 0
theorem minOf_spec {p : Nat → Prop} {m : Nat} (hm : p m) : p (minOf p) ∧ ∀ k, p k → minOf p ≤ k := by
 have ex : ∃ m, p m ∧ ∀ k, p k → m ≤ k := by
  induction m using Nat.strongRecOn with
  | _ m ih =>
   by_cases h : ∃ k, k < m ∧ p k
   · obtain ⟨k, h1, h2⟩ := h
     exact ih k h1 h2
   · exact ⟨m, hm, fun k hk => Decidable.by_contra fun hh => h ⟨k, by omega, hk⟩⟩
 unfold minOf
 rw [dif_pos ex]
 exact ex.choose_spec
section
variable (l : List R) (inos : List Int) (w : World) (s : Nat)
def Lap1 (W : World) (i : Nat) : Prop := ∃ N c q, Found l inos c q [] ∧ (∀ k, k < i → writesB (rAt l k) inos = true → Named c k) ∧ InAt w W (s + 1) (s + 1 + 1 + 1 + 1) s (s + 1 + 1 + 1) (s + 1 + 1 + 1 + 1 + 1) none N c q ∧ N ≤ i
def Lap2 (W : World) (m : Nat) : Prop := ∃ N c q done, Found l inos c q done ∧ (∀ k, k < l.length → writesB (rAt l k) inos = true → Named c k) ∧ (∀ d ∈ done, ∀ k ∈ onL l d, Named c k) ∧ InAt w W (s + 1) (s + 1 + 1 + 1 + 1) s (s + 1 + 1 + 1) (s + 1 + 1 + 1 + 1 + 1) none N c q ∧ N ≤ l.length + done.length * l.length ∧ m = l.length - done.length
def Lap3 (d : Nat) (W : World) (g : Option Nat) (j : Nat) (done : List Nat) : Prop := ∃ N c q, Found l inos c q (d :: done) ∧ (∀ k, k < l.length → writesB (rAt l k) inos = true → Named c k) ∧ (∀ d ∈ done, ∀ k ∈ onL l d, Named c k) ∧ (∀ k ∈ (onL l d).take j, Named c k) ∧ InAt w W (s + 1) (s + 1 + 1 + 1 + 1) s (s + 1 + 1 + 1) (s + 1 + 1 + 1 + 1 + 1) g N c q ∧ N ≤ l.length + done.length * l.length + j
end
section
variable {l : List R} {inos : List Int} {w W W' : World} {s i j m : Nat} {g : Option Nat} {done : List Nat}
theorem Lap1.start (hs : w.heap.size = s) : Lap1 l inos w s (((((w.alloc (.map #[] 0)).alloc (.cells #[.map (some s)] 142)).alloc (.cells #[] 3)).alloc (.cells #[.slice (some ⟨s + 1 + 1, 0, none⟩) 0 0] 199)).alloc (.cells #[.pointer (some ⟨s + 1 + 1 + 1, 0, none⟩)] 198)) 0 := by
 subst hs
 have z1 : (w.alloc (.map #[] 0)).heap.size = w.heap.size + 1 := by simp
 have hb : ∀ (W : World) (o : Obj), Below W.heap.size W (W.alloc o) := fun W o => (Below.refl _ _).alloc (Nat.le_refl _) _
 refine ⟨0, [], [], Found.start l inos, fun k hk => by omega, ?_, Nat.le_refl _⟩
 refine ⟨?_, ?_, ?_, ⟨⟨some ⟨w.heap.size + 1 + 1, 0, none⟩, 0, ?_, .inr ⟨rfl, rfl, _, rfl⟩⟩, .inl (by omega)⟩, ?_, by omega, by omega, by omega, by omega, by omega, by omega, by omega, by omega, by omega, Nat.le_refl _, by omega, Nat.le_refl _, fun b hk => ?_, fun b hb => by cases hb⟩
 · refine MapAt.congr ?_ (m := fun _ => none) fun kl _ => by cases kl with | int q a => cases q <;> rfl | _ => rfl
   exact (((((MapAt.made w Tryz.prog 3).below (hb _ _)).below (hb _ _)).below (hb _ _)).below (hb _ _))
 · rw [heap_alloc_old _ _ (by simp), heap_alloc_old _ _ (by simp), heap_alloc_old _ _ (by simp)]
   have := heap_alloc_new (w.alloc (.map #[] 0)) (.cells #[.map (some w.heap.size)] 142)
   rw [z1] at this
   exact this
 · have := heap_alloc_new ((((w.alloc (.map #[] 0)).alloc (.cells #[.map (some w.heap.size)] 142)).alloc (.cells #[] 3)).alloc (.cells #[.slice (some ⟨w.heap.size + 1 + 1, 0, none⟩) 0 0] 199)) (.cells #[.pointer (some ⟨w.heap.size + 1 + 1 + 1, 0, none⟩)] 198)
   simpa using this
 · rw [heap_alloc_old _ _ (by simp)]
   have := heap_alloc_new (((w.alloc (.map #[] 0)).alloc (.cells #[.map (some w.heap.size)] 142)).alloc (.cells #[] 3)) (.cells #[.slice (some ⟨w.heap.size + 1 + 1, 0, none⟩) 0 0] 199)
   simpa using this
 · exact ptrans (ptrans (ptrans (ptrans (hb _ _) (hb _ _)) (hb _ _)) (hb _ _)) (hb _ _)
 · rcases hk with hk | hk
   · simpa using hk
   · cases hk
theorem Lap1.later (h : Lap1 l inos w s W i) (hb : Below W.heap.size W W') : Lap1 l inos w s W' i := by
 obtain ⟨N, c, q, h1, h2, h3, h4⟩ := h
 exact ⟨N, c, q, h1, h2, h3.later hb, h4⟩
theorem Lap1.skip (h : Lap1 l inos w s W i) (hw : writesB (rAt l i) inos = false) : Lap1 l inos w s W (i + 1) := by
 obtain ⟨N, c, q, h1, h2, h3, h4⟩ := h
 refine ⟨N, c, q, h1, fun k hk hk2 => ?_, h3, by omega⟩
 by_cases e : k = i
 · subst e
   rw [hw] at hk2
   cases hk2
 · exact h2 k (by omega) hk2
theorem Named.more {c : List Int} {k : Nat} (h : Named c k) (x : Int) : Named (c ++ [x]) k := List.mem_append_left _ h
theorem Named.this (c : List Int) (k : Nat) : Named (c ++ [(k : Int)]) k := by unfold Named; simp
theorem Lap1.take (h : Lap1 l inos w s W i) (hi : i < l.length) (hl : l.length ≤ 1000) (hw : writesB (rAt l i) inos = true) :
  Calls Tryz.prog 147 #[.int .i64 (i : Int), .pointer (some ⟨s + 1, 0, none⟩), .pointer (some ⟨s + 1 + 1 + 1 + 1, 0, none⟩)] W fun e W' => e = .returned (.tuple #[]) ∧ Lap1 l inos w s W' (i + 1) := by
 obtain ⟨N, c, q, h1, h2, h3, h4⟩ := h
 have hq := h1.len
 refine (t_want h3 i (by omega) (by omega) (by omega)).mono ?_
 rintro e W' ⟨rfl, ⟨q', g1, g2⟩, _⟩
 refine ⟨rfl, N + 1, c ++ [(i : Int)], q', h1.want (.own hi hw) g1, fun k hk hk2 => ?_, g2, by omega⟩
 by_cases e : k = i
 · subst e
   exact Named.this c k
 · exact (h2 k (by omega) hk2).more _
theorem Lap1.over (h : Lap1 l inos w s W l.length) : Lap2 l inos w s W l.length := by
 obtain ⟨N, c, q, h1, h2, h3, h4⟩ := h
 exact ⟨N, c, q, [], h1, h2, (fun d hd => absurd hd (by simp)), h3, by simp; omega, by simp⟩
theorem Lap3.take {d k : Nat} (h : Lap3 l inos w s d W g j done) (hd : InC l inos d) (hk : (onL l d)[j]? = some k) (hl : l.length ≤ 1000) :
  Calls Tryz.prog 147 #[.int .i64 (k : Int), .pointer (some ⟨s + 1, 0, none⟩), .pointer (some ⟨s + 1 + 1 + 1 + 1, 0, none⟩)] W fun e W' => e = .returned (.tuple #[]) ∧ Lap3 l inos w s d W' g (j + 1) done ∧ ∀ x, g = some x → W'.heap[x]? = W.heap[x]? := by
 obtain ⟨N, c, q, h1, h2, h3, h4, h5, h6⟩ := h
 have hq := h1.len
 have hm := List.mem_of_getElem? hk
 have hkd := (onL_mem.1 hm).1
 have hdl := hd.lt
 have hj : j < l.length := by
  have e1 := (List.getElem?_eq_some_iff.1 hk).1
  have e2 : (onL l d).length ≤ d := by unfold onL; exact Nat.le_trans (List.length_filter_le _ _) (by simp)
  omega
 have hdn : done.length ≤ 1000 := by simp at hq; omega
 have hmul : done.length * l.length ≤ 1000 * 1000 := Nat.mul_le_mul hdn hl
 refine (t_want h5 k (by omega) (by omega) (by omega)).mono ?_
 rintro e W' ⟨rfl, ⟨q', g1, g2⟩, g3⟩
 refine ⟨rfl, ⟨N + 1, c ++ [(k : Int)], q', h1.want (.on hd hm) g1, fun a b e => (h2 a b e).more _, fun a b e f => (h3 a b e f).more _, fun a ha => ?_, g2, by omega⟩, g3⟩
 rw [List.take_add_one, hk] at ha
 rcases List.mem_append.1 ha with ha | ha
 · exact (h4 a ha).more _
 · simp at ha
   subst ha
   exact Named.this c a
theorem Lap3.over {d : Nat} (h : Lap3 l inos w s d W g (onL l d).length done) (hdl : d < l.length) : Lap2 l inos w s W (l.length - (done.length + 1)) := by
 obtain ⟨N, c, q, h1, h2, h3, h4, h5, h6⟩ := h
 refine ⟨N, c, q, d :: done, h1, h2, fun a ha k hk => ?_, h5.free, ?_, by simp⟩
 · rcases List.mem_cons.1 ha with e | ha
   · subst e
     rw [List.take_length] at h4
     exact h4 k hk
   · exact h3 a ha k hk
 · have e2 : (onL l d).length ≤ d := by unfold onL; exact Nat.le_trans (List.length_filter_le _ _) (by simp)
   rw [List.length_cons, Nat.succ_mul]
   omega
theorem own_base0 {w : World} {base size n : Nat} {e : TypeId} {v : Value} {xs : List Value} (h : w.ownsRow base e size v n xs) : w.ownsRow 0 e size v n xs :=
 ⟨h.1, h.2.elim .inl fun ⟨g, cap, cur, a, _, c⟩ => .inr ⟨g, cap, cur, a, Nat.zero_le _, c⟩⟩
theorem own_same {w w' : World} {base size n : Nat} {e : TypeId} {v : Value} {xs : List Value} (h : w.ownsRow base e size v n xs) (hb : ∀ q, v.ownBlock = some q → w'.heap[q]? = w.heap[q]?) : w'.ownsRow base e size v n xs := by
 rcases h with ⟨h1, h2 | ⟨g, cap, cur, rfl, h3, h4, h5⟩⟩
 · exact ⟨h1, .inl h2⟩
 · exact ⟨h1, .inr ⟨g, cap, cur, rfl, h3, (hb g rfl).trans h4, h5⟩⟩
end
set_option maxRecDepth 100000 in
set_option maxHeartbeats 4000000 in
theorem t_in (A : Option Addr) (c n : Nat) (l : List R) (Ai : Option Addr) (ni ci : Nat) (inos : List Int) (w : World) (hl : RecsAt w A l) (hn : l.length = n) (hn2 : n ≤ 1000) (hnc : n ≤ c) (hi : InosAt w Ai inos) (hni : inos.length = ni) (hni2 : ni ≤ 60000) :
  Calls Tryz.prog 84 #[.slice A n c, .slice Ai ni ci] w fun e w' => ∃ M N ks, e = .returned (.map (some M)) ∧ MapAt w' Tryz.prog 3 M N (cntI ks) ∧ w.heap.size ≤ M ∧ N ≤ 2000000 ∧ (∀ x ∈ ks, ∃ k : Nat, x = (k : Int) ∧ InC l inos k) ∧ (∀ k : Nat, Named ks k ↔ InC l inos k) ∧ Below w.heap.size w w' := by
 have HL := zz hl
 have HN := zz hn
 have HI := zz hi
 have HNI := zz hni
 obtain ⟨s, hs⟩ : ∃ s, w.heap.size = s := ⟨_, rfl⟩
 have hst := zz (Lap1.start (l := l) (inos := inos) hs)
 have HS := zz hs
 clear hl hn hi hni
 have hmm := @run_makeMap Tryz.prog
 go_enter Tryz.func84, Tryz.ntmps84
 go_wp2
 clear hs
 go_loopw [18] (fun x wr => ∃ i : Nat, x = .int .i64 (i : Int) ∧ i ≤ n ∧ Hid (Lap1 l inos w s wr i)) (fun x _ => n - (intOf x).toNat)
 case atStart => exact ⟨0, rfl, Nat.zero_le _, hst⟩
 case round =>
  obtain ⟨i, rfl, hi, HI1⟩ := hrel
  by_cases he : i = n
  · have HL2 : Hid (∃ m, Lap2 l inos w s wr m) := by
     rw [he, ← HN.out] at HI1
     exact ⟨_, HI1.out.over⟩
    clear HI1 hst
    have he' : n = i := he.symm
    clear he
    subst he'
    go_wp2
    obtain ⟨w0, rfl⟩ : ∃ w0 : World, w0 = wr := ⟨_, rfl⟩
    go_loopw [30] (fun _ wr => Hid (∃ m, Lap2 l inos w s wr m)) (fun _ wr => minOf (Lap2 l inos w s wr))
    case atStart => exact HL2
    case round =>
     have HL3 : Hid (∃ m, Lap2 l inos w s wr m) := hrel
     clear hrel
     have HM : Hid (Lap2 l inos w s wr (minOf (Lap2 l inos w s wr))) := by
      obtain ⟨m, hm⟩ := HL3.out
      exact (minOf_spec hm).1
     obtain ⟨N, c1, q, done, hF, hOwn, hOn, hAt, hN1, hm0⟩ := HM.out
     have HF := zz hF
     have HOwn := zz hOwn
     have HOn := zz hOn
     have HAt := zz hAt
     have HN1 := zz hN1
     have HM0 := zz hm0
     obtain ⟨A3, c3, k1, k2⟩ := hAt.want.row
     have cP := box_cell hAt.boxP
     have cW := box_cell k1
     have cH := box_cell hAt.boxH
     obtain ⟨nq, hnq⟩ : ∃ nq, q.length = nq := ⟨_, rfl⟩
     rw [hnq] at cW
     have HNQ := zz hnq
     clear hF hOwn hOn hAt hN1 hm0 k1 k2 hnq
     by_cases hq0 : nq = 0
     · subst hq0
       have HR : Hid (MapAt wr Tryz.prog 3 s N (cntI c1) ∧ w.heap.size ≤ s ∧ N ≤ 2000000 ∧ (∀ x ∈ c1, ∃ k : Nat, x = (k : Int) ∧ InC l inos k) ∧ (∀ k : Nat, Named c1 k ↔ InC l inos k) ∧ Below w.heap.size w wr) := by
        have hq : q = [] := List.eq_nil_of_length_eq_zero HNQ.out
        have h1 := HF.out.len
        have h2 := HN1.out
        have h3 := HN.out
        have hmul : done.length * l.length ≤ 1000 * 1000 := Nat.mul_le_mul (by omega) (by omega)
        refine ⟨HAt.out.map, HAt.out.geM, by omega, HF.out.nat, ?_, HAt.out.below⟩
        have h4 := HF.out
        rw [hq] at h4
        exact h4.all HOwn.out HOn.out
       go_wp2
       go_ret
       exact ⟨s, N, c1, rfl, HR.out⟩
     · have hq1 : 0 < nq := by omega
       have hq6 : q.length ≤ 40000 := by have := HF.out.len; have := HN.out; omega
       have HPP := zz (t_hPop (Kg (s + 1 + 1 + 1 + 1 + 1) none) (s + 1 + 1 + 1) q wr HAt.out.want hq6 (by rw [HNQ.out]; exact hq1) HAt.out.base)
       have hta := ta_int
       have HTA := zz hta
       clear hta
       go_wp2_with (first
        | (go_at_call 150; (with_reducible refine (t_wLen A3 _ c3 _).mono ?_); rintro e w' ⟨rfl, rfl⟩)
        | (go_at_call 151; (with_reducible refine HPP.out.mono ?_); rintro e w2 ⟨d, q2, rfl, h1, h2, h3⟩; have HP2 := zz (And.intro h1 (HAt.out.heaped h2 h3)); have hta := ta_int (d : Int); clear h1 h2 h3)
        | (go_at_call 44; (with_reducible refine (t_on A c n d l _ (HL.out.below HP2.out.2.below) HN.out (by omega) hnc (by have := (HF.out.lt d (by rw [List.mem_append]; exact .inl (HP2.out.1.mem_iff.1 (by simp)))).lt; have := HN.out; omega)).mono ?_); rintro e w4 ⟨v4, rfl, h1, h2⟩; obtain ⟨A4, c4, rfl⟩ := row_slice h1; have H4 := zz (And.intro h1 h2); clear h1 h2))
       have hdC : Hid (InC l inos d) := HF.out.lt d (by rw [List.mem_append]; exact .inl (HP2.out.1.mem_iff.1 (by simp)))
       have hG := HP2.out.2.guard H4.out.2 (x := (Value.slice A4 (onL l d).length c4).ownBlock) (fun b hb => H4.out.1.lt b hb)
       have hL3 : Lap3 l inos w s d w4 (Value.slice A4 (onL l d).length c4).ownBlock 0 done :=
        ⟨N, c1, q2, HF.out.pop HP2.out.1, HOwn.out, HOn.out, fun k hk => by simp at hk, hG, by have := HN1.out; omega⟩
       have hlow : Hid (w2.heap.size ≤ w4.heap.size) := H4.out.2.size
       have hrow := H4.out.1
       obtain ⟨no, hno⟩ : ∃ no, (onL l d).length = no := ⟨_, rfl⟩
       have hno5 : no ≤ 1000 := by
        have e2 : (onL l d).length ≤ d := by unfold onL; exact Nat.le_trans (List.length_filter_le _ _) (by simp)
        have := hdC.out.lt
        have := HN.out
        omega
       rw [hno] at hL3 hrow ⊢
       have HNO := zz hno
       have HLP := zz hL3
       have HRow := zz hrow
       clear hG hL3 hrow hno
       obtain ⟨w0, rfl⟩ : ∃ w0 : World, w0 = wr := ⟨_, rfl⟩
       go_loopw [42] (fun x wr => ∃ j : Nat, x = .int .i64 (j : Int) ∧ j ≤ no ∧ Hid (Lap3 l inos w s d wr (Value.slice A4 no c4).ownBlock j done ∧ wr.ownsRow w2.heap.size 3 1 (.slice A4 no c4) no (natV (onL l d)))) (fun x _ => no - (intOf x).toNat)
       case atStart => exact ⟨0, rfl, Nat.zero_le _, HLP.out, HRow.out⟩
       case round =>
        obtain ⟨j, rfl, hj, HJ⟩ := hrel
        by_cases he2 : j = no
        · have HE : Hid (Lap2 l inos w s wr (l.length - (done.length + 1)) ∧ l.length - (done.length + 1) < minOf (Lap2 l inos w s w0)) := by
           have h1 := HJ.out.1
           rw [he2] at h1
           have h2 : Lap3 l inos w s d wr (Value.slice A4 no c4).ownBlock (onL l d).length done := by rw [HNO.out]; exact h1
           have h3 := HF.out.len
           have h4 := HM0.out
           have h5 := HNQ.out
           exact ⟨h2.over hdC.out.lt, by omega⟩
          go_wp2
          exact ⟨⟨_, HE.out.1⟩, Nat.lt_of_le_of_lt ((minOf_spec HE.out.1).2 _ HE.out.1) HE.out.2⟩
        · have hj2 : j < no := by omega
          obtain ⟨gq, hgq, _, k, hk, ck, _⟩ := nat_cell (K := fun _ => False) ⟨own_base0 HJ.out.2, fun _ _ h => h⟩ hj2
          subst hgq
          have HKK := zz hk
          clear hk
          go_wp2_with (go_at_call 147; (with_reducible refine (HJ.out.1.take hdC.out HKK.out (by rw [HN.out]; exact hn2)).mono ?_); rintro e w5 ⟨rfl, h1, h2⟩; have H5 := zz (And.intro h1 (own_same HJ.out.2 h2)); clear h1 h2)
          go_roundw
          case rel => exact ⟨j + 1, rfl, hj2, H5.out⟩
          case measure => simp only [intOf]; omega
  · have hi2 : i < n := by omega
    obtain ⟨x, hx⟩ : ∃ x, l[i]? = some x := ⟨l[i]'(by rw [HN.out]; omega), List.getElem?_eq_getElem _⟩
    have HX := zz hx
    have HBW : Hid (Below w.heap.size w wr) := by obtain ⟨N, c, q, _, _, h, _⟩ := HI1.out; exact h.below
    obtain ⟨b, o, rfl, hbl, hc⟩ := (HL.out.below HBW.out).at_ (fun e => by rw [e] at hx; simp at hx)
    have HC := zz (And.intro hbl hc)
    have c0 : wr.cell? ⟨b, o + i * 12, none⟩ = some (.int .u64 x.stamp) := hc i x hx 0 _ rfl
    have c1 := hc i x hx 1 _ rfl
    have c2 := hc i x hx 2 _ rfl
    have c3 := hc i x hx 3 _ rfl
    have c4 := hc i x hx 4 _ rfl
    have c5 := hc i x hx 5 _ rfl
    have c6 := hc i x hx 6 _ rfl
    have c7 := hc i x hx 7 _ rfl
    have c8 := hc i x hx 8 _ rfl
    have c9 := hc i x hx 9 _ rfl
    have c10 := hc i x hx 10 _ rfl
    have c11 := hc i x hx 11 _ rfl
    clear hbl hc hx hst
    have hxv : rAt l i = x := rAt_get HX.out
    have HXV := zz hxv
    clear hxv
    have hwr := fun w1 (hb : Below w.heap.size w w1) => t_writes x (HL.out.ok x (List.mem_of_getElem? HX.out)) Ai ni ci inos w1 (HI.out.below hb) HNI.out hni2
    unfold R.val at hwr
    have HWR := zz hwr
    clear hwr
    go_wp2_with (first
     | (go_at_call 149; (with_reducible refine (HWR.out _ (ptrans HBW.out ((Below.refl _ _).alloc (Nat.le_refl _) _))).mono ?_); rintro e w2 ⟨rfl, hb⟩; have HB2 := zz (HI1.out.later (ptrans ((Below.refl _ _).alloc (Nat.le_refl _) _) hb)); clear hb)
     | (go_at_call 147; (with_reducible refine (HB2.out.take (by rw [HN.out]; exact hi2) (by rw [HN.out]; exact hn2) (by rw [HXV.out]; assumption)).mono ?_); rintro e w3 ⟨rfl, h3⟩; have HB3 := zz h3; clear h3))
    · go_roundw
      case rel => exact ⟨i + 1, rfl, hi2, HB3⟩
      case measure => simp only [intOf]; omega
    · go_roundw
      case rel => exact ⟨i + 1, rfl, hi2, HB2.out.skip (by rw [HXV.out]; assumption)⟩
      case measure => simp only [intOf]; omega
end

section
open Go.Shelf Go.RowKit
def so_ren : Go.Shelf.Ren := ⟨fun | 189 => 85 | 125 => 145 | 257 => 152 | 128 => 191 | 129 => 192 | 294 => 198 | 295 => 199 | 296 => 200 | 297 => 201 | 298 => 202 | 299 => 203 | 216 => 204 | 300 => 205 | 301 => 206 | 328 => 248 | 329 => 242 | 330 => 243 | 331 => 249 | 332 => 250 | 215 => 251 | 343 => 262 | n => n, fun | 28 => 60 | 3 => 3 | 46 => 197 | 0 => 0 | 51 => 37 | 53 => 48 | 4 => 4 | 183 => 225 | 182 => 224 | 131 => 58 | 5 => 5 | 9 => 9 | 218 => 265 | 222 => 269 | 228 => 280 | 229 => 281 | n => n, fun | n => n⟩
theorem so : Lays.n189 Tryz.prog so_ren := {
 mixed := by kernel_rfl
 f125 := Tryz.func145.trans (congrArg some (by kernel_rfl))
 f128 := Tryz.func191.trans (congrArg some (by kernel_rfl))
 f129 := Tryz.func192.trans (congrArg some (by kernel_rfl))
 f189 := Tryz.func85.trans (congrArg some (by kernel_rfl))
 f215 := Tryz.func251.trans (congrArg some (by kernel_rfl))
 f216 := Tryz.func204.trans (congrArg some (by kernel_rfl))
 f257 := Tryz.func152.trans (congrArg some (by kernel_rfl))
 f294 := Tryz.func198.trans (congrArg some (by kernel_rfl))
 f295 := Tryz.func199.trans (congrArg some (by kernel_rfl))
 f296 := Tryz.func200.trans (congrArg some (by kernel_rfl))
 f297 := Tryz.func201.trans (congrArg some (by kernel_rfl))
 f298 := Tryz.func202.trans (congrArg some (by kernel_rfl))
 f299 := Tryz.func203.trans (congrArg some (by kernel_rfl))
 f300 := Tryz.func205.trans (congrArg some (by kernel_rfl))
 f301 := Tryz.func206.trans (congrArg some (by kernel_rfl))
 f328 := Tryz.func248.trans (congrArg some (by kernel_rfl))
 f329 := Tryz.func242.trans (congrArg some (by kernel_rfl))
 f330 := Tryz.func243.trans (congrArg some (by kernel_rfl))
 f331 := Tryz.func249.trans (congrArg some (by kernel_rfl))
 f332 := Tryz.func250.trans (congrArg some (by kernel_rfl))
 f343 := Tryz.func262.trans (congrArg some (by kernel_rfl))
 t0 := Tryz.underlying0
 a0 := Tryz.isAgg0
 z0 := Tryz.sizeOf0
 v0 := Tryz.zeroValue0
 t3 := Tryz.underlying3
 a3 := Tryz.isAgg3
 z3 := Tryz.sizeOf3
 v3 := Tryz.zeroValue3
 t4 := Tryz.underlying4
 a4 := Tryz.isAgg4
 z4 := Tryz.sizeOf4
 v4 := Tryz.zeroValue4
 t5 := Tryz.underlying5
 a5 := Tryz.isAgg5
 z5 := Tryz.sizeOf5
 v5 := Tryz.zeroValue5
 t9 := Tryz.underlying9
 a9 := Tryz.isAgg9
 z9 := Tryz.sizeOf9
 v9 := Tryz.zeroValue9
 t28 := Tryz.underlying60
 a28 := Tryz.isAgg60
 z28 := Tryz.sizeOf60
 v28 := Tryz.zeroValue60
 t46 := Tryz.underlying197
 a46 := Tryz.isAgg197
 z46 := Tryz.sizeOf197
 v46 := Tryz.zeroValue197
 t51 := Tryz.underlying37
 a51 := Tryz.isAgg37
 z51 := Tryz.sizeOf37
 v51 := Tryz.zeroValue37
 t53 := Tryz.underlying48
 a53 := Tryz.isAgg48
 z53 := Tryz.sizeOf48
 v53 := Tryz.zeroValue48
 t131 := Tryz.underlying58
 a131 := Tryz.isAgg58
 z131 := Tryz.sizeOf58
 v131 := Tryz.zeroValue58
 t182 := Tryz.underlying224
 a182 := Tryz.isAgg224
 z182 := Tryz.sizeOf224
 v182 := Tryz.zeroValue224
 t183 := Tryz.underlying225
 a183 := Tryz.isAgg225
 z183 := Tryz.sizeOf225
 v183 := Tryz.zeroValue225
 t218 := Tryz.underlying265
 a218 := Tryz.isAgg265
 z218 := Tryz.sizeOf265
 v218 := Tryz.zeroValue265
 t222 := Tryz.underlying269
 a222 := Tryz.isAgg269
 z222 := Tryz.sizeOf269
 v222 := Tryz.zeroValue269
 t228 := Tryz.underlying280
 a228 := Tryz.isAgg280
 z228 := Tryz.sizeOf280
 v228 := Tryz.zeroValue280
 t229 := Tryz.underlying281
 a229 := Tryz.isAgg281
 z229 := Tryz.sizeOf281
 v229 := Tryz.zeroValue281 }
end

section
open Go.RowKit Go.Maps
def inB (l : List R) (inos : List Int) : Nat → Nat → Bool
 | 0, _ => false
 | f + 1, k => writesB (rAt l k) inos || (List.range l.length).any fun m => decide (k < m) && inB l inos f m && meetB (rAt l k) (rAt l m)
theorem inB_of {l : List R} {inos : List Int} {k : Nat} (h : InC l inos k) : ∀ f, l.length - k ≤ f → inB l inos f k = true := by
 induction h with
 | @own k hk hw =>
  intro f hf
  obtain ⟨f, rfl⟩ : ∃ g, f = g + 1 := ⟨f - 1, by omega⟩
  unfold inB
  rw [hw]
  rfl
 | @on m k hm hk ih =>
  intro f hf
  have hlt := hm.lt
  obtain ⟨h1, h2⟩ := onL_mem.1 hk
  obtain ⟨f, rfl⟩ : ∃ g, f = g + 1 := ⟨f - 1, by omega⟩
  unfold inB
  rw [Bool.or_eq_true]
  refine .inr (List.any_eq_true.2 ⟨m, List.mem_range.2 hlt, ?_⟩)
  rw [ih f (by omega), h2]
  simp [h1]
theorem InC.of_inB {l : List R} {inos : List Int} : ∀ (f k : Nat), k < l.length → inB l inos f k = true → InC l inos k
 | 0, k, _, h => by simp [inB] at h
 | f + 1, k, hk, h => by
  unfold inB at h
  rw [Bool.or_eq_true] at h
  rcases h with h | h
  · exact .own hk h
  · obtain ⟨m, hm, h1⟩ := List.any_eq_true.1 h
    simp only [Bool.and_eq_true, decide_eq_true_eq] at h1
    exact .on (InC.of_inB f m (List.mem_range.1 hm) h1.1.2) (onL_mem.2 ⟨h1.1.1, h1.2⟩)
theorem inB_iff {l : List R} {inos : List Int} {k : Nat} (hk : k < l.length) : inB l inos l.length k = true ↔ InC l inos k :=
 ⟨InC.of_inB _ k hk, fun h => inB_of h _ (by omega)⟩
def placesL (l : List R) (inos : List Int) : List Nat := (List.range l.length).filter (inB l inos l.length)
theorem mem_places {l : List R} {inos : List Int} {k : Nat} : k ∈ placesL l inos ↔ InC l inos k := by
 unfold placesL
 rw [List.mem_filter, List.mem_range]
 exact ⟨fun h => (inB_iff h.1).1 h.2, fun h => ⟨h.lt, (inB_iff h.lt).2 h⟩⟩
theorem places_rise (l : List R) (inos : List Int) : (placesL l inos).Pairwise (· < ·) := List.Pairwise.filter _ List.pairwise_lt_range
theorem sort_places {es ps : List Nat} (h1 : es.Nodup) (h2 : ps.Pairwise (· < ·)) (hm : ∀ k, k ∈ es ↔ k ∈ ps) : ((es.map fun (n : Nat) => (n : Int)).mergeSort fun x y => decide (x ≤ y)) = ps.map fun (n : Nat) => (n : Int) := by
 have hp : es.Perm ps := (List.perm_ext_iff_of_nodup h1 (h2.imp (fun h => Nat.ne_of_lt h))).2 hm
 refine List.Perm.eq_of_pairwise (le := fun (a b : Int) => a ≤ b) (fun a b _ _ x y => Int.le_antisymm x y) ?_ ?_ ((List.mergeSort_perm _ _).trans (hp.map _))
 · have := List.pairwise_mergeSort (le := fun (x y : Int) => decide (x ≤ y)) (by intro a b c; simp only [decide_eq_true_eq]; omega) (by intro a b; simp only [Bool.or_eq_true, decide_eq_true_eq]; omega) (es.map fun (n : Nat) => (n : Int))
   exact this.imp (fun h => by simpa using h)
 · rw [List.pairwise_map]
   exact h2.imp (fun h => by omega)
def ColP (ks : List Int) (left : Lit → Bool) (es : List Nat) : Prop := es.Nodup ∧ ∀ k : Nat, k ∈ es ↔ (Named ks k ∧ left (.int .i64 (k : Int)) = false)
theorem cntI_some {ks : List Int} {k : Int} : (cntI ks (.int .i64 k)).isSome = true ↔ k ∈ ks := by
 show (if ks.count k = 0 then none else some _ : Option Value).isSome = true ↔ _
 split
 · rename_i h
   rw [List.count_eq_zero] at h
   simp [h]
 · rename_i h
   rw [List.count_eq_zero] at h
   simp at h ⊢
   exact h
theorem ColP.start {ks : List Int} {left : Lit → Bool} (h : ∀ kl, WideAt.IsKeyLit kl → left kl = (cntI ks kl).isSome) : ColP ks left [] := by
 refine ⟨List.nodup_nil, fun k => ⟨fun h => by simp at h, fun ⟨h1, h2⟩ => ?_⟩⟩
 rw [h (.int .i64 (k : Int)) trivial] at h2
 rw [cntI_some.2 h1] at h2
 cases h2
theorem ColP.step {ks : List Int} {left : Lit → Bool} {es : List Nat} {k : Nat} (h : ColP ks left es) (hl : left (.int .i64 (k : Int)) = true) (hk : Named ks k) : ColP ks (fun x => left x && !x.sameKey (.int .i64 (k : Int))) (es ++ [k]) := by
 refine ⟨?_, fun j => ?_⟩
 · rw [List.nodup_append]
   refine ⟨h.1, by simp, fun a ha b hb e => ?_⟩
   simp at hb
   subst hb
   subst e
   have := ((h.2 a).1 ha).2
   rw [hl] at this
   cases this
 · rw [List.mem_append, h.2]
   by_cases e : j = k
   · subst e
     simp [hk, Lit.sameKey]
   · have e2 : ¬ ((j : Int) = (k : Int)) := by omega
     simp [e, e2, Lit.sameKey]
theorem wpList_next_P {ops : Array Oper} {rest : List Oper} {o : Oper} {a : Act} {w : World} {Q : Exit → Act → World → Prop} {b r n cnt : Nat} {ks : List Int} {left : Lit → Bool} (hg : o.guard = none) (it : Operand) (hop : o.op = Op.next it false)
  (hit : a.eval it = .pointer (some ⟨r, 0, none⟩)) (h : RangeAt w Tryz.prog 3 b r n (cntI ks) left cnt) (hks : ∀ x ∈ ks, ∃ k : Nat, x = (k : Int))
  (hDone : (∀ kl, left kl = false) → wpList Tryz.prog ops Q rest (a.put o.dst (.tuple #[.bool false])) w)
  (hMore : ∀ (k c : Nat) (w' : World) (cnt' : Nat), left (.int .i64 (k : Int)) = true → Named ks k → RangeAt w' Tryz.prog 3 b r n (cntI ks) (fun x => left x && !x.sameKey (.int .i64 (k : Int))) cnt' → cnt' < cnt → w.grownBy w' (some r) → w'.heap.size = w.heap.size →
   (Instr.entry (.pointer (some ⟨r, 0, none⟩))).run Tryz.prog w' = .ok (.tuple #[.int .i64 (k : Int), .int .i64 (c : Int)]) w' → wpList Tryz.prog ops Q rest (a.put o.dst (.tuple #[.bool true, .int .i64 (k : Int), .int .i64 (c : Int)])) w') :
  wpList Tryz.prog ops Q (o :: rest) a w := by
 refine wpList_plain hg fun K' hK' => ?_
 unfold Oper.wp
 rcases h.next law64 o.type with ⟨h0, hl, hrun⟩ | ⟨key, v, kl, w', cnt', hkey, hlk, hv, hrun, hrg, hlt, hgr, hsz, hen⟩
 · simp [execOp, hop, hit, hrun, Result.andThen]
   exact hK' _ _ (hDone hl)
 · obtain ⟨k, rfl, rfl, _⟩ := Maps.keyOf_int_inv Tryz.underlying3 hkey
   have hin : k ∈ ks := cntI_some.1 (by rw [hv]; rfl)
   obtain ⟨j, rfl⟩ := hks k hin
   obtain ⟨c, rfl⟩ : ∃ c : Nat, v = .int .i64 (c : Int) := by
    unfold cntI at hv
    simp only at hv
    split at hv
    · cases hv
    · injection hv with hv
      exact ⟨_, hv.symm⟩
   simp [execOp, hop, hit, hrun, Result.andThen]
   exact hK' _ _ (hMore j c w' cnt' hlk hin hrg hlt hgr hsz hen)
section
variable {P' : Program} {k t' e : TypeId} {w : World} {b n : Nat} {m : Lit → Option Value}
theorem MapAt.range2 (h : MapAt w P' k b n m) (K : Keyed P' k) (ht : P'.underlying t' = some (.map k e)) :
  ∃ w' left cnt, (Instr.range t' (.map (some b))).run P' w = .ok (.pointer (some ⟨w.heap.size, 0, none⟩)) w' ∧ RangeAt w' P' k b w.heap.size n m left cnt ∧ cnt ≤ n ∧ (∀ kl, WideAt.IsKeyLit kl → left kl = (m kl).isSome) ∧ Below w.heap.size w w' ∧ w'.heap.size = w.heap.size + 1 := by
 obtain ⟨D, hD, hm⟩ := h
 obtain ⟨w', h1, h2, h3, h4⟩ := hD.range K ht
 exact ⟨w', _, _, h1, ⟨D, h2, hm⟩, hD.size_le, fun kl hk => by rw [ofD_has hD K hk, hm kl hk], ⟨h3.os, h3.tape, h3.output, h3.size, fun i hi => h3.block i hi (by simp)⟩, h4⟩
end
theorem t_sortI (blk cap : Nat) (zs : List Int) (w : World) (hH : Go.Sort.Holds (Value.int .i64) w blk 0 zs.toArray) (hblk : blk < w.heap.size) (hsz : zs.length < 4611686018427387904) :
  Calls Tryz.prog 85 #[.slice (some ⟨blk, 0, none⟩) zs.length cap] w fun e w' => e = .returned (.tuple #[]) ∧ ∃ n os, w' = Go.Sort.grow (Go.Sort.putRow (Value.int .i64) (Go.Sort.ahead w n) blk 0 (zs.mergeSort fun x y => decide (x ≤ y)).toArray) os :=
 Any.slices_Sort_int so blk 0 cap zs w hH hblk hsz
theorem t_sortI0 (p : Option Addr) (cap : Nat) (w : World) : Calls Tryz.prog 85 #[.slice p 0 cap] w fun e w' => e = .returned (.tuple #[]) ∧ w' = w := Any.slices_Sort_int_none so p cap w
end
end Go.Proofs.YtogljgiefmfafaaGreat
