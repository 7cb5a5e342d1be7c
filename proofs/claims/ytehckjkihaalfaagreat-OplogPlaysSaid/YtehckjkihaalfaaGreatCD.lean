/- closure's want: a place counted, and laid into the heap the first time. -/
import Derived.Test.YtehckjkihaalfaaGreatCC
namespace Go.Proofs.YtehckjkihaalfaaGreat
open Go.RowKit Go.Maps

/-- How often each place is named, as a map. -/
def cntI (l : List Int) : Lit → Option Value
  | .int .i64 v => if l.count v = 0 then none else some (.int .i64 ((l.count v : Nat) : Int))
  | _ => none
theorem cntI_get (l : List Int) (v : Int) : (cntI l (.int .i64 v)).getD (.int .i64 0) = .int .i64 ((l.count v : Nat) : Int) := by
  show (if l.count v = 0 then none else some _ : Option Value).getD _ = _
  split
  · rename_i h; rw [h]; rfl
  · rfl
theorem cntI_snoc (l : List Int) (v : Int) : ∀ kl, WideAt.IsKeyLit kl → updM (cntI l) (.int .i64 v) (.int .i64 (((l.count v : Nat) : Int) + 1)) kl = cntI (l ++ [v]) kl := fun kl _ => by
  cases kl with
  | int q a =>
    cases q <;> try (unfold updM; simp [cntI, Lit.sameKey]; done)
    show updM _ _ _ _ = if (l ++ [v]).count a = 0 then none else some _
    unfold updM
    rw [List.count_append]
    by_cases ha : a = v
    · subst ha
      simp [Lit.sameKey]
    · have hz : List.count a [v] = 0 := by rw [List.count_eq_zero]; simpa using ha
      rw [hz]
      simp [Lit.sameKey, ha, cntI]
  | _ => unfold updM; simp [cntI, Lit.sameKey]
theorem zeroI (w : World) : (zeroValue 3).run Tryz.prog w = .ok (.int .i64 0) w := by kernel_rfl
def I64 (k : Int) : Prop := -9223372036854775808 ≤ k ∧ k ≤ 9223372036854775807
theorem cntI_look {W : World} {M N : Nat} {l : List Int} (h : MapAt W Tryz.prog 3 M N (cntI l)) {k : Int} (hk : I64 k) :
    (Instr.lookup 74 (.map (some M)) (.int .i64 k) false).run Tryz.prog W = .ok (.int .i64 ((l.count k : Nat) : Int)) W := by
  have := h.look law64 Tryz.underlying74 (zeroI W) (pkey64 hk)
  rw [cntI_get] at this
  exact this
theorem cntI_turn {W : World} {M N : Nat} {l : List Int} (h : MapAt W Tryz.prog 3 M N (cntI l)) {k : Int} (hk : I64 k) (hN : N < 1000000000) :
    ∃ W', (Instr.mapUpdate 74 (.map (some M)) (.int .i64 k) (.int .i64 (((l.count k : Nat) : Int) + 1))).run Tryz.prog W = .ok () W' ∧ MapAt W' Tryz.prog 3 M (N + 1) (cntI (l ++ [k])) ∧ W.mapTurned W' M := by
  obtain ⟨W', h1, h2, h3⟩ := h.update law64 Tryz.underlying74 (by unfold maxLen; omega) (val := .int .i64 (((l.count k : Nat) : Int) + 1)) (pkey64 hk)
  exact ⟨W', h1, h2.congr (cntI_snoc l k), h3⟩
/-- Below G, and one block besides. -/
def Kg (G : Nat) (g : Option Nat) (b : Nat) : Prop := b < G ∨ g = some b
/-- What closure's in has at hand. -/
structure InAt (w W : World) (Bh Bp M Bw G : Nat) (g : Option Nat) (N : Nat) (l : List Int) (q : List Nat) : Prop where
  map : MapAt W Tryz.prog 3 M N (cntI l)
  boxH : W.heap[Bh]? = some (.cells #[.map (some M)] 74 (0, 0))
  boxP : W.heap[Bp]? = some (.cells #[.pointer (some ⟨Bw, 0, none⟩)] 173 (0, 0))
  want : WantAt W (Kg G g) Bw q
  below : Below w.heap.size w W
  ltM : M < G
  ltH : Bh < G
  ltP : Bp < G
  ltW : Bw < G
  ne1 : Bh ≠ M
  ne2 : Bp ≠ M
  ne3 : Bw ≠ M
  ne4 : Bh ≠ Bw
  ne5 : Bp ≠ Bw
  geM : w.heap.size ≤ M
  geW : w.heap.size ≤ Bw
  len : l.length ≤ N
  base : ∀ b, Kg G g b → b < W.heap.size
  ge : ∀ b, g = some b → G ≤ b
section
variable {w W W' : World} {Bh Bp M Bw G N N' : Nat} {g : Option Nat} {l l' : List Int} {q q' : List Nat}
theorem InAt.turned (h : InAt w W Bh Bp M Bw G g N l q) (hM : MapAt W' Tryz.prog 3 M N' (cntI l')) (ht : W.mapTurned W' M) (hl : l'.length ≤ N') : InAt w W' Bh Bp M Bw G g N' l' q := by
  have hg := ht.grown
  have hb : ∀ b, b < W.heap.size → b ≠ M → W'.heap[b]? = W.heap[b]? := fun b h1 h2 => hg.block b h1 (fun e => h2 (Option.some.inj e))
  have hz := fun b (hb : b < G) => h.base b (.inl hb)
  obtain ⟨A, c, h1, h2⟩ := h.want.row
  refine ⟨hM, (hb _ (hz _ h.ltH) h.ne1).trans h.boxH, (hb _ (hz _ h.ltP) h.ne2).trans h.boxP, ⟨⟨A, c, (hb _ (hz _ h.ltW) h.ne3).trans h1, ?_⟩, h.want.lt⟩, ?_, h.ltM, h.ltH, h.ltP, h.ltW, h.ne1, h.ne2, h.ne3, h.ne4, h.ne5, h.geM, h.geW, hl, fun b hb => Nat.lt_of_lt_of_le (h.base b hb) hg.size, h.ge⟩
  · rcases h2 with h2 | h2
    · refine .inl ⟨h2.1.kept hg ?_, h2.2⟩
      cases hvo : (Value.slice A q.length c).ownBlock with
      | none => exact .inl rfl
      | some x => exact .inr (fun e => by have := Option.some.inj e; exact h2.2 x hvo (.inl (this ▸ h.ltM)))
    · exact .inr h2
  · refine ⟨hg.os.trans h.below.os, hg.tape.trans h.below.tape, hg.output.trans h.below.output, Nat.le_trans h.below.size hg.size, fun c hc2 => ?_⟩
    refine (hb c (Nat.lt_of_lt_of_le hc2 h.below.size) (by have := h.geM; omega)).trans (h.below.block c hc2)
theorem InAt.heaped (h : InAt w W Bh Bp M Bw G g N l q) (hw : WantAt W' (Kg G g) Bw q') (hr : StaysB (Kg G g) Bw W W') : InAt w W' Bh Bp M Bw G g N l q' := by
  refine ⟨h.map.same (hr.old _ ⟨.inl h.ltM, h.ne3.symm⟩), (hr.old _ ⟨.inl h.ltH, h.ne4⟩).trans h.boxH, (hr.old _ ⟨.inl h.ltP, h.ne5⟩).trans h.boxP, hw, ?_, h.ltM, h.ltH, h.ltP, h.ltW, h.ne1, h.ne2, h.ne3, h.ne4, h.ne5, h.geM, h.geW, h.len, fun b hb => Nat.lt_of_lt_of_le (h.base b hb) hr.size, h.ge⟩
  refine ⟨hr.os.trans h.below.os, hr.tape.trans h.below.tape, hr.output.trans h.below.output, Nat.le_trans h.below.size hr.size, fun c hc => ?_⟩
  exact (hr.old c ⟨.inl (by have := h.geM; have := h.ltM; omega), by have := h.geW; omega⟩).trans (h.below.block c hc)
theorem InAt.later (h : InAt w W Bh Bp M Bw G g N l q) (hb : Below W.heap.size W W') : InAt w W' Bh Bp M Bw G g N l q := h.heaped (h.want.same hb) (Stays.belowB hb h.base)
theorem InAt.mono (h : InAt w W Bh Bp M Bw G g N l q) {N' : Nat} (hn : N ≤ N') : InAt w W Bh Bp M Bw G g N' l q :=
  ⟨h.map.mono hn, h.boxH, h.boxP, h.want, h.below, h.ltM, h.ltH, h.ltP, h.ltW, h.ne1, h.ne2, h.ne3, h.ne4, h.ne5, h.geM, h.geW, Nat.le_trans h.len hn, h.base, h.ge⟩
/-- A new block is set under guard. -/
theorem InAt.guard (h : InAt w W Bh Bp M Bw G none N l q) (hb : Below W.heap.size W W') {x : Option Nat} (h1 : ∀ b, x = some b → W.heap.size ≤ b ∧ b < W'.heap.size) : InAt w W' Bh Bp M Bw G x N l q := by
  have h' := h.later hb
  obtain ⟨A, c, k1, k2⟩ := h.want.row
  refine ⟨h'.map, h'.boxH, h'.boxP, ⟨⟨A, c, (hb.block _ (lt_heap k1)).trans k1, ?_⟩, .inl h.ltW⟩, h'.below, h'.ltM, h'.ltH, h'.ltP, h'.ltW, h'.ne1, h'.ne2, h'.ne3, h'.ne4, h'.ne5, h'.geM, h'.geW, h'.len, fun b hk => ?_, fun b hb => ?_⟩
  · rcases k2 with k2 | k2
    · refine .inl ⟨row_below k2.1 hb, fun q hq hk => ?_⟩
      rcases hk with hk | hk
      · exact k2.2 q hq (.inl hk)
      · have h3 := (k2.1.lt q hq).2
        have h4 := (h1 q hk).1
        omega
    · exact .inr k2
  · rcases hk with hk | hk
    · exact h'.base b (.inl hk)
    · exact (h1 b hk).2
  · have h3 := (h1 b hb).1
    have h4 := h.base (G - 1) (.inl (by have := h.ltM; omega))
    omega
theorem InAt.free (h : InAt w W Bh Bp M Bw G g N l q) : InAt w W Bh Bp M Bw G none N l q := by
  obtain ⟨A, c, k1, k2⟩ := h.want.row
  refine ⟨h.map, h.boxH, h.boxP, ⟨⟨A, c, k1, k2.elim (fun k2 => .inl ⟨k2.1, fun q hq hk => k2.2 q hq (hk.elim .inl (fun e => by cases e))⟩) .inr⟩, .inl h.ltW⟩, h.below, h.ltM, h.ltH, h.ltP, h.ltW, h.ne1, h.ne2, h.ne3, h.ne4, h.ne5, h.geM, h.geW, h.len, fun b hk => h.base b (hk.elim .inl (fun e => by cases e)), fun b hb => by cases hb⟩
set_option maxRecDepth 100000 in
set_option maxHeartbeats 4000000 in
theorem t_want (h : InAt w W Bh Bp M Bw G g N l q) (k : Nat) (hk : k ≤ 60000) (hN : N < 100000000) (hq : q.length ≤ 40000) :
    Calls Tryz.prog 121 #[.int .i64 (k : Int), .pointer (some ⟨Bh, 0, none⟩), .pointer (some ⟨Bp, 0, none⟩)] W fun e W' => e = .returned (.tuple #[]) ∧ (∃ q', q'.Perm (if l.count (k : Int) = 0 then k :: q else q) ∧ InAt w W' Bh Bp M Bw G g (N + 1) (l ++ [(k : Int)]) q') ∧ (∀ x, g = some x → W'.heap[x]? = W.heap[x]?) := by
  have hkk : I64 (k : Int) := ⟨by omega, by omega⟩
  have hlk := cntI_look h.map hkk
  obtain ⟨W1, hup, hM, ht⟩ := cntI_turn h.map hkk (by omega)
  have hlk1 := cntI_look hM hkk
  have HI := Lib.hid (h.turned hM ht (by simpa using h.len))
  have cH := box_cell h.boxH
  have cP := box_cell h.boxP
  have cH1 := box_cell HI.out.boxH
  have cP1 := box_cell HI.out.boxP
  have hcl : l.count (k : Int) ≤ 100000000 := Nat.le_trans List.count_le_length (by have := h.len; omega)
  obtain ⟨cc, hcc⟩ : ∃ cc, l.count (k : Int) = cc := ⟨_, rfl⟩
  have hc1 : (l ++ [(k : Int)]).count (k : Int) = cc + 1 := by rw [List.count_append, hcc]; simp
  rw [hcc] at hlk hup hcl ⊢
  rw [hc1] at hlk1
  have HG : Hid (∀ x, g = some x → W1.heap[x]? = W.heap[x]?) := fun x hx => ht.grown.block x (h.base x (.inr hx)) (fun e => by
    have h1 : x = M := Option.some.inj e
    have := h.ge x hx
    have := h.ltM
    omega)
  have HG2 : Hid (∀ x, g = some x → x ≠ Bw) := fun x hx => by
    have := h.ge x hx
    have := h.ltW
    omega
  clear hM ht hc1 hcc h
  by_cases h0 : cc = 0
  · subst h0
    have hup2 : (Instr.mapUpdate 74 (.map (some M)) (.int .i64 (k : Int)) (.int .i64 1)).run Tryz.prog W = .ok () W1 := hup
    have hlk2 : (Instr.lookup 74 (.map (some M)) (.int .i64 (k : Int)) false).run Tryz.prog W1 = .ok (.int .i64 1) W1 := hlk1
    clear hup hlk1
    have HPU := Lib.hid (t_hPush (Kg G g) Bw q k W1 HI.out.want hq HI.out.base)
    go_enter Tryz.func121, Tryz.ntmps121
    go_wp2_with (go_at_call 54; (with_reducible refine HPU.out.mono ?_); rintro e w2 ⟨rfl, q', h1, h2, h3⟩; have HP := Lib.hid (And.intro h1 (And.intro h2 h3)); clear h1 h2 h3)
    go_end0
    exact ⟨rfl, ⟨q', HP.out.1, HI.out.heaped HP.out.2.1 HP.out.2.2⟩, fun x hx => (HP.out.2.2.old x ⟨.inr hx, HG2.out x hx⟩).trans (HG.out x hx)⟩
  · rw [if_neg h0]
    have hne : ((cc : Int) + 1 == 1) = false := by simp; omega
    go_enter Tryz.func121, Tryz.ntmps121
    go_wp2
    go_end0
    exact ⟨rfl, ⟨q, List.Perm.refl _, HI.out⟩, HG.out⟩
end
/-- The places of the closure. -/
inductive InC (l : List R) (inos : List Int) : Nat → Prop
  | own {k : Nat} : k < l.length → writesB (rAt l k) inos = true → InC l inos k
  | on {m k : Nat} : InC l inos m → k ∈ onL l m → InC l inos k
theorem onL_mem {l : List R} {m k : Nat} : k ∈ onL l m ↔ k < m ∧ meetB (rAt l k) (rAt l m) = true := by
  unfold onL
  rw [List.mem_filter, List.mem_range]
theorem InC.lt {l : List R} {inos : List Int} {k : Nat} (h : InC l inos k) : k < l.length := by
  induction h with
  | own h _ => exact h
  | on _ hk ih => exact Nat.lt_trans (onL_mem.1 hk).1 ih
/-- A place was named. -/
def Named (c : List Int) (k : Nat) : Prop := (k : Int) ∈ c
/-- What has been named, what still lies in the heap, what was taken. -/
structure Found (l : List R) (inos : List Int) (c : List Int) (q done : List Nat) : Prop where
  nat : ∀ x ∈ c, ∃ k : Nat, x = (k : Int) ∧ InC l inos k
  nodup : (q ++ done).Nodup
  mem : ∀ k : Nat, k ∈ q ++ done ↔ Named c k
theorem Found.start (l : List R) (inos : List Int) : Found l inos [] [] [] := ⟨fun x hx => by simp at hx, List.nodup_nil, fun k => by simp [Named]⟩
theorem Found.want {l : List R} {inos : List Int} {c : List Int} {q q' done : List Nat} {k : Nat} (h : Found l inos c q done) (hk : InC l inos k) (hq : q'.Perm (if c.count (k : Int) = 0 then k :: q else q)) : Found l inos (c ++ [(k : Int)]) q' done := by
  have hn : c.count (k : Int) = 0 ↔ ¬ k ∈ q ++ done := by rw [List.count_eq_zero, h.mem]; rfl
  have hmem : ∀ j : Nat, Named (c ++ [(k : Int)]) j ↔ Named c j ∨ j = k := fun j => by
    unfold Named
    rw [List.mem_append, List.mem_singleton]
    constructor
    · rintro (h | h)
      · exact .inl h
      · exact .inr (by omega)
    · rintro (h | h)
      · exact .inl h
      · exact .inr (by omega)
  refine ⟨fun x hx => ?_, ?_, fun j => ?_⟩
  · rcases List.mem_append.1 hx with hx | hx
    · exact h.nat x hx
    · rw [List.mem_singleton] at hx
      exact ⟨k, hx, hk⟩
  · split at hq
    · rename_i h0
      have hp : (q' ++ done).Perm (k :: (q ++ done)) := hq.append_right done
      exact hp.nodup_iff.2 (List.nodup_cons.2 ⟨hn.1 h0, h.nodup⟩)
    · exact (hq.append_right done).nodup_iff.2 h.nodup
  · rw [hmem]
    split at hq
    · have hp : (q' ++ done).Perm (k :: (q ++ done)) := hq.append_right done
      rw [hp.mem_iff, List.mem_cons, h.mem]
      exact Or.comm
    · rename_i h0
      have hp : (q' ++ done).Perm (q ++ done) := hq.append_right done
      rw [hp.mem_iff, h.mem]
      constructor
      · exact .inl
      · rintro (h1 | h1)
        · exact h1
        · subst h1
          rw [← h.mem]
          exact Decidable.by_contra fun hh => h0 (hn.2 hh)
theorem Found.pop {l : List R} {inos : List Int} {c : List Int} {q q' done : List Nat} {x : Nat} (h : Found l inos c q done) (hq : (x :: q').Perm q) : Found l inos c q' (x :: done) := by
  have hp : (q' ++ x :: done).Perm (q ++ done) := (List.perm_middle (l₁ := q') (l₂ := done)).trans (hq.append_right done)
  exact ⟨h.nat, hp.nodup_iff.2 h.nodup, fun k => by rw [hp.mem_iff, h.mem]⟩
theorem Found.lt {l : List R} {inos : List Int} {c : List Int} {q done : List Nat} (h : Found l inos c q done) : ∀ k ∈ q ++ done, InC l inos k := fun k hk => by
  obtain ⟨j, h1, h2⟩ := h.nat _ ((h.mem k).1 hk)
  have : k = j := by omega
  rw [this]
  exact h2
theorem nodup_le : ∀ (n : Nat) (l : List Nat), l.Nodup → (∀ k ∈ l, k < n) → l.length ≤ n
  | 0, l, _, h2 => by
    cases l with
    | nil => exact Nat.le_refl _
    | cons a l => exact absurd (h2 a (by simp)) (by omega)
  | n + 1, l, h1, h2 => by
    by_cases hn : n ∈ l
    · have h3 := nodup_le n (l.erase n) (h1.erase n) fun k hk => by
        have h4 := h2 k (List.mem_of_mem_erase hk)
        have h5 : k ≠ n := fun e => by
          rw [e] at hk
          exact h1.not_mem_erase hk
        omega
      rw [List.length_erase_of_mem hn] at h3
      omega
    · have h3 := nodup_le n l h1 fun k hk => by
        have h4 := h2 k hk
        have h5 : k ≠ n := fun e => hn (e ▸ hk)
        omega
      omega
theorem Found.len {l : List R} {inos : List Int} {c : List Int} {q done : List Nat} (h : Found l inos c q done) : q.length + done.length ≤ l.length := by
  have := nodup_le l.length _ h.nodup fun k hk => (h.lt k hk).lt
  rw [List.length_append] at this
  exact this
/-- The heap is empty: all of it was found. -/
theorem Found.all {l : List R} {inos : List Int} {c : List Int} {done : List Nat} (h : Found l inos c [] done) (h1 : ∀ k, k < l.length → writesB (rAt l k) inos = true → Named c k) (h2 : ∀ m ∈ done, ∀ k ∈ onL l m, Named c k) : ∀ k : Nat, Named c k ↔ InC l inos k := fun k => by
  constructor
  · intro hk
    exact h.lt k ((h.mem k).2 hk)
  · intro hk
    induction hk with
    | own a b => exact h1 _ a b
    | on _ hm ih =>
      have := (h.mem _).2 ih
      rw [List.nil_append] at this
      exact h2 _ this _ hm
end Go.Proofs.YtehckjkihaalfaaGreat
