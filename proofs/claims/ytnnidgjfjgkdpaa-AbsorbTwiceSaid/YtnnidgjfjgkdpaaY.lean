/- Trees as the document has them: entries are put in, and taken out. -/
import Derived.Test.YtnnidgjfjgkdpaaX
namespace Go.Proofs.Ytnnidgjfjgkdpaa
open Go.RowKit

theorem row_base0' {w : World} {base n size : Nat} {e : TypeId} {v : Value} {xs : List Value} (h : w.ownsRow base e size v n xs) : w.ownsRow 0 e size v n xs := by
  rcases h.2 with ⟨rfl, h0⟩ | ⟨g, cap, cur, rfl, _, hh⟩
  · exact ⟨h.1, .inl ⟨rfl, h0⟩⟩
  · exact ⟨h.1, .inr ⟨g, cap, cur, rfl, Nat.zero_le _, hh⟩⟩
/-- Entries' cells, wherever they lie. -/
def EReads (w : World) (A : Option Addr) (m : Nat) (es : List Ent) : Prop :=
  es.length = m ∧ (0 < m → ∃ b o, A = some ⟨b, o, none⟩ ∧ ∀ j u, (entCells es)[j]? = some u → w.cell? ⟨b, o + j, none⟩ = some u)
theorem EReads.cells {w : World} {A : Option Addr} {m : Nat} {es : List Ent} (h : EReads w A m es) (ad : Addr) (hA : A = some ad) : ∀ j u, (entCells es)[j]? = some u → w.cell? (ad.add j) = some u := by
  intro j u hu
  rcases Nat.eq_zero_or_pos m with h0 | h0
  · have hn : es = [] := List.eq_nil_of_length_eq_zero (by rw [h.1, h0])
    subst hn
    simp [entCells] at hu
  · obtain ⟨b, o, h, hc⟩ := h.2 h0
    rw [hA] at h
    injection h with h
    subst h
    have := hc j u hu
    unfold Addr.add; split
    · rename_i h0; subst h0; exact this
    · exact this
theorem EntsAt.reads {w : World} {A : Option Addr} {n c : Nat} {l : List Ent} (h : EntsAt w (.slice A n c) l) : n = l.length ∧ EReads w A l.length l := by
  rcases h.2 with ⟨hv, h0⟩ | ⟨g, cap, cur, hv, _, hg, hc1, hc2, hc3, hc4⟩
  · injection hv with e1 e2 e3
    exact ⟨by omega, rfl, fun hp => absurd hp (by omega)⟩
  · injection hv with e1 e2 e3
    subst e1 e2 e3
    refine ⟨rfl, rfl, fun _ => ⟨g, 0, rfl, fun j u hj => ?_⟩⟩
    rw [← hc4] at hj
    have hl : j < l.length * 2 := by
      by_cases hh : j < l.length * 2
      · exact hh
      · rw [List.getElem?_eq_none (by rw [List.length_take]; omega)] at hj; cases hj
    rw [List.getElem?_take_of_lt hl] at hj
    simp only [World.cell?, hg, Nat.zero_add]
    rw [← hj]; simp
theorem EntsAt.form {w : World} {A : Option Addr} {n c : Nat} {l : List Ent} (h : EntsAt w (.slice A n c) l) : (A = none ∧ c = 0) ∨ ∃ b, A = some ⟨b, 0, none⟩ := by
  rcases h.2 with ⟨hv, h0⟩ | ⟨g, cap, cur, hv, _⟩
  · injection hv with e1 e2 e3; exact .inl ⟨e1, e3⟩
  · injection hv with e1 e2 e3; exact .inr ⟨g, e1⟩
theorem EReads.below {w w' : World} {A : Option Addr} {m : Nat} {es : List Ent} (h : EReads w A m es) (hb : Below w.heap.size w w') : EReads w' A m es :=
  ⟨h.1, fun h0 => by
    obtain ⟨b, o, hA, hc⟩ := h.2 h0
    exact ⟨b, o, hA, fun j u hj => by
      have := hc j u hj
      exact (World.cell?_of_block (hb.block b (World.block_lt_of_cell? w _ this))).trans this⟩⟩
theorem EReads.alloc {w : World} {A : Option Addr} {m : Nat} {es : List Ent} (h : EReads w A m es) (o : Obj) : EReads (w.alloc o) A m es := h.below ((Below.refl _ _).alloc (Nat.le_refl _) _)
theorem entCells_take (l : List Ent) (k : Nat) : entCells (l.take k) = (entCells l).take (k * 2) := by
  induction l generalizing k with
  | nil => simp [entCells]
  | cons x l ih =>
    cases k with
    | zero => simp [entCells]
    | succ k =>
      unfold entCells at *
      rw [List.take_succ_cons, List.flatMap_cons, List.flatMap_cons, ih, show (k + 1) * 2 = x.cells.length + k * 2 by simp [Ent.cells]; omega, List.take_length_add_append]
theorem entCells_drop (l : List Ent) (k : Nat) : entCells (l.drop k) = (entCells l).drop (k * 2) := by
  induction l generalizing k with
  | nil => simp [entCells]
  | cons x l ih =>
    cases k with
    | zero => simp [entCells]
    | succ k =>
      unfold entCells at *
      rw [List.drop_succ_cons, List.flatMap_cons, ih, show (k + 1) * 2 = x.cells.length + k * 2 by simp [Ent.cells]; omega, List.drop_length_add_append]
theorem EReads.take {w : World} {A : Option Addr} {m : Nat} {es : List Ent} (h : EReads w A m es) (k : Nat) (hk : k ≤ m) : EReads w A k (es.take k) :=
  ⟨by rw [List.length_take, h.1]; omega, fun h0 => by
    obtain ⟨b, o, hA, hc⟩ := h.2 (by omega)
    refine ⟨b, o, hA, fun j u hj => hc j u ?_⟩
    rw [entCells_take] at hj
    have hl : j < k * 2 := by
      by_cases hh : j < k * 2
      · exact hh
      · rw [List.getElem?_eq_none (by rw [List.length_take]; omega)] at hj; cases hj
    rwa [List.getElem?_take_of_lt hl] at hj⟩
theorem EReads.drop {w : World} {A : Option Addr} {m : Nat} {es : List Ent} (h : EReads w A m es) (k : Nat) (hk : k ≤ m) : EReads w (A.map (·.add (k * 2))) (m - k) (es.drop k) :=
  ⟨by rw [List.length_drop, h.1], fun h0 => by
    obtain ⟨b, o, hA, hc⟩ := h.2 (by omega)
    subst hA
    refine ⟨b, o + k * 2, ?_, fun j u hj => ?_⟩
    · simp only [Option.map_some, Addr.add]
      split
      · rename_i h; rw [h, Nat.add_zero]
      · rfl
    · rw [entCells_drop, List.getElem?_drop] at hj
      have := hc _ u hj
      rwa [show o + (k * 2 + j) = o + k * 2 + j by omega] at this⟩
theorem EReads.drop0 {w : World} {b : Nat} {m : Nat} {es : List Ent} (h : EReads w (some ⟨b, 0, none⟩) m es) (k : Nat) (hk : k ≤ m) : EReads w (some ⟨b, k * 2, none⟩) (m - k) (es.drop k) := by
  have := h.drop k hk
  have e : (some (⟨b, 0, none⟩ : Addr)).map (·.add (k * 2)) = some ⟨b, k * 2, none⟩ := by
    simp only [Option.map_some, Addr.add]
    split
    · rename_i h; rw [h]
    · simp
  rwa [e] at this
theorem EReads.nil (w : World) (A : Option Addr) (m : Nat) (es : List Ent) (hm : m = 0) (he : es = []) : EReads w A m es := ⟨by rw [he, hm]; rfl, fun h => absurd h (by omega)⟩
theorem EntsAt.of_own {w : World} {base k : Nat} {v : Value} {l : List Ent} (h : w.ownsRow base 96 2 v k (entCells l)) (hk : l.length = k) : EntsAt w v l := by
  unfold EntsAt; rw [hk]; exact row_base0' h
theorem EReads.one (w : World) (e : Ent) : EReads (w.alloc (.cells #[.string e.name, .int .u32 e.ino] 96)) (some ⟨w.heap.size, 0, none⟩) 1 [e] :=
  ⟨rfl, fun _ => ⟨w.heap.size, 0, rfl, fun j u hj => by
    match j, hj with
    | 0, hj => simp [entCells, Ent.cells] at hj; subst hj; simp [go_sem]
    | 1, hj => simp [entCells, Ent.cells] at hj; subst hj; simp [go_sem]
    | j + 2, hj => simp [entCells, Ent.cells] at hj⟩⟩

def noEnt : Ent := ⟨ByteArray.empty, 0⟩
theorem infoE : ∃ i, Try.prog.info? 96 = some i ∧ i.zero = some (.agg #[.string ByteArray.empty, .int .u32 0]) ∧ i.size = 2 ∧ i.bytes = 24 := info_parts (by kernel_rfl)
theorem run_append_none_e (base ty : Nat) (w : World) (v : Value) (n : Nat) (xs : List Value) (hown : w.ownsRow base 96 2 v n xs) (c : Nat) : (Builtin.append_ #[65, 65] ty #[v, .slice none 0 c]).run Try.prog w = .ok v w := by
  obtain ⟨i0, hi, hz0, hz1, hz2⟩ := infoE
  rcases hown.2 with ⟨rfl, rfl⟩ | ⟨g, cap, cur, rfl, _, _, hnc, _⟩
  · simp [Builtin.append_, run_underlying Try.underlying65, sizeOf, typeInfo, hi, Builtin.lenOf, Builtin.firstCells]
  · simp [Builtin.append_, run_underlying Try.underlying65, sizeOf, typeInfo, hi, Builtin.lenOf, Builtin.firstCells, hnc, storeCells]
theorem entCells_one (rs : List Ent) : ∀ u ∈ entCells rs, u.oneCell' = true := by
  intro u hu
  unfold entCells at hu
  obtain ⟨r, _, hr⟩ := List.mem_flatMap.1 hu
  simp only [Ent.cells, List.mem_cons, List.not_mem_nil, or_false] at hr
  rcases hr with rfl | rfl <;> rfl
theorem row_slice {w : World} {base n size : Nat} {e : TypeId} {v : Value} {xs : List Value} (h : w.ownsRow base e size v n xs) : ∃ A c, v = .slice A n c := by
  rcases h.2 with ⟨rfl, rfl⟩ | ⟨g, cap, cur, rfl, _⟩
  · exact ⟨none, 0, rfl⟩
  · exact ⟨_, _, rfl⟩
theorem row_base0 {w : World} {base base' n size : Nat} {e : TypeId} {v : Value} {xs : List Value} (h : w.ownsRow base' e size v n xs) (hb : base ≤ base') : w.ownsRow base e size v n xs := by
  rcases h.2 with ⟨rfl, h0⟩ | ⟨g, cap, cur, rfl, hg, hh⟩
  · exact ⟨h.1, .inl ⟨rfl, h0⟩⟩
  · exact ⟨h.1, .inr ⟨g, cap, cur, rfl, by omega, hh⟩⟩
theorem row_from {w : World} {base n size : Nat} {e : TypeId} {v : Value} {xs : List Value} (h : w.ownsRow base e size v n xs) : ∀ q, v.ownBlock = some q → base ≤ q := fun q hq => by
  rcases h.2 with ⟨rfl, _⟩ | ⟨g, cap, cur, rfl, hb, _⟩
  · simp [Value.ownBlock] at hq
  · simp [Value.ownBlock] at hq; omega

/-- One row of entries appended to a row of the call's own. -/
theorem run_append_ents (base ty : Nat) (w : World) (v : Value) (n : Nat) (xs : List Ent) (hown : w.ownsRow base 96 2 v n (entCells xs)) (A : Option Addr) (m c : Nat) (news : List Ent) (hr : EReads w A m news)
    (hnm : n + m ≤ 1000000) (hbase : base ≤ w.heap.size) :
    ∃ v' w', (Builtin.append_ #[65, 65] ty #[v, .slice A m c]).run Try.prog w = .ok v' w' ∧ w'.ownsRow base 96 2 v' (n + m) (entCells (xs ++ news)) ∧ w.grownBy w' v.ownBlock := by
  obtain ⟨i0, hi, hz0, hz1, hz2⟩ := infoE
  by_cases hA : A = none
  · subst hA
    have hm : m = 0 := by
      rcases Nat.eq_zero_or_pos m with h0 | h0
      · exact h0
      · obtain ⟨_, _, h, _⟩ := hr.2 h0; cases h
    subst hm
    have hn : news = [] := List.eq_nil_of_length_eq_zero hr.1
    subst hn
    exact ⟨v, w, run_append_none_e base ty w v n _ hown c, by simpa using hown, World.grownBy.refl w _⟩
  · obtain ⟨ad, rfl⟩ := Option.ne_none_iff_exists'.1 hA
    obtain ⟨v', w', hrun, h2, h3, _, _⟩ := run_append_own_at (P := Try.prog) w base 65 ty 96 i0 _ 2 24 Try.underlying65 hi hz0 hz1 hz2 rfl (by decide) v n (entCells xs) hown ad m c (entCells news)
      (by rw [entCells_length, hr.1]) (hr.cells ad rfl) (entCells_one _) (by unfold maxLen; omega) (by omega) hbase
    exact ⟨v', w', hrun, by rw [entCells_append]; exact h2, h3⟩
theorem wp_append_ents {o : Oper} {a : Act} {K : Act → World → Prop} {Q : Exit → Act → World → Prop} {w : World} (s x : Operand)
    (ho : o.op = .call { callee := .builtin .append, args := #[s, x], argTypes := #[65, 65] })
    (base : Nat) (v : Value) (n : Nat) (xs : List Ent) (hs : a.eval s = v) (hown : w.ownsRow base 96 2 v n (entCells xs))
    (A : Option Addr) (m c : Nat) (news : List Ent) (hx : a.eval x = .slice A m c) (hr : EReads w A m news) (k : Nat) (hk : n + m = k) (ys : List Ent) (hys : xs ++ news = ys) (hnm : k ≤ 1000000) (hbase : base ≤ w.heap.size)
    (h : ∀ A1 c1 w', w'.ownsRow base 96 2 (.slice A1 k c1) k (entCells ys) → Below base w w' → K (a.put o.dst (.slice A1 k c1)) w') : o.wp Try.prog a w K Q := by
  subst hk; subst hys
  obtain ⟨v', w', hrun, h2, h3⟩ := run_append_ents base o.type w v n xs hown A m c news hr hnm hbase
  unfold Oper.wp execOp
  simp only [ho, resolve, invoke, builtin, Sem.run_bind, Sem.run_pure, Result.andThen_ok, List.map_toArray, List.map_cons, List.map_nil, hs, hx, hrun]
  obtain ⟨A1, c1, rfl⟩ := row_slice h2
  exact h A1 c1 w' h2 ((Below.refl _ _).grown h3 hbase (fun q hq => row_from hown q hq))
theorem wpList_append_ents {ops : Array Oper} {rest : List Oper} {o : Oper} {a : Act} {Q : Exit → Act → World → Prop} {w : World} (hgd : o.guard = none) (s x : Operand)
    (ho : o.op = .call { callee := .builtin .append, args := #[s, x], argTypes := #[65, 65] })
    (base : Nat) (v : Value) (n : Nat) (xs : List Ent) (hs : a.eval s = v) (hown : w.ownsRow base 96 2 v n (entCells xs))
    (A : Option Addr) (m c : Nat) (news : List Ent) (hx : a.eval x = .slice A m c) (hr : EReads w A m news) (k : Nat) (hk : n + m = k) (ys : List Ent) (hys : xs ++ news = ys) (hnm : k ≤ 1000000) (hbase : base ≤ w.heap.size)
    (h : ∀ A1 c1 w', w'.ownsRow base 96 2 (.slice A1 k c1) k (entCells ys) → Below base w w' → wpList Try.prog ops Q rest (a.put o.dst (.slice A1 k c1)) w') :
    wpList Try.prog ops Q (o :: rest) a w :=
  wpList_plain hgd fun _ hK => wp_append_ents s x ho base v n xs hs hown A m c news hx hr k hk ys hys hnm hbase fun A1 c1 w' h2 h3 => hK _ _ (h A1 c1 w' h2 h3)
theorem step_append_ents {ops : Array Oper} {o : Oper} {a : Act} {K : Act → World → Prop} {Q : Exit → Act → World → Prop} {E : Prop} {w : World} (hgd : o.guard = none) (s x : Operand)
    (ho : o.op = .call { callee := .builtin .append, args := #[s, x], argTypes := #[65, 65] })
    (base : Nat) (v : Value) (n : Nat) (xs : List Ent) (hs : a.eval s = v) (hown : w.ownsRow base 96 2 v n (entCells xs))
    (A : Option Addr) (m c : Nat) (news : List Ent) (hx : a.eval x = .slice A m c) (hr : EReads w A m news) (k : Nat) (hk : n + m = k) (ys : List Ent) (hys : xs ++ news = ys) (hnm : k ≤ 1000000) (hbase : base ≤ w.heap.size)
    (h : ∀ A1 c1 w', w'.ownsRow base 96 2 (.slice A1 k c1) k (entCells ys) → Below base w w' → K (a.put o.dst (.slice A1 k c1)) w') :
    if Region.wanted o (yielded ops a.tmps) = true then Oper.wp Try.prog o a w K Q else E := by
  have hw : Region.wanted o (yielded ops a.tmps) = true := by simp [Region.wanted, hgd]
  rw [if_pos hw]
  exact wp_append_ents s x ho base v n xs hs hown A m c news hx hr k hk ys hys hnm hbase h

/-- One name stands ahead of another. -/
def ltN (a b : ByteArray) : Bool := Op.bytesLess a.toList b.toList
/-- Where a name goes. -/
def addPos : List Ent → ByteArray → Nat
  | [], _ => 0
  | e :: l, s => if ltN e.name s then addPos l s + 1 else 0
def addL (l : List Ent) (e : Ent) : List Ent := l.take (addPos l e.name) ++ [e] ++ l.drop (addPos l e.name)
theorem addPos_le : ∀ (l : List Ent) (s : ByteArray), addPos l s ≤ l.length
  | [], _ => Nat.le_refl _
  | e :: l, s => by
    unfold addPos
    split
    · have := addPos_le l s; simp; omega
    · exact Nat.zero_le _
theorem addPos_lt : ∀ (l : List Ent) (s : ByteArray) (k : Nat) (e : Ent), k ≤ addPos l s → l[k]? = some e → (ltN e.name s = true ↔ k + 1 ≤ addPos l s)
  | [], _, _, _, _, h => by simp at h
  | x :: l, s, 0, e, _, h => by
    simp at h; subst h
    unfold addPos
    split
    · rename_i hh; simp [hh]
    · rename_i hh; simp [hh]
  | x :: l, s, k + 1, e, hk, h => by
    unfold addPos at hk ⊢
    split at hk
    · rename_i hh
      rw [if_pos hh]
      have := addPos_lt l s k e (by omega) (by simpa using h)
      rw [this]; omega
    · omega

set_option maxRecDepth 100000 in
set_option maxHeartbeats 4000000 in
theorem t_add (P G : Nat) (t : Tr) (ino : Int) (s : ByteArray) (x : Int) (w : World) (h : TreeAt w P G t) (h1 : 1 ≤ ino) (h2 : ino ≤ t.length) (hsm : Small t) :
    Calls Try.prog 41 #[.pointer (some ⟨P, 0, none⟩), .int .u32 ino, .string s, .int .u32 x] w fun e w' => e = .returned (.tuple #[]) ∧ TreeAt w' P G (setNd t ino { ndAt t ino with l := addL (ndAt t ino).l ⟨s, x⟩ }) ∧ w.grownBy w' (some G) := by
  have hs := h.small
  obtain ⟨c, hc1, hc2, hc⟩ := h.cell0
  obtain ⟨_, ⟨v, g1, hv1⟩, _⟩ := h.get (h.idx h1 h2)
  obtain ⟨A, c1, rfl, hcl, hcm, hread⟩ := hv1.get
  have hls := hsm.nd (h.idx h1 h2)
  have HE := Lib.hid hv1.reads.2
  have HFm := Lib.hid hv1.form
  obtain ⟨l, hl⟩ : ∃ l, (nd t (ino.toNat - 1)).l = l := ⟨_, rfl⟩
  have HL := Lib.hid hl
  rw [hl] at g1 hcl hread hls HE
  have HR := Lib.hid hread
  clear hread hl hv1
  unfold maxLen at hc2 hcm
  obtain ⟨p, hp⟩ : ∃ p, addPos l s = p := ⟨_, rfl⟩
  have hpl : p ≤ l.length := by rw [← hp]; exact addPos_le _ _
  have HP := Lib.hid hp
  clear hp
  go_enter Try.func41, Try.ntmps41
  go_wp2
  go_loop [9] (fun i => ∃ j : Nat, j ≤ p ∧ i = .int .i64 j) (fun i => p + 1 - (intOf i).toNat)
  case atStart => exact ⟨0, Nat.zero_le _, rfl⟩
  case round =>
    obtain ⟨j, hj, rfl⟩ := hrel
    by_cases hjp : j < p
    · obtain ⟨bb, rfl, e1, e2⟩ := HR.out j _ (List.getElem?_eq_getElem (by omega))
      have hlt : Op.bytesLess (l[j]'(by omega)).name.toList s.toList = true := (addPos_lt l s j _ (by rw [HP.out]; omega) (List.getElem?_eq_getElem (by omega))).2 (by rw [HP.out]; omega)
      have hjl : j < l.length := by omega
      go_wp2
      go_round
      case rel => exact ⟨j + 1, by omega, by go_num⟩
      case measure => simp [intOf]; omega
    · obtain rfl : j = p := by omega
      have Hfin : Hid (setNd t ino { ndAt t ino with l := l.take j ++ [⟨s, x⟩] ++ l.drop j } = setNd t ino { ndAt t ino with l := addL (ndAt t ino).l ⟨s, x⟩ }) := by
        show _ = _
        rw [show (ndAt t ino).l = l from HL.out]; unfold addL; rw [HP.out]
      by_cases hjl : j < l.length
      · obtain ⟨bb, rfl, e1, e2⟩ := HR.out j _ (List.getElem?_eq_getElem (by omega))
        have hlt : Op.bytesLess (l[j]'(by omega)).name.toList s.toList = false := by
          have := addPos_lt l s j _ (by rw [HP.out]; omega) (List.getElem?_eq_getElem hjl)
          rw [HP.out] at this
          cases hq : ltN l[j].name s with
          | false => exact hq
          | true => have := this.1 hq; omega
        go_wp2_with (first
          | (at_builtin; refine wpList_append_ents rfl (.const (.slice none 0 0)) (.tmp 37) rfl w.heap.size (.slice none 0 0) 0 [] rfl (World.ownsRow_nil _ _ _ _) _ j _ (l.take j) rfl (HE.out.take j hpl) j (by omega) (l.take j) rfl (by omega) (Nat.le_refl _) ?_; intro A1 c2 w1 hown1 hb1; have HO1 := Lib.hid hown1; have HB1 := Lib.hid hb1; clear hown1 hb1)
          | (at_builtin; refine wpList_append_ents rfl (.tmp 38) (.tmp 42) rfl w.heap.size (.slice A1 j c2) j (l.take j) rfl (HO1.out.alloc _) _ 1 _ [⟨s, x⟩] rfl (EReads.one w1 ⟨s, x⟩) (j + 1) rfl (l.take j ++ [⟨s, x⟩]) rfl (by omega) (by have := HB1.out.size; simp; omega) ?_; intro A2 c3 w2 hown2 hb2; have HO2 := Lib.hid hown2; have HB2 := Lib.hid ((HB1.out.alloc HB1.out.size _).trans hb2); clear hown2 hb2 HO1)
          | (at_builtin; refine wpList_append_ents rfl (.tmp 46) (.tmp 49) rfl w.heap.size (.slice A2 (j + 1) c3) (j + 1) (l.take j ++ [⟨s, x⟩]) rfl HO2.out _ (l.length - j) _ (l.drop j) rfl ((HE.out.below HB2.out).drop0 j hpl) (l.length + 1) (by omega) (l.take j ++ [⟨s, x⟩] ++ l.drop j) rfl (by omega) HB2.out.size ?_; intro A3 c4 w3 hown3 hb3; have HB3 := Lib.hid (HB2.out.trans hb3); have HV3 := Lib.hid (EntsAt.of_own hown3 (by simp; omega)); have HT3 := Lib.hid (h.below HB3.out); clear hown3 hb3 HO2 HB2)
          | (go_at_call 52; refine (t_set P G t ino A3 (l.length + 1) c4 _ w3 HT3.out HV3.out h1 h2).mono ?_; rintro e w4 ⟨rfl, ht4, hg4⟩; have HT4 := Lib.hid ht4; have HG4 := Lib.hid hg4; clear ht4 hg4))
        go_end0
        exact ⟨rfl, by rw [← Hfin.out]; exact HT4.out, grown_trans (grown_of_below HB3.out) HG4.out⟩
      · have hje : j = l.length := by omega
        have HJ := Lib.hid hje
        have hjl' : l.length ≤ j := by omega
        clear hje
        by_cases hcj : c1 = j
        · obtain rfl : j = c1 := hcj.symm
          go_wp2_with (first
            | (at_builtin; refine wpList_append_ents rfl (.const (.slice none 0 0)) (.tmp 37) rfl w.heap.size (.slice none 0 0) 0 [] rfl (World.ownsRow_nil _ _ _ _) _ j _ (l.take j) rfl (HE.out.take j hpl) j (by omega) (l.take j) rfl (by omega) (Nat.le_refl _) ?_; intro A1 c2 w1 hown1 hb1; have HO1 := Lib.hid hown1; have HB1 := Lib.hid hb1; clear hown1 hb1)
            | (at_builtin; refine wpList_append_ents rfl (.tmp 38) (.tmp 42) rfl w.heap.size (.slice A1 j c2) j (l.take j) rfl (HO1.out.alloc _) _ 1 _ [⟨s, x⟩] rfl (EReads.one w1 ⟨s, x⟩) (j + 1) rfl (l.take j ++ [⟨s, x⟩]) rfl (by omega) (by have := HB1.out.size; simp; omega) ?_; intro A2 c3 w2 hown2 hb2; have HO2 := Lib.hid hown2; have HB2 := Lib.hid ((HB1.out.alloc HB1.out.size _).trans hb2); clear hown2 hb2 HO1)
            | (at_builtin; refine wpList_append_ents rfl (.tmp 46) (.tmp 49) rfl w.heap.size (.slice A2 (j + 1) c3) (j + 1) (l.take j ++ [⟨s, x⟩]) rfl HO2.out _ _ _ (l.drop j) rfl (EReads.nil _ _ _ _ (by omega) (List.drop_eq_nil_of_le hjl')) (l.length + 1) (by omega) (l.take j ++ [⟨s, x⟩] ++ l.drop j) rfl (by omega) HB2.out.size ?_; intro A3 c4 w3 hown3 hb3; have HB3 := Lib.hid (HB2.out.trans hb3); have HV3 := Lib.hid (EntsAt.of_own hown3 (by simp; omega)); have HT3 := Lib.hid (h.below HB3.out); clear hown3 hb3 HO2 HB2)
            | (go_at_call 52; refine (t_set P G t ino A3 (l.length + 1) c4 _ w3 HT3.out HV3.out h1 h2).mono ?_; rintro e w4 ⟨rfl, ht4, hg4⟩; have HT4 := Lib.hid ht4; have HG4 := Lib.hid hg4; clear ht4 hg4))
          go_end0
          exact ⟨rfl, by rw [← Hfin.out]; exact HT4.out, grown_trans (grown_of_below HB3.out) HG4.out⟩
        · have hcj' : j < c1 := by omega
          obtain ⟨bb, rfl⟩ : ∃ b, A = some ⟨b, 0, none⟩ := HFm.out.elim (fun hh => absurd hh.2 (by omega)) id
          go_wp2_with (first
            | (at_builtin; refine wpList_append_ents rfl (.const (.slice none 0 0)) (.tmp 37) rfl w.heap.size (.slice none 0 0) 0 [] rfl (World.ownsRow_nil _ _ _ _) _ j _ (l.take j) rfl (HE.out.take j hpl) j (by omega) (l.take j) rfl (by omega) (Nat.le_refl _) ?_; intro A1 c2 w1 hown1 hb1; have HO1 := Lib.hid hown1; have HB1 := Lib.hid hb1; clear hown1 hb1)
            | (at_builtin; refine wpList_append_ents rfl (.tmp 38) (.tmp 42) rfl w.heap.size (.slice A1 j c2) j (l.take j) rfl (HO1.out.alloc _) _ 1 _ [⟨s, x⟩] rfl (EReads.one w1 ⟨s, x⟩) (j + 1) rfl (l.take j ++ [⟨s, x⟩]) rfl (by omega) (by have := HB1.out.size; simp; omega) ?_; intro A2 c3 w2 hown2 hb2; have HO2 := Lib.hid hown2; have HB2 := Lib.hid ((HB1.out.alloc HB1.out.size _).trans hb2); clear hown2 hb2 HO1)
            | (at_builtin; refine wpList_append_ents rfl (.tmp 46) (.tmp 49) rfl w.heap.size (.slice A2 (j + 1) c3) (j + 1) (l.take j ++ [⟨s, x⟩]) rfl HO2.out _ _ _ (l.drop j) rfl (EReads.nil _ _ _ _ (by omega) (List.drop_eq_nil_of_le hjl')) (l.length + 1) (by omega) (l.take j ++ [⟨s, x⟩] ++ l.drop j) rfl (by omega) HB2.out.size ?_; intro A3 c4 w3 hown3 hb3; have HB3 := Lib.hid (HB2.out.trans hb3); have HV3 := Lib.hid (EntsAt.of_own hown3 (by simp; omega)); have HT3 := Lib.hid (h.below HB3.out); clear hown3 hb3 HO2 HB2)
            | (go_at_call 52; refine (t_set P G t ino A3 (l.length + 1) c4 _ w3 HT3.out HV3.out h1 h2).mono ?_; rintro e w4 ⟨rfl, ht4, hg4⟩; have HT4 := Lib.hid ht4; have HG4 := Lib.hid hg4; clear ht4 hg4))
          go_end0
          exact ⟨rfl, by rw [← Hfin.out]; exact HT4.out, grown_trans (grown_of_below HB3.out) HG4.out⟩
end Go.Proofs.Ytnnidgjfjgkdpaa
