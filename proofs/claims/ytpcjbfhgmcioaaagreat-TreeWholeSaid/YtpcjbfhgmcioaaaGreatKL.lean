/- The program's tree: List. -/
import Derived.Test.YtpcjbfhgmcioaaaGreatKK
import Derived.Test.YtpcjbfhgmcioaaaGreatRZ
namespace Go.Proofs.YtpcjbfhgmcioaaaGreat
open Go.RowKit Go.Maps

theorem keyOf_str {key : Value} {kl : Lit} (h : keyOf Tryz.prog 9 key = some kl) : ∃ s : ByteArray, key = .string s ∧ kl = .string s.data.toList ∧ s.size ≤ maxLen := by
  obtain ⟨s, rfl⟩ := Maps.keyOf_string_inv Tryz.underlying9 h
  have h' := h
  simp [keyOf, Tryz.underlying9, mapKey] at h'
  obtain ⟨h1, h2⟩ := h'
  exact ⟨s, rfl, by first | exact h2.symm | (rw [← h2, Lib.toList_data]), by first | exact h1 | omega⟩
/-- Entries that have come. -/
structure ColE (l : List UInt8 → Option Int) (left : Lit → Bool) (es : List E) : Prop where
  nodup : (es.map nameL).Nodup
  mem : ∀ s v, (∃ x ∈ es, nameL x = s ∧ x.2 = v) ↔ (l s = some v ∧ left (.string s) = false)
  size : ∀ x ∈ es, x.1.size ≤ maxLen
theorem ColE.step {l : List UInt8 → Option Int} {left : Lit → Bool} {es : List E} (h : ColE l left es) {s : ByteArray} {i : Int} (hl : left (.string s.data.toList) = true) (hi : l s.data.toList = some i) (hs : s.size ≤ maxLen) :
    ColE l (fun z => left z && !z.sameKey (.string s.data.toList)) (es ++ [(s, i)]) := by
  refine ⟨?_, fun k v => ?_, fun x hx => ?_⟩
  · rw [List.map_append, List.nodup_append]
    refine ⟨h.nodup, by simp, fun a ha b hb e => ?_⟩
    simp at hb
    subst hb
    subst e
    obtain ⟨x, hx, hxa⟩ := List.mem_map.1 ha
    have := ((h.mem (nameL (s, i)) x.2).1 ⟨x, hx, hxa, rfl⟩).2
    rw [show nameL (s, i) = s.data.toList from rfl, hl] at this
    cases this
  · constructor
    · rintro ⟨x, hx, hxk, hxv⟩
      rcases List.mem_append.1 hx with hx | hx
      · obtain ⟨h1, h2⟩ := (h.mem k v).1 ⟨x, hx, hxk, hxv⟩
        exact ⟨h1, by simp [h2]⟩
      · simp at hx
        subst hx
        have e1 : s.data.toList = k := hxk
        have e2 : i = v := hxv
        subst e1; subst e2
        exact ⟨hi, by simp [Lit.sameKey]⟩
    · rintro ⟨h1, h2⟩
      by_cases e : k = s.data.toList
      · subst e
        rw [hi] at h1
        injection h1 with h1
        exact ⟨(s, i), by simp, rfl, h1⟩
      · have h3 : left (.string k) = false := by
          simpa [Lit.sameKey, e] using h2
        obtain ⟨x, hx, r⟩ := (h.mem k v).2 ⟨h1, h3⟩
        exact ⟨x, List.mem_append_left _ hx, r⟩
  · rcases List.mem_append.1 hx with hx | hx
    · exact h.size x hx
    · simp at hx; subst hx; exact hs
/-- The entries of a directory, by names rising. -/
structure EntsOf (l : List UInt8 → Option Int) (L : List E) : Prop where
  sorted : L.Pairwise fun a b => nameL a < nameL b
  mem : ∀ s v, (∃ x ∈ L, nameL x = s ∧ x.2 = v) ↔ l s = some v
  size : ∀ x ∈ L, x.1.size ≤ maxLen
structure EntsAt (w : World) (A : Option Addr) (L : List E) : Prop where
  at_ : 0 < L.length → ∃ B, A = some ⟨B, 0, none⟩ ∧ B < w.heap.size ∧ ∀ (k : Nat) (x : E), L[k]? = some x → w.cell? ⟨B, k * 2, none⟩ = some (.string x.1) ∧ w.cell? ⟨B, k * 2 + 1, none⟩ = some (.int .u32 x.2)
theorem EntsAt.below {w w' : World} {A : Option Addr} {L : List E} (h : EntsAt w A L) (hb : Below w.heap.size w w') : EntsAt w' A L := ⟨fun h0 => by
  obtain ⟨B, e, hlt, hc⟩ := h.at_ h0
  exact ⟨B, e, Nat.lt_of_lt_of_le hlt hb.size, fun k x hk => ⟨(hb.cell (p := ⟨B, _, none⟩) hlt).trans (hc k x hk).1, (hb.cell (p := ⟨B, _, none⟩) hlt).trans (hc k x hk).2⟩⟩⟩
def flatE (es : List E) : List Value := es.flatMap encE
theorem flatE_snoc (es : List E) (x : E) : flatE (es ++ [x]) = flatE es ++ [.string x.1, .int .u32 x.2] := by simp [flatE, encE]
theorem flatE_get : ∀ (es : List E) (i : Nat) (h : i < es.length), (flatE es)[i * 2]? = some (.string es[i].1) ∧ (flatE es)[i * 2 + 1]? = some (.int .u32 es[i].2)
  | x :: es, 0, _ => by simp [flatE, encE]
  | x :: es, i + 1, h => by
    have := flatE_get es i (by simpa using h)
    have e1 : (i + 1) * 2 = i * 2 + 2 := by omega
    have e2 : (i + 1) * 2 + 1 = i * 2 + 1 + 2 := by omega
    rw [e1, show i * 2 + 2 + 1 = i * 2 + 1 + 2 by omega]
    simpa [flatE, encE] using this
theorem holdsE_of {w : World} {g : Nat} {es : List E} {cur : Array Value} (hc : w.heap[g]? = some (.cells cur 101 (0, 0))) (ht : cur.toList.take (es.length * 2) = flatE es) : Go.Sort.HoldsK encE 2 w g 0 es.toArray := by
  intro j hj
  have hj' : j < es.length * 2 := by simpa using hj
  refine ⟨?_, by simp [World.frozen?, hc]⟩
  rw [Go.Sort.get_flatK _ _ _ _ (by simpa using hj'), Nat.zero_add]
  have h1 : cur[j]? = (flatE es)[j]? := by
    rw [← ht, List.getElem?_take, if_pos hj']
    simp
  obtain ⟨q, r, rfl, hr⟩ : ∃ q r, j = q * 2 + r ∧ r < 2 := ⟨j / 2, j % 2, by omega, by omega⟩
  rw [show (q * 2 + r) / 2 = q by omega, show (q * 2 + r) % 2 = r by omega]
  have hi : q < es.length := by omega
  obtain ⟨g1, g2⟩ := flatE_get es q hi
  have he : es.toArray[q]! = es[q] := by simp [hi]
  rw [he]
  simp only [World.cell?, hc, h1, id]
  rcases (show r = 0 ∨ r = 1 by omega) with rfl | rfl
  · rw [Nat.add_zero, g1]; rfl
  · rw [g2]; rfl
section
variable {P' : Program} {k t' e : TypeId} {w : World} {b n : Nat} {m : Lit → Option Value}
theorem MapAt.range' (h : MapAt w P' k b n m) (K : Keyed P' k) (ht : P'.underlying t' = some (.map k e)) :
    ∃ w' left cnt, (Instr.range t' (.map (some b))).run P' w = .ok (.pointer (some ⟨w.heap.size, 0, none⟩)) w' ∧ RangeAt w' P' k b w.heap.size n m left cnt ∧ cnt ≤ n ∧ (∀ kl, WideAt.IsKeyLit kl → left kl = (m kl).isSome) ∧ Below w.heap.size w w' ∧ w'.heap.size = w.heap.size + 1 := by
  obtain ⟨D, hD, hm⟩ := h
  obtain ⟨w', h1, h2, h3, h4⟩ := hD.range K ht
  exact ⟨w', _, _, h1, ⟨D, h2, hm⟩, hD.size_le, fun kl hk => by rw [ofD_has hD K hk, hm kl hk], ⟨h3.os, h3.tape, h3.output, h3.size, fun i hi => h3.block i hi (by simp)⟩, h4⟩
end
theorem wpList_next_S {ops : Array Oper} {rest : List Oper} {o : Oper} {a : Act} {w : World} {Q : Exit → Act → World → Prop} {b r n cnt : Nat} {l : List UInt8 → Option Int} {left : Lit → Bool} (hg : o.guard = none) (it : Operand) (hop : o.op = Op.next it false)
    (hit : a.eval it = .pointer (some ⟨r, 0, none⟩)) (h : RangeAt w Tryz.prog 9 b r n (entsM l) left cnt)
    (hDone : (∀ kl, left kl = false) → wpList Tryz.prog ops Q rest (a.put o.dst (.tuple #[.bool false])) w)
    (hMore : ∀ (s : ByteArray) (i : Int) (w' : World) (cnt' : Nat), left (.string s.data.toList) = true → l s.data.toList = some i → s.size ≤ maxLen → RangeAt w' Tryz.prog 9 b r n (entsM l) (fun x => left x && !x.sameKey (.string s.data.toList)) cnt' → cnt' < cnt → w.grownBy w' (some r) → w'.heap.size = w.heap.size →
      (Instr.entry (.pointer (some ⟨r, 0, none⟩))).run Tryz.prog w' = .ok (.tuple #[.string s, .int .u32 i]) w' → wpList Tryz.prog ops Q rest (a.put o.dst (.tuple #[.bool true, .string s, .int .u32 i])) w') :
    wpList Tryz.prog ops Q (o :: rest) a w := by
  refine wpList_plain hg fun K' hK' => ?_
  unfold Oper.wp
  rcases h.next lawS o.type with ⟨h0, hl, hrun⟩ | ⟨key, v, kl, w', cnt', hkey, hlk, hv, hrun, hrg, hlt, hgr, hsz, hen⟩
  · simp [execOp, hop, hit, hrun, Result.andThen]
    exact hK' _ _ (hDone hl)
  · obtain ⟨s, rfl, rfl, hs⟩ := keyOf_str hkey
    obtain ⟨i, hi, rfl⟩ : ∃ i, l s.data.toList = some i ∧ v = .int .u32 i := by
      unfold entsM at hv
      simp only [Option.map_eq_some_iff] at hv
      obtain ⟨i, h1, h2⟩ := hv
      exact ⟨i, h1, h2.symm⟩
    simp [execOp, hop, hit, hrun, Result.andThen]
    exact hK' _ _ (hMore s i w' cnt' hlk hi hs hrg hlt hgr hsz hen)
theorem infoE : (Tryz.prog.info? 101).map (fun i => (i.zero, i.size, i.bytes)) = some (some (.agg #[.string ⟨#[]⟩, .int .u32 0]), 2, 24) := by kernel_rfl
end Go.Proofs.YtpcjbfhgmcioaaaGreat
