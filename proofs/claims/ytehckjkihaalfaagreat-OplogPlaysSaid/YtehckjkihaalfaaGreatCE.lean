/- closure's in, walked. -/
import Derived.Test.YtehckjkihaalfaaGreatCD
namespace Go.Proofs.YtehckjkihaalfaaGreat
open Go.RowKit Go.Maps
/-- A loop whose measure is no word of its slots: the least of all that fit. -/
noncomputable def minOf (p : Nat → Prop) : Nat := open Classical in if h : ∃ m, p m ∧ ∀ k, p k → m ≤ k then h.choose else 0
theorem minOf_spec {p : Nat → Prop} {m : Nat} (hm : p m) : p (minOf p) ∧ ∀ k, p k → minOf p ≤ k := by
  have ex : ∃ m, p m ∧ ∀ k, p k → m ≤ k := by
    induction m using Nat.strongRecOn with
    | _ m ih =>
      by_cases h : ∃ k, k < m ∧ p k
      · obtain ⟨k, h1, h2⟩ := h
        exact ih k h1 h2
      · exact ⟨m, hm, fun k hk => Decidable.by_contra fun hh => h ⟨k, by omega, hk⟩⟩
  unfold minOf
  rw [dif_pos ex]
  exact ex.choose_spec
section
variable (l : List R) (inos : List Int) (w : World) (s : Nat)
/-- Behind the first loop's round i. -/
def Lap1 (W : World) (i : Nat) : Prop := ∃ N c q, Found l inos c q [] ∧ (∀ k, k < i → writesB (rAt l k) inos = true → Named c k) ∧ InAt w W (s + 1) (s + 1 + 1 + 1 + 1) s (s + 1 + 1 + 1) (s + 1 + 1 + 1 + 1 + 1) none N c q ∧ N ≤ i
/-- Between two takes: m are still to be taken at most. -/
def Lap2 (W : World) (m : Nat) : Prop := ∃ N c q done, Found l inos c q done ∧ (∀ k, k < l.length → writesB (rAt l k) inos = true → Named c k) ∧ (∀ d ∈ done, ∀ k ∈ onL l d, Named c k) ∧ InAt w W (s + 1) (s + 1 + 1 + 1 + 1) s (s + 1 + 1 + 1) (s + 1 + 1 + 1 + 1 + 1) none N c q ∧ N ≤ l.length + done.length * l.length ∧ m = l.length - done.length
/-- Those that a place meets, one after the other. -/
def Lap3 (d : Nat) (W : World) (g : Option Nat) (j : Nat) (done : List Nat) : Prop := ∃ N c q, Found l inos c q (d :: done) ∧ (∀ k, k < l.length → writesB (rAt l k) inos = true → Named c k) ∧ (∀ d ∈ done, ∀ k ∈ onL l d, Named c k) ∧ (∀ k ∈ (onL l d).take j, Named c k) ∧ InAt w W (s + 1) (s + 1 + 1 + 1 + 1) s (s + 1 + 1 + 1) (s + 1 + 1 + 1 + 1 + 1) g N c q ∧ N ≤ l.length + done.length * l.length + j
end
section
variable {l : List R} {inos : List Int} {w W W' : World} {s i j m : Nat} {g : Option Nat} {done : List Nat}
theorem Lap1.start (hs : w.heap.size = s) : Lap1 l inos w s (((((w.alloc (.map #[] 0)).alloc (.cells #[.map (some s)] 74)).alloc (.cells #[] 3)).alloc (.cells #[.slice (some ⟨s + 1 + 1, 0, none⟩) 0 0] 174)).alloc (.cells #[.pointer (some ⟨s + 1 + 1 + 1, 0, none⟩)] 173)) 0 := by
  subst hs
  have z1 : (w.alloc (.map #[] 0)).heap.size = w.heap.size + 1 := by simp
  have hb : ∀ (W : World) (o : Obj), Below W.heap.size W (W.alloc o) := fun W o => (Below.refl _ _).alloc (Nat.le_refl _) _
  refine ⟨0, [], [], Found.start l inos, fun k hk => by omega, ?_, Nat.le_refl _⟩
  refine ⟨?_, ?_, ?_, ⟨⟨some ⟨w.heap.size + 1 + 1, 0, none⟩, 0, ?_, .inr ⟨rfl, rfl, _, rfl⟩⟩, .inl (by omega)⟩, ?_, by omega, by omega, by omega, by omega, by omega, by omega, by omega, by omega, by omega, Nat.le_refl _, by omega, Nat.le_refl _, fun b hk => ?_, fun b hb => by cases hb⟩
  · refine MapAt.congr ?_ (m := fun _ => none) fun kl _ => by cases kl with | int q a => cases q <;> rfl | _ => rfl
    exact (((((MapAt.made w Tryz.prog 3).below (hb _ _)).below (hb _ _)).below (hb _ _)).below (hb _ _))
  · rw [heap_alloc_old _ _ (by simp), heap_alloc_old _ _ (by simp), heap_alloc_old _ _ (by simp)]
    have := heap_alloc_new (w.alloc (.map #[] 0)) (.cells #[.map (some w.heap.size)] 74)
    rw [z1] at this
    exact this
  · have := heap_alloc_new ((((w.alloc (.map #[] 0)).alloc (.cells #[.map (some w.heap.size)] 74)).alloc (.cells #[] 3)).alloc (.cells #[.slice (some ⟨w.heap.size + 1 + 1, 0, none⟩) 0 0] 174)) (.cells #[.pointer (some ⟨w.heap.size + 1 + 1 + 1, 0, none⟩)] 173)
    simpa using this
  · rw [heap_alloc_old _ _ (by simp)]
    have := heap_alloc_new (((w.alloc (.map #[] 0)).alloc (.cells #[.map (some w.heap.size)] 74)).alloc (.cells #[] 3)) (.cells #[.slice (some ⟨w.heap.size + 1 + 1, 0, none⟩) 0 0] 174)
    simpa using this
  · exact ptrans (ptrans (ptrans (ptrans (hb _ _) (hb _ _)) (hb _ _)) (hb _ _)) (hb _ _)
  · rcases hk with hk | hk
    · simpa using hk
    · cases hk
theorem Lap1.later (h : Lap1 l inos w s W i) (hb : Below W.heap.size W W') : Lap1 l inos w s W' i := by
  obtain ⟨N, c, q, h1, h2, h3, h4⟩ := h
  exact ⟨N, c, q, h1, h2, h3.later hb, h4⟩
theorem Lap1.below (h : Lap1 l inos w s W i) : Below w.heap.size w W := by
  obtain ⟨N, c, q, h1, h2, h3, h4⟩ := h
  exact h3.below
theorem Lap1.skip (h : Lap1 l inos w s W i) (hw : writesB (rAt l i) inos = false) : Lap1 l inos w s W (i + 1) := by
  obtain ⟨N, c, q, h1, h2, h3, h4⟩ := h
  refine ⟨N, c, q, h1, fun k hk hk2 => ?_, h3, by omega⟩
  by_cases e : k = i
  · subst e
    rw [hw] at hk2
    cases hk2
  · exact h2 k (by omega) hk2
theorem Named.more {c : List Int} {k : Nat} (h : Named c k) (x : Int) : Named (c ++ [x]) k := List.mem_append_left _ h
theorem Named.this (c : List Int) (k : Nat) : Named (c ++ [(k : Int)]) k := by unfold Named; simp
theorem Lap1.take (h : Lap1 l inos w s W i) (hi : i < l.length) (hl : l.length ≤ 1000) (hw : writesB (rAt l i) inos = true) :
    Calls Tryz.prog 121 #[.int .i64 (i : Int), .pointer (some ⟨s + 1, 0, none⟩), .pointer (some ⟨s + 1 + 1 + 1 + 1, 0, none⟩)] W fun e W' => e = .returned (.tuple #[]) ∧ Lap1 l inos w s W' (i + 1) := by
  obtain ⟨N, c, q, h1, h2, h3, h4⟩ := h
  have hq := h1.len
  refine (t_want h3 i (by omega) (by omega) (by omega)).mono ?_
  rintro e W' ⟨rfl, ⟨q', g1, g2⟩, _⟩
  refine ⟨rfl, N + 1, c ++ [(i : Int)], q', h1.want (.own hi hw) g1, fun k hk hk2 => ?_, g2, by omega⟩
  by_cases e : k = i
  · subst e
    exact Named.this c k
  · exact (h2 k (by omega) hk2).more _
theorem Lap1.over (h : Lap1 l inos w s W l.length) : Lap2 l inos w s W l.length := by
  obtain ⟨N, c, q, h1, h2, h3, h4⟩ := h
  exact ⟨N, c, q, [], h1, h2, (fun d hd => absurd hd (by simp)), h3, by simp; omega, by simp⟩
theorem Lap3.take {d k : Nat} (h : Lap3 l inos w s d W g j done) (hd : InC l inos d) (hk : (onL l d)[j]? = some k) (hl : l.length ≤ 1000) :
    Calls Tryz.prog 121 #[.int .i64 (k : Int), .pointer (some ⟨s + 1, 0, none⟩), .pointer (some ⟨s + 1 + 1 + 1 + 1, 0, none⟩)] W fun e W' => e = .returned (.tuple #[]) ∧ Lap3 l inos w s d W' g (j + 1) done ∧ ∀ x, g = some x → W'.heap[x]? = W.heap[x]? := by
  obtain ⟨N, c, q, h1, h2, h3, h4, h5, h6⟩ := h
  have hq := h1.len
  have hm := List.mem_of_getElem? hk
  have hkd := (onL_mem.1 hm).1
  have hdl := hd.lt
  have hj : j < l.length := by
    have e1 := (List.getElem?_eq_some_iff.1 hk).1
    have e2 : (onL l d).length ≤ d := by unfold onL; exact Nat.le_trans (List.length_filter_le _ _) (by simp)
    omega
  have hdn : done.length ≤ 1000 := by simp at hq; omega
  have hmul : done.length * l.length ≤ 1000 * 1000 := Nat.mul_le_mul hdn hl
  refine (t_want h5 k (by omega) (by omega) (by omega)).mono ?_
  rintro e W' ⟨rfl, ⟨q', g1, g2⟩, g3⟩
  refine ⟨rfl, ⟨N + 1, c ++ [(k : Int)], q', h1.want (.on hd hm) g1, fun a b e => (h2 a b e).more _, fun a b e f => (h3 a b e f).more _, fun a ha => ?_, g2, by omega⟩, g3⟩
  rw [List.take_add_one, hk] at ha
  rcases List.mem_append.1 ha with ha | ha
  · exact (h4 a ha).more _
  · simp at ha
    subst ha
    exact Named.this c a
theorem Lap3.over {d : Nat} (h : Lap3 l inos w s d W g (onL l d).length done) (hdl : d < l.length) : Lap2 l inos w s W (l.length - (done.length + 1)) := by
  obtain ⟨N, c, q, h1, h2, h3, h4, h5, h6⟩ := h
  refine ⟨N, c, q, d :: done, h1, h2, fun a ha k hk => ?_, h5.free, ?_, by simp⟩
  · rcases List.mem_cons.1 ha with e | ha
    · subst e
      rw [List.take_length] at h4
      exact h4 k hk
    · exact h3 a ha k hk
  · have e2 : (onL l d).length ≤ d := by unfold onL; exact Nat.le_trans (List.length_filter_le _ _) (by simp)
    rw [List.length_cons, Nat.succ_mul]
    omega
theorem own_base0 {w : World} {base size n : Nat} {e : TypeId} {v : Value} {xs : List Value} (h : w.ownsRow base e size v n xs) : w.ownsRow 0 e size v n xs :=
  ⟨h.1, h.2.elim .inl fun ⟨g, cap, cur, a, _, c⟩ => .inr ⟨g, cap, cur, a, Nat.zero_le _, c⟩⟩
theorem own_same {w w' : World} {base size n : Nat} {e : TypeId} {v : Value} {xs : List Value} (h : w.ownsRow base e size v n xs) (hb : ∀ q, v.ownBlock = some q → w'.heap[q]? = w.heap[q]?) : w'.ownsRow base e size v n xs := by
  rcases h with ⟨h1, h2 | ⟨g, cap, cur, rfl, h3, h4, h5⟩⟩
  · exact ⟨h1, .inl h2⟩
  · exact ⟨h1, .inr ⟨g, cap, cur, rfl, h3, (hb g rfl).trans h4, h5⟩⟩
end
set_option maxRecDepth 100000 in
set_option maxHeartbeats 4000000 in
theorem t_in (A : Option Addr) (c n : Nat) (l : List R) (Ai : Option Addr) (ni ci : Nat) (inos : List Int) (w : World) (hl : RecsAt w A l) (hn : l.length = n) (hn2 : n ≤ 1000) (hnc : n ≤ c) (hi : InosAt w Ai inos) (hni : inos.length = ni) (hni2 : ni ≤ 60000) :
    Calls Tryz.prog 88 #[.slice A n c, .slice Ai ni ci] w fun e w' => ∃ M N ks, e = .returned (.map (some M)) ∧ MapAt w' Tryz.prog 3 M N (cntI ks) ∧ w.heap.size ≤ M ∧ N ≤ 2000000 ∧ (∀ x ∈ ks, ∃ k : Nat, x = (k : Int) ∧ InC l inos k) ∧ (∀ k : Nat, Named ks k ↔ InC l inos k) ∧ Below w.heap.size w w' := by
  have HL := Lib.hid hl
  have HN := Lib.hid hn
  have HI := Lib.hid hi
  have HNI := Lib.hid hni
  obtain ⟨s, hs⟩ : ∃ s, w.heap.size = s := ⟨_, rfl⟩
  have hst := Lib.hid (Lap1.start (l := l) (inos := inos) hs)
  have HS := Lib.hid hs
  clear hl hn hi hni
  have hmm := @run_makeMap Tryz.prog
  go_enter Tryz.func88, Tryz.ntmps88
  go_wp2
  clear hs
  go_loopw [18] (fun x wr => ∃ i : Nat, x = .int .i64 (i : Int) ∧ i ≤ n ∧ Hid (Lap1 l inos w s wr i)) (fun x _ => n - (intOf x).toNat)
  case atStart => exact ⟨0, rfl, Nat.zero_le _, hst⟩
  case round =>
    obtain ⟨i, rfl, hi, HI1⟩ := hrel
    by_cases he : i = n
    · have HL2 : Hid (∃ m, Lap2 l inos w s wr m) := by
        rw [he, ← HN.out] at HI1
        exact ⟨_, HI1.out.over⟩
      clear HI1 hst
      have he' : n = i := he.symm
      clear he
      subst he'
      go_wp2
      obtain ⟨w0, rfl⟩ : ∃ w0 : World, w0 = wr := ⟨_, rfl⟩
      go_loopw [30] (fun _ wr => Hid (∃ m, Lap2 l inos w s wr m)) (fun _ wr => minOf (Lap2 l inos w s wr))
      case atStart => exact HL2
      case round =>
        have HL3 : Hid (∃ m, Lap2 l inos w s wr m) := hrel
        clear hrel
        have HM : Hid (Lap2 l inos w s wr (minOf (Lap2 l inos w s wr))) := by
          obtain ⟨m, hm⟩ := HL3.out
          exact (minOf_spec hm).1
        obtain ⟨N, c1, q, done, hF, hOwn, hOn, hAt, hN1, hm0⟩ := HM.out
        have HF := Lib.hid hF
        have HOwn := Lib.hid hOwn
        have HOn := Lib.hid hOn
        have HAt := Lib.hid hAt
        have HN1 := Lib.hid hN1
        have HM0 := Lib.hid hm0
        obtain ⟨A3, c3, k1, k2⟩ := hAt.want.row
        have cP := box_cell hAt.boxP
        have cW := box_cell k1
        have cH := box_cell hAt.boxH
        obtain ⟨nq, hnq⟩ : ∃ nq, q.length = nq := ⟨_, rfl⟩
        rw [hnq] at cW
        have HNQ := Lib.hid hnq
        clear hF hOwn hOn hAt hN1 hm0 k1 k2 hnq
        by_cases hq0 : nq = 0
        · subst hq0
          have HR : Hid (MapAt wr Tryz.prog 3 s N (cntI c1) ∧ w.heap.size ≤ s ∧ N ≤ 2000000 ∧ (∀ x ∈ c1, ∃ k : Nat, x = (k : Int) ∧ InC l inos k) ∧ (∀ k : Nat, Named c1 k ↔ InC l inos k) ∧ Below w.heap.size w wr) := by
            have hq : q = [] := List.eq_nil_of_length_eq_zero HNQ.out
            have h1 := HF.out.len
            have h2 := HN1.out
            have h3 := HN.out
            have hmul : done.length * l.length ≤ 1000 * 1000 := Nat.mul_le_mul (by omega) (by omega)
            refine ⟨HAt.out.map, HAt.out.geM, by omega, HF.out.nat, ?_, HAt.out.below⟩
            have h4 := HF.out
            rw [hq] at h4
            exact h4.all HOwn.out HOn.out
          go_wp2
          go_ret
          exact ⟨s, N, c1, rfl, HR.out⟩
        · have hq1 : 0 < nq := by omega
          have hq6 : q.length ≤ 40000 := by have := HF.out.len; have := HN.out; omega
          have HPP := Lib.hid (t_hPop (Kg (s + 1 + 1 + 1 + 1 + 1) none) (s + 1 + 1 + 1) q wr HAt.out.want hq6 (by rw [HNQ.out]; exact hq1) HAt.out.base)
          have hta := ta_int
          have HTA := Lib.hid hta
          clear hta
          go_wp2_with (first
            | (go_at_call 123; (with_reducible refine (t_wLen A3 _ c3 _).mono ?_); rintro e w' ⟨rfl, rfl⟩)
            | (go_at_call 124; (with_reducible refine HPP.out.mono ?_); rintro e w2 ⟨d, q2, rfl, h1, h2, h3⟩; have HP2 := Lib.hid (And.intro h1 (HAt.out.heaped h2 h3)); have hta := ta_int (d : Int); clear h1 h2 h3)
            | (go_at_call 44; (with_reducible refine (t_on A c n d l _ (HL.out.below HP2.out.2.below) HN.out (by omega) hnc (by have := (HF.out.lt d (by rw [List.mem_append]; exact .inl (HP2.out.1.mem_iff.1 (by simp)))).lt; have := HN.out; omega)).mono ?_); rintro e w4 ⟨v4, rfl, h1, h2⟩; obtain ⟨A4, c4, rfl⟩ := row_slice h1; have H4 := Lib.hid (And.intro h1 h2); clear h1 h2))
          have hdC : Hid (InC l inos d) := HF.out.lt d (by rw [List.mem_append]; exact .inl (HP2.out.1.mem_iff.1 (by simp)))
          have hG := HP2.out.2.guard H4.out.2 (x := (Value.slice A4 (onL l d).length c4).ownBlock) (fun b hb => H4.out.1.lt b hb)
          have hL3 : Lap3 l inos w s d w4 (Value.slice A4 (onL l d).length c4).ownBlock 0 done :=
            ⟨N, c1, q2, HF.out.pop HP2.out.1, HOwn.out, HOn.out, fun k hk => by simp at hk, hG, by have := HN1.out; omega⟩
          have hlow : Hid (w2.heap.size ≤ w4.heap.size) := H4.out.2.size
          have hrow := H4.out.1
          obtain ⟨no, hno⟩ : ∃ no, (onL l d).length = no := ⟨_, rfl⟩
          have hno5 : no ≤ 1000 := by
            have e2 : (onL l d).length ≤ d := by unfold onL; exact Nat.le_trans (List.length_filter_le _ _) (by simp)
            have := hdC.out.lt
            have := HN.out
            omega
          rw [hno] at hL3 hrow ⊢
          have HNO := Lib.hid hno
          have HLP := Lib.hid hL3
          have HRow := Lib.hid hrow
          clear hG hL3 hrow hno
          obtain ⟨w0, rfl⟩ : ∃ w0 : World, w0 = wr := ⟨_, rfl⟩
          go_loopw [42] (fun x wr => ∃ j : Nat, x = .int .i64 (j : Int) ∧ j ≤ no ∧ Hid (Lap3 l inos w s d wr (Value.slice A4 no c4).ownBlock j done ∧ wr.ownsRow w2.heap.size 3 1 (.slice A4 no c4) no (natV (onL l d)))) (fun x _ => no - (intOf x).toNat)
          case atStart => exact ⟨0, rfl, Nat.zero_le _, HLP.out, HRow.out⟩
          case round =>
            obtain ⟨j, rfl, hj, HJ⟩ := hrel
            by_cases he2 : j = no
            · have HE : Hid (Lap2 l inos w s wr (l.length - (done.length + 1)) ∧ l.length - (done.length + 1) < minOf (Lap2 l inos w s w0)) := by
                have h1 := HJ.out.1
                rw [he2] at h1
                have h2 : Lap3 l inos w s d wr (Value.slice A4 no c4).ownBlock (onL l d).length done := by rw [HNO.out]; exact h1
                have h3 := HF.out.len
                have h4 := HM0.out
                have h5 := HNQ.out
                exact ⟨h2.over hdC.out.lt, by omega⟩
              go_wp2
              exact ⟨⟨_, HE.out.1⟩, Nat.lt_of_le_of_lt ((minOf_spec HE.out.1).2 _ HE.out.1) HE.out.2⟩
            · have hj2 : j < no := by omega
              obtain ⟨gq, hgq, _, k, hk, ck, _⟩ := nat_cell (K := fun _ => False) ⟨own_base0 HJ.out.2, fun _ _ h => h⟩ hj2
              subst hgq
              have HKK := Lib.hid hk
              clear hk
              go_wp2_with (go_at_call 121; (with_reducible refine (HJ.out.1.take hdC.out HKK.out (by rw [HN.out]; exact hn2)).mono ?_); rintro e w5 ⟨rfl, h1, h2⟩; have H5 := Lib.hid (And.intro h1 (own_same HJ.out.2 h2)); clear h1 h2)
              go_roundw
              case rel => exact ⟨j + 1, rfl, hj2, H5.out⟩
              case measure => simp only [intOf]; omega
    · have hi2 : i < n := by omega
      obtain ⟨x, hx⟩ : ∃ x, l[i]? = some x := ⟨l[i]'(by rw [HN.out]; omega), List.getElem?_eq_getElem _⟩
      have HX := Lib.hid hx
      have HBW : Hid (Below w.heap.size w wr) := by obtain ⟨N, c, q, _, _, h, _⟩ := HI1.out; exact h.below
      obtain ⟨b, o, rfl, hbl, hc⟩ := (HL.out.below HBW.out).at_ (fun e => by rw [e] at hx; simp at hx)
      have HC := Lib.hid (And.intro hbl hc)
      have c0 : wr.cell? ⟨b, o + i * 12, none⟩ = some (.int .u64 x.stamp) := hc i x hx 0 _ rfl
      have c1 := hc i x hx 1 _ rfl
      have c2 := hc i x hx 2 _ rfl
      have c3 := hc i x hx 3 _ rfl
      have c4 := hc i x hx 4 _ rfl
      have c5 := hc i x hx 5 _ rfl
      have c6 := hc i x hx 6 _ rfl
      have c7 := hc i x hx 7 _ rfl
      have c8 := hc i x hx 8 _ rfl
      have c9 := hc i x hx 9 _ rfl
      have c10 := hc i x hx 10 _ rfl
      have c11 := hc i x hx 11 _ rfl
      clear hbl hc hx hst
      have hxv : rAt l i = x := rAt_get HX.out
      have HXV := Lib.hid hxv
      clear hxv
      have hwr := fun w1 (hb : Below w.heap.size w w1) => t_writes x (HL.out.ok x (List.mem_of_getElem? HX.out)) Ai ni ci inos w1 (HI.out.below hb) HNI.out hni2
      unfold R.val at hwr
      have HWR := Lib.hid hwr
      clear hwr
      go_wp2_with (first
        | (go_at_call 122; (with_reducible refine (HWR.out _ (ptrans HBW.out ((Below.refl _ _).alloc (Nat.le_refl _) _))).mono ?_); rintro e w2 ⟨rfl, hb⟩; have HB2 := Lib.hid (HI1.out.later (ptrans ((Below.refl _ _).alloc (Nat.le_refl _) _) hb)); clear hb)
        | (go_at_call 121; (with_reducible refine (HB2.out.take (by rw [HN.out]; exact hi2) (by rw [HN.out]; exact hn2) (by rw [HXV.out]; assumption)).mono ?_); rintro e w3 ⟨rfl, h3⟩; have HB3 := Lib.hid h3; clear h3))
      · go_roundw
        case rel => exact ⟨i + 1, rfl, hi2, HB3⟩
        case measure => simp only [intOf]; omega
      · go_roundw
        case rel => exact ⟨i + 1, rfl, hi2, HB2.out.skip (by rw [HXV.out]; assumption)⟩
        case measure => simp only [intOf]; omega
end Go.Proofs.YtehckjkihaalfaaGreat
