/- The statement's own function, AbsorbParts, walked. -/
import Derived.Test.YtnnidgjfjgkdpaaJ
import Derived.Test.YtnnidgjfjgkdpaaS
import Derived.Maps.AppendAt
namespace Go.Proofs.Ytnnidgjfjgkdpaa
open Go.RowKit Go.Maps

/-- The cells of a row of records, wherever it lies. -/
def RowAt (w : World) (A : Option Addr) (m : Nat) (rs : List R) : Prop :=
  rs.length = m ∧ (0 < m → ∃ b o, A = some ⟨b, o, none⟩ ∧ ∀ j u, (recCells rs)[j]? = some u → w.cell? ⟨b, o + j, none⟩ = some u)
theorem Recs.row {w : World} {B : Nat} {A : Option Addr} {n : Nat} {rs : List R} (h : Recs w B A n rs) : RowAt w A n rs := by
  refine ⟨h.len, fun h0 => ?_⟩
  obtain ⟨b, o, hA, _, hr⟩ := h.at_ h0
  refine ⟨b, o, hA, fun j u hj => ?_⟩
  have hjl : j < rs.length * 12 := by rw [← recCells_length]; exact (List.getElem?_eq_some_iff.1 hj).1
  have hk : j / 12 < rs.length := by omega
  have hg : rs[j / 12]? = some rs[j / 12] := List.getElem?_eq_getElem hk
  have e1 := recCells_get rs (j / 12) (j % 12) _ hg (by omega)
  rw [show j / 12 * 12 + j % 12 = j by omega, hj] at e1
  have := (hr (j / 12) _ hg).range (j % 12) u e1.symm
  rwa [show o + j / 12 * 12 + j % 12 = o + j by omega] at this
theorem run_append_none (base ty : Nat) (w : World) (v : Value) (n : Nat) (xs : List Value) (hown : w.ownsRow base 31 12 v n xs) (c : Nat) : (Builtin.append_ #[22, 22] ty #[v, .slice none 0 c]).run Try.prog w = .ok v w := by
  obtain ⟨i0, hi, hz0, hz1, hz2⟩ := info31
  rcases hown.2 with ⟨rfl, rfl⟩ | ⟨g, cap, cur, rfl, _, _, hnc, _⟩
  · simp [Builtin.append_, run_underlying Try.underlying22, sizeOf, typeInfo, hi, Builtin.lenOf, Builtin.firstCells]
  · simp [Builtin.append_, run_underlying Try.underlying22, sizeOf, typeInfo, hi, Builtin.lenOf, Builtin.firstCells, hnc, storeCells]
theorem recCells_one (rs : List R) : ∀ u ∈ recCells rs, u.oneCell' = true := by
  intro u hu
  unfold recCells at hu
  obtain ⟨r, _, hr⟩ := List.mem_flatMap.1 hu
  simp only [R.cells, List.mem_cons, List.not_mem_nil, or_false] at hr
  rcases hr with rfl | rfl | rfl | rfl | rfl | rfl | rfl | rfl | rfl | rfl | rfl | rfl <;> rfl
theorem recCells_append (a b : List R) : recCells (a ++ b) = recCells a ++ recCells b := by simp [recCells]

/-- One row of records appended to a row of the call's own. -/
theorem run_append_recs (base ty : Nat) (w : World) (v : Value) (n : Nat) (xs : List R) (hown : w.ownsRow base 31 12 v n (recCells xs)) (A : Option Addr) (m c : Nat) (news : List R) (hr : RowAt w A m news)
    (hnm : n + m ≤ 1000) (hbase : base ≤ w.heap.size) :
    ∃ v' w', (Builtin.append_ #[22, 22] ty #[v, .slice A m c]).run Try.prog w = .ok v' w' ∧ w'.ownsRow base 31 12 v' (n + m) (recCells (xs ++ news)) ∧ w.grownBy w' v.ownBlock ∧
      (v'.ownBlock = v.ownBlock ∨ v'.ownBlock = some w.heap.size) := by
  obtain ⟨i0, hi, hz0, hz1, hz2⟩ := info31
  by_cases hA : A = none
  · subst hA
    have hm : m = 0 := by
      rcases Nat.eq_zero_or_pos m with h0 | h0
      · exact h0
      · obtain ⟨_, _, h, _⟩ := hr.2 h0; cases h
    subst hm
    have hn : news = [] := List.eq_nil_of_length_eq_zero hr.1
    subst hn
    exact ⟨v, w, run_append_none base ty w v n _ hown c, by simpa using hown, World.grownBy.refl w _, .inl rfl⟩
  · obtain ⟨ad, rfl⟩ := Option.ne_none_iff_exists'.1 hA
    have hcells : ∀ j u, (recCells news)[j]? = some u → w.cell? (ad.add j) = some u := by
      intro j u hu
      rcases Nat.eq_zero_or_pos m with h0 | h0
      · subst h0
        have hn : news = [] := List.eq_nil_of_length_eq_zero hr.1
        subst hn
        simp [recCells] at hu
      · obtain ⟨b, o, h, hc⟩ := hr.2 h0
        injection h with h
        subst h
        have := hc j u hu
        unfold Addr.add; split
        · rename_i h0; subst h0; exact this
        · exact this
    obtain ⟨v', w', hrun, h2, h3, _, h5⟩ := run_append_own_at (P := Try.prog) w base 22 ty 31 i0 noR.val 12 96 Try.underlying22 hi hz0 hz1 hz2 rfl (by decide) v n (recCells xs) hown ad m c (recCells news)
      (by rw [recCells_length, hr.1]) hcells (recCells_one _) (by unfold maxLen; omega) (by omega) hbase
    exact ⟨v', w', hrun, by rw [recCells_append]; exact h2, h3, h5⟩
theorem wpList_append_recs {ops : Array Oper} {rest : List Oper} {o : Oper} {a : Act} {Q : Exit → Act → World → Prop} {w : World} (hgd : o.guard = none) (s x : Operand)
    (ho : o.op = .call { callee := .builtin .append, args := #[s, x], argTypes := #[22, 22] })
    (base : Nat) (v : Value) (n : Nat) (xs : List R) (hs : a.eval s = v) (hown : w.ownsRow base 31 12 v n (recCells xs))
    (A : Option Addr) (m c : Nat) (news : List R) (hx : a.eval x = .slice A m c) (hr : RowAt w A m news) (k : Nat) (hk : n + m = k) (ys : List R) (hys : xs ++ news = ys) (hl : ys.length = k) (hok : ∀ r ∈ ys, r.Ok) (hnm : k ≤ 1000) (hbase : base ≤ w.heap.size)
    (h : ∀ A1 c1 w', w'.ownsRow base 31 12 (.slice A1 k c1) k (recCells ys) → Recs w' w'.heap.size A1 k ys → Below base w w' → wpList Try.prog ops Q rest (a.put o.dst (.slice A1 k c1)) w') :
    wpList Try.prog ops Q (o :: rest) a w :=
  wpList_plain hgd fun _ hK => by
    subst hk; subst hys
    obtain ⟨v', w', hrun, h2, h3, h4⟩ := run_append_recs base o.type w v n xs hown A m c news hr hnm hbase
    unfold Oper.wp execOp
    simp only [ho, resolve, invoke, builtin, Sem.run_bind, Sem.run_pure, Result.andThen_ok, List.map_toArray, List.map_cons, List.map_nil, hs, hx, hrun]
    obtain ⟨A1, c1, rfl, hrec⟩ := recs_of_own h2 hl hok
    exact hK _ _ (h A1 c1 w' h2 hrec ((Below.refl _ _).grown h3 hbase (fun q hq => row_block hown q hq)))

theorem ok_append {a b : List R} (ha : ∀ r ∈ a, r.Ok) (hb : ∀ r ∈ b, r.Ok) : ∀ r ∈ a ++ b, r.Ok := fun r hr => (List.mem_append.1 hr).elim (ha r) (hb r)
/-- Of, Gone, in records. -/
theorem of_recs (A : Option Addr) (n c B : Nat) (rs : List R) (w : World) (h : Recs w B A n rs) (hB : B ≤ w.heap.size) (hn : n ≤ 1000) (m : Nat) (hm : (ofOf rs).length = m) :
    Calls Try.prog 7 #[.slice A n c] w fun e W' => ∃ A' c', e = .returned (.slice A' m c') ∧ Recs W' W'.heap.size A' m (ofOf rs) ∧ Below w.heap.size w W' := by
  refine (of_any A n c B rs w h hB hn).mono ?_
  rintro e W' ⟨v, rfl, hr, hb⟩
  rw [hm] at hr
  obtain ⟨A', c', rfl, hrec⟩ := recs_of_own hr hm (pick_ok h.ok _)
  exact ⟨A', c', rfl, hrec, hb⟩
theorem gone_len (A : Option Addr) (n c B : Nat) (rs : List R) (w : World) (h : Recs w B A n rs) (hB : B ≤ w.heap.size) (hn : n ≤ 1000) (m : Nat) (hm : (goneOf rs).length = m) :
    Calls Try.prog 8 #[.slice A n c] w fun e W' => ∃ A' c', e = .returned (.slice A' m c') ∧ Below w.heap.size w W' := by
  refine (gone_any A n c B rs w h hB hn).mono ?_
  rintro e W' ⟨v, rfl, hr, hb⟩
  rw [hm] at hr
  obtain ⟨A', c', rfl⟩ := slice_of_row hr
  exact ⟨A', c', rfl, hb⟩

theorem long_no (A : Option Addr) (n c B : Nat) (rs : List R) (w : World) (h : Recs w B A n rs) (hn : n ≤ maxLen) (hl : longB rs = false) :
    Calls Try.prog 5 #[.slice A n c] w fun e w' => e = .returned (.bool false) ∧ ∃ k, w.drewN k = w' := (long_any A n c B rs w h hn).mono fun _ _ ⟨he, hk⟩ => ⟨by rw [he, hl], hk⟩
theorem long_yes (A : Option Addr) (n c B : Nat) (rs : List R) (w : World) (h : Recs w B A n rs) (hn : n ≤ maxLen) (hl : longB rs = true) :
    Calls Try.prog 5 #[.slice A n c] w fun e w' => e = .returned (.bool true) ∧ ∃ k, w.drewN k = w' := (long_any A n c B rs w h hn).mono fun _ _ ⟨he, hk⟩ => ⟨by rw [he, hl], hk⟩
theorem long_le {rs : List R} (h : longB rs = false) : rs.length ≤ 60 := by
  unfold longB at h
  simp only [Bool.or_eq_false_iff, decide_eq_false_iff_not] at h
  omega
theorem Recs.drewN {w : World} {B : Nat} {A : Option Addr} {n : Nat} {rs : List R} (h : Recs w B A n rs) (q : Nat) : Recs (w.drewN q) B A n rs := h.keep (Nat.le_refl _) fun _ _ => rfl

set_option maxRecDepth 100000 in
set_option maxHeartbeats 2000000 in
theorem parts_long1 (A A' : Option Addr) (n n' c c' B : Nat) (ra : List R) (w : World) (h : Recs w B A n ra) (hn : n ≤ maxLen) (hl : longB ra = true) :
    Calls Try.prog 4 #[.slice A n c, .slice A' n' c'] w fun e W' => e = .returned (.bool true) ∧ Below w.heap.size w W' := by
  go_enter Try.func4, Try.ntmps4
  go_wp2_with (first | (go_at_call 5; refine (long_yes _ _ _ _ _ _ h hn hl).mono ?_; rintro e w' ⟨rfl, k, rfl⟩) | (go_at_call 6; refine (lawAlive_any _).mono ?_; rintro e w1 ⟨rfl, hb1⟩))
  go_ret
  exact ⟨rfl, (bdn (Below.refl _ _) k).trans hb1⟩
set_option maxRecDepth 100000 in
set_option maxHeartbeats 2000000 in
theorem parts_long2 (A A' : Option Addr) (n n' c c' B : Nat) (ra rb : List R) (w : World) (h : Recs w B A n ra) (h' : Recs w B A' n' rb) (hn : n ≤ maxLen) (hn' : n' ≤ maxLen) (hl : longB ra = false) (hl' : longB rb = true) :
    Calls Try.prog 4 #[.slice A n c, .slice A' n' c'] w fun e W' => e = .returned (.bool true) ∧ Below w.heap.size w W' := by
  go_enter Try.func4, Try.ntmps4
  go_wp2_with (first | (go_at_call 5; (with_reducible refine (long_no _ _ _ _ _ _ h hn hl).mono ?_); rintro e w' ⟨rfl, k, rfl⟩) | (go_at_call 5; refine (long_yes _ _ _ _ _ _ (h'.drewN _) hn' hl').mono ?_; rintro e w' ⟨rfl, k', rfl⟩) | (go_at_call 6; refine (lawAlive_any _).mono ?_; rintro e w1 ⟨rfl, hb1⟩))
  go_ret
  exact ⟨rfl, (bdn (Below.refl _ _) (k + k')).trans hb1⟩

def ApartTo (ra rb : List R) (k : Nat) : Prop := ∀ x ∈ ra.take k, ∀ y ∈ rb, x.ino ≠ y.ino
def ApartIn (x : R) (rb : List R) (j : Nat) : Prop := ∀ y ∈ rb.take j, x.ino ≠ y.ino
theorem ApartTo.zero (ra rb : List R) : ApartTo ra rb 0 := fun x hx => by simp at hx
theorem ApartIn.zero (x : R) (rb : List R) : ApartIn x rb 0 := fun y hy => by simp at hy
theorem ApartTo.succ {ra rb : List R} {k : Nat} {x : R} (h : ApartTo ra rb k) (hx : ra[k]? = some x) (hi : ApartIn x rb rb.length) : ApartTo ra rb (k + 1) := by
  intro z hz y hy
  rw [List.take_add_one, hx] at hz
  rcases List.mem_append.1 hz with hz | hz
  · exact h z hz y hy
  · simp at hz; subst hz; exact hi y (by simpa using hy)
theorem ApartIn.succ {x : R} {rb : List R} {j : Nat} {y : R} (h : ApartIn x rb j) (hy : rb[j]? = some y) (hne : x.ino ≠ y.ino) : ApartIn x rb (j + 1) := by
  intro z hz
  rw [List.take_add_one, hy] at hz
  rcases List.mem_append.1 hz with hz | hz
  · exact h z hz
  · simp at hz; subst hz; exact hne

set_option maxRecDepth 100000 in
set_option maxHeartbeats 4000000 in
theorem parts_main (A A' : Option Addr) (n n' c c' B : Nat) (ra rb : List R) (w : World) (h : Recs w B A n ra) (h' : Recs w B A' n' rb) (hB : B ≤ w.heap.size) (hn : n ≤ maxLen) (hn' : n' ≤ maxLen) (hl : longB ra = false) (hl' : longB rb = false) :
    Calls Try.prog 4 #[.slice A n c, .slice A' n' c'] w fun e W' => e = .returned (.bool true) ∧ Below w.heap.size w W' := by
  have h60 : n ≤ 60 := by have := long_le hl; rwa [h.len] at this
  have h60' : n' ≤ 60 := by have := long_le hl'; rwa [h'.len] at this
  have HL := Lib.hid hl
  have HL' := Lib.hid hl'
  clear hl hl'
  go_enter Try.func4, Try.ntmps4
  go_wp2_with (first | (go_at_call 5; (with_reducible refine (long_no _ _ _ _ _ _ h hn HL.out).mono ?_); rintro e w' ⟨rfl, k0, rfl⟩) | (go_at_call 5; refine (long_no _ _ _ _ _ _ (h'.drewN _) hn' HL'.out).mono ?_; rintro e w' ⟨rfl, k0', rfl⟩))
  go_loopw [5] (fun i wr => ∃ k q : Nat, k ≤ n ∧ i = .int .i64 k ∧ ApartTo ra rb k ∧ w.drewN q = wr) (fun i _ => n + 1 - (intOf i).toNat)
  case atStart => exact ⟨0, _, Nat.zero_le _, rfl, ApartTo.zero _ _, rfl⟩
  case round =>
    obtain ⟨k, q, hk, rfl, hap, rfl⟩ := hrel
    by_cases hkn : k = n
    · have hlt : ¬ (k : Int) < n := by omega
      have Hap := Lib.hid (fun (x : R) (hx : x ∈ ra) (y : R) (hy : y ∈ rb) => hap x (by rw [hkn, List.take_of_length_le (by rw [h.len]; exact Nat.le_refl _)]; exact hx) y hy)
      obtain ⟨W, hW⟩ : ∃ W, w.drewN q = W := ⟨_, rfl⟩
      have HBW : Hid (Below w.heap.size w W) := by rw [← hW]; exact bdn (Below.refl _ _) _
      have HA : Hid (Recs W B A n ra) := by rw [← hW]; exact h.drewN q
      have HA' : Hid (Recs W B A' n' rb) := by rw [← hW]; exact h'.drewN q
      have hBW : B ≤ W.heap.size := Nat.le_trans hB HBW.out.size
      obtain ⟨p1, hp1⟩ : ∃ p, (ofOf ra).length = p := ⟨_, rfl⟩
      obtain ⟨p2, hp2⟩ : ∃ p, (ofOf rb).length = p := ⟨_, rfl⟩
      obtain ⟨g1, hg1⟩ : ∃ p, (goneOf ra).length = p := ⟨_, rfl⟩
      obtain ⟨g2, hg2⟩ : ∃ p, (goneOf rb).length = p := ⟨_, rfl⟩
      have hple1 : p1 ≤ 60 := by have := leftOf_le ra; rw [← ofOf_length, hp1, h.len] at this; omega
      have hple2 : p2 ≤ 60 := by have := leftOf_le rb; rw [← ofOf_length, hp2, h'.len] at this; omega
      have hgle1 : g1 ≤ 60 := by have := goneTo_le ra ra.length; have e : goneTo ra ra.length = goneOf ra := rfl; rw [e, hg1, h.len] at this; omega
      have hgle2 : g2 ≤ 60 := by have := goneTo_le rb rb.length; have e : goneTo rb rb.length = goneOf rb := rfl; rw [e, hg2, h'.len] at this; omega
      have HP1 := Lib.hid hp1
      have HP2 := Lib.hid hp2
      have HG1 := Lib.hid hg1
      have HG2 := Lib.hid hg2
      have HPA : Hid ((ofOf (ra ++ rb)).length = p1 + p2) := by show _ = _; rw [of_append ra rb Hap.out, List.length_append, hp1, hp2]
      have HGA : Hid ((goneOf (ra ++ rb)).length = g1 + g2) := by show _ = _; rw [gone_length ra rb Hap.out, hg1, hg2]
      have HLA := Lib.hid h.len
      have HLB := Lib.hid h'.len
      have HOA := Lib.hid h.ok
      have HOB := Lib.hid h'.ok
      rw [hW]
      have HWe := Lib.hid hW
      clear hW hp1 hp2 hg1 hg2 h h' hB hap hkn
      have HOf := Lib.hid (of_append ra rb Hap.out)
      have hmx : p1 + p2 ≤ maxLen := by unfold maxLen; omega
      go_wp2_with (first
        | (at_builtin; refine wpList_append_recs rfl (.const (.slice none 0 0)) (.tmp 40) rfl W.heap.size (.slice none 0 0) 0 [] rfl (World.ownsRow_nil _ _ _ _) A n c ra rfl HA.out.row n (by omega) ra rfl HLA.out HOA.out (by omega) (Nat.le_refl _) ?_; intro A1 c1 w1 hown1 hr1 hb1; have HO1 := Lib.hid hown1; have HB1 := Lib.hid hb1; clear hown1 hr1 hb1)
        | (at_builtin; refine wpList_append_recs rfl (.tmp 41) (.tmp 42) rfl W.heap.size (.slice A1 n c1) n ra rfl HO1.out A' n' c' rb rfl (HA'.out.below HB1.out hBW (Nat.le_refl _)).row (n + n') rfl (ra ++ rb) rfl (by rw [List.length_append, HLA.out, HLB.out]) (ok_append HOA.out HOB.out) (by omega) HB1.out.size ?_; intro A2 c2 w2 hown2 hr2 hb2; have HR2 := Lib.hid hr2; have HB2 := Lib.hid (HB1.out.trans hb2); have HA2 := Lib.hid (HA.out.below HB2.out hBW (Nat.le_refl _)); have HA2' := Lib.hid (HA'.out.below HB2.out hBW (Nat.le_refl _)); have hz2 := Nat.le_trans hBW HB2.out.size; clear hown2 hr2 hb2 HO1 HB1 HA HA')
        | (go_at_call 7; (with_reducible refine (of_recs _ _ _ _ _ _ HA2.out hz2 (by omega) p1 HP1.out).mono ?_); rintro e w3 ⟨A3, c3, rfl, hr3, hb3⟩; have HR3 := Lib.hid hr3; have HB3 := Lib.hid hb3; clear hr3 hb3)
        | (at_builtin; refine wpList_append_recs rfl (.const (.slice none 0 0)) (.tmp 45) rfl w3.heap.size (.slice none 0 0) 0 [] rfl (World.ownsRow_nil _ _ _ _) A3 p1 c3 (ofOf ra) rfl HR3.out.row p1 (by omega) (ofOf ra) rfl HP1.out HR3.out.ok (by omega) (Nat.le_refl _) ?_; intro A4 c4 w4 hown4 hr4 hb4; have HO4 := Lib.hid hown4; have HB4 := Lib.hid hb4; have HK4 := Lib.hid HR3.out.ok; have HB24 := Lib.hid (HB3.out.trans (hb4.mono HB3.out.size)); have HA4' := Lib.hid (HA2'.out.below HB24.out hz2 (Nat.le_refl _)); have hz4 := Nat.le_trans hz2 HB24.out.size; clear hown4 hr4 hb4 HR3)
        | (go_at_call 7; (with_reducible refine (of_recs _ _ _ _ _ _ HA4'.out hz4 (by omega) p2 HP2.out).mono ?_); rintro e w5 ⟨A5, c5, rfl, hr5, hb5⟩; have HR5 := Lib.hid hr5; have HO5 := Lib.hid (row_below HO4.out hb5); have HB35 := Lib.hid (HB4.out.trans (hb5.mono HB4.out.size)); clear hr5 hb5 HO4 HB4 HA4' hz4 HB24)
        | (at_builtin; refine wpList_append_recs rfl (.tmp 46) (.tmp 48) rfl w3.heap.size (.slice A4 p1 c4) p1 (ofOf ra) rfl HO5.out A5 p2 c5 (ofOf rb) rfl HR5.out.row (p1 + p2) rfl (ofOf ra ++ ofOf rb) rfl (by rw [List.length_append, HP1.out, HP2.out]) (ok_append HK4.out HR5.out.ok) (by omega) HB35.out.size ?_; intro A6 c6 w6 hown6 hr6 hb6; have HR6 := Lib.hid hr6; have HB26 := Lib.hid (HB3.out.trans ((HB35.out.trans hb6).mono HB3.out.size)); have HAll := Lib.hid (HR2.out.below HB26.out (Nat.le_refl _) HB26.out.size); have HA6 := Lib.hid (HA2.out.below HB26.out hz2 (Nat.le_refl _)); have HA6' := Lib.hid (HA2'.out.below HB26.out hz2 (Nat.le_refl _)); have hz6 := Nat.le_trans hz2 HB26.out.size; have HB6 := Lib.hid (HBW.out.trans ((HB2.out.trans (HB26.out.mono HB2.out.size)).mono HBW.out.size)); clear hown6 hr6 hb6 HO5 HR5 HB35 HB3 HK4 HB26 HR2 HA2 HA2' hz2 HB2)
        | (go_at_call 7; (with_reducible refine (of_recs _ _ _ _ _ _ HAll.out (Nat.le_refl _) (by omega) (p1 + p2) HPA.out).mono ?_); rintro e w7 ⟨A7, c7, rfl, hr7, hb7⟩; rw [HOf.out] at hr7; have HR7 := Lib.hid hr7; have HR67 := Lib.hid (HR6.out.below hb7 (Nat.le_refl _) hb7.size); have HAll7 := Lib.hid (HAll.out.below hb7 (Nat.le_refl _) hb7.size); have HA7 := Lib.hid (HA6.out.below hb7 hz6 (Nat.le_refl _)); have HA7' := Lib.hid (HA6'.out.below hb7 hz6 (Nat.le_refl _)); have hz7 := Nat.le_trans hz6 hb7.size; have HB7 := Lib.hid (HB6.out.trans (hb7.mono HB6.out.size)); clear hr7 hb7 HR6 HAll HA6 HA6' hz6 HB6)
        | (go_at_call 11; (with_reducible refine (same_any _ _ _ _ _ _ _ _ HR7.out HR67.out hmx).mono ?_); rintro e w8 ⟨rfl, k8, hw8⟩; have HAll8 := Lib.hid (HAll7.out.drewN k8); have HA8 := Lib.hid (HA7.out.drewN k8); have HA8' := Lib.hid (HA7'.out.drewN k8); have HB8 := Lib.hid (bdn HB7.out k8); have hz8 : B ≤ (w7.drewN k8).heap.size := hz7; have hz8' : w7.heap.size ≤ (w7.drewN k8).heap.size := Nat.le_refl _; rw [hw8] at HAll8 HA8 HA8' HB8 hz8 hz8'; have HW8 := Lib.hid hw8; clear hw8 HR7 HR67 HAll7 HA7 HA7' hz7 HB7)
        | (go_at_call 8; (with_reducible refine (gone_len _ _ _ _ _ _ HAll8.out hz8' (by omega) (g1 + g2) HGA.out).mono ?_); rintro e w9 ⟨A9, c9, rfl, hb9⟩; have HA9 := Lib.hid (HA8.out.below hb9 hz8 (Nat.le_refl _)); have HA9' := Lib.hid (HA8'.out.below hb9 hz8 (Nat.le_refl _)); have hz9 := Nat.le_trans hz8 hb9.size; have HB9 := Lib.hid (HB8.out.trans (hb9.mono HB8.out.size)); clear hb9 HAll8 HA8 HA8' HB8 hz8 hz8')
        | (go_at_call 8; (with_reducible refine (gone_len _ _ _ _ _ _ HA9.out hz9 (by omega) g1 HG1.out).mono ?_); rintro e w10 ⟨A10, c10, rfl, hb10⟩; have HA10' := Lib.hid (HA9'.out.below hb10 hz9 (Nat.le_refl _)); have hz10 := Nat.le_trans hz9 hb10.size; have HB10 := Lib.hid (HB9.out.trans (hb10.mono HB9.out.size)); clear hb10 HA9 HA9' HB9 hz9)
        | (go_at_call 8; (with_reducible refine (gone_len _ _ _ _ _ _ HA10'.out hz10 (by omega) g2 HG2.out).mono ?_); rintro e w11 ⟨A11, c11, rfl, hb11⟩; have HB11 := Lib.hid (HB10.out.trans (hb11.mono HB10.out.size)); clear hb11 HA10' HB10 hz10)
        | (go_at_call 6; refine (lawAlive_any _).mono ?_; rintro e w12 ⟨rfl, hb12⟩; have HB12 := Lib.hid (HB11.out.trans (hb12.mono HB11.out.size)); clear hb12 HB11))
      go_ret
      exact ⟨rfl, HB12.out⟩
    · have hlt : (k : Int) < n := by omega
      have hk1 : k < n := by omega
      obtain ⟨b, o, x, rfl, _, hx, hat, _⟩ := h.get hk1
      have c4 := hat.c4
      have Hx := Lib.hid hx
      have HK := Lib.hid hkn
      clear hx hat hkn
      go_wp2_with fail
      go_loopw [6] (fun i wr => ∃ j q : Nat, j ≤ n' ∧ i = .int .i64 j ∧ ApartIn x rb j ∧ w.drewN q = wr) (fun i _ => n' + 1 - (intOf i).toNat)
      case atStart => exact ⟨0, _, Nat.zero_le _, rfl, ApartIn.zero _ _, rfl⟩
      case round =>
        obtain ⟨j, q1, hj, rfl, hin, rfl⟩ := hrel
        by_cases hjn : j = n'
        · have hlt' : ¬ (j : Int) < n' := by omega
          have Hin : Hid (ApartIn x rb rb.length) := by rw [h'.len, ← hjn]; exact hin
          clear hjn
          go_wp2_with fail
          go_roundw
          case rel => exact ⟨k + 1, _, by omega, by go_num, hap.succ Hx.out Hin, rfl⟩
          case measure => simp [intOf]; omega
        · have hlt' : (j : Int) < n' := by omega
          have hj1 : j < n' := by omega
          obtain ⟨b', o', y, rfl, _, hy, hat', _⟩ := h'.get hj1
          have d4 := hat'.c4
          have Hy := Lib.hid hy
          clear hy hat' hjn
          by_cases hxy : x.ino = y.ino
          · have heq : (x.ino == y.ino) = true := by simpa using hxy
            clear hxy
            go_wp2_with fail
            go_quiet (fail)
            go_wp2_with (first | (go_at_call 6; refine (lawAlive_any _).mono ?_; rintro e w1 ⟨rfl, hb1⟩))
            go_ret
            exact ⟨rfl, (bdn (Below.refl _ _) _).trans hb1⟩
          · have heq : (x.ino == y.ino) = false := by simpa using hxy
            have Hxy := Lib.hid hxy
            clear hxy
            go_wp2_with fail
            go_quiet (fail)
            go_wp2_with fail
            go_roundw
            case rel => exact ⟨j + 1, _, by omega, by go_num, hin.succ Hy.out Hxy.out, rfl⟩
            case measure => simp [intOf]; omega
end Go.Proofs.Ytnnidgjfjgkdpaa
