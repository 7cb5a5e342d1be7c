/- The law FairJoins, walked. -/
import Derived.Test.YtmnombfgahmfkaaGreatDoorOF
import Derived.Test.YtmnombfgahmfkaaGreatDoorOR
import Derived.Maps.AppendAt
import Derived.Laws.OwnMore
namespace Go.Proofs.YtmnombfgahmfkaaGreatDoor
open Go.RowKit Go.Maps

theorem row_sliceU {w : World} {base n size : Nat} {e : TypeId} {v : Value} {xs : List Value} (h : w.ownsRow base e size v n xs) : ∃ A c, v = .slice A n c := by
  rcases h.2 with ⟨rfl, rfl⟩ | ⟨g, cap, cur, rfl, _⟩
  · exact ⟨_, _, rfl⟩
  · exact ⟨_, _, rfl⟩
theorem run_append_u8 (base ty : Nat) (w : World) (v : Value) (l1 : List Int) (n1 : Nat) (hown : w.ownsRow base 5 1 v n1 (l1.map u8V)) (A : Option Addr) (m c : Nat) (l2 : List Int) (h : U8At w A l2) (hA : A = none → c = 0) (hm : l2.length = m) (hl : n1 + m ≤ 100000) (hbase : base ≤ w.heap.size) :
    ∃ v' w', (Builtin.append_ #[22, 22] ty #[v, .slice A m c]).run Tryz.prog w = .ok v' w' ∧ w'.ownsRow base 5 1 v' (n1 + m) ((l1 ++ l2).map u8V) ∧ w.grownBy w' v.ownBlock := by
  obtain ⟨i0, hi, hz0, hz1, hz2⟩ := info_parts infoU8
  cases A with
  | none =>
    have hl2 : l2 = [] := by
      cases l2 with
      | nil => rfl
      | cons a l => obtain ⟨b, o, h1, _⟩ := h.2 (by simp); cases h1
    subst hl2
    obtain rfl : m = 0 := hm.symm
    obtain rfl := hA rfl
    refine ⟨v, w, run_append_owned_none (P := Tryz.prog) w base 22 ty 5 i0 1 Tryz.underlying22 hi v n1 _ hown, by rw [List.append_nil]; exact hown, ⟨rfl, rfl, rfl, Nat.le_refl _, fun _ _ _ => rfl⟩⟩
  | some a =>
    obtain ⟨v', w', hrun, h2, h3, _, _⟩ := run_append_own_at (P := Tryz.prog) w base 22 ty 5 i0 _ 1 1 Tryz.underlying22 hi hz0 hz1 hz2 rfl (by decide) v n1 (l1.map u8V) hown a m c (l2.map u8V)
      (by rw [List.length_map, hm]; omega) (fun j u hu => by
        rw [List.getElem?_map] at hu
        cases hj : l2[j]? with
        | none => rw [hj] at hu; cases hu
        | some x =>
          rw [hj] at hu
          obtain rfl := Option.some.inj hu
          obtain ⟨b, o, h1, h4⟩ := h.2 (fun e => by rw [e] at hj; simp at hj)
          obtain rfl := Option.some.inj h1
          rw [oadd_flat]
          exact h4 j x hj) (fun u hu => by obtain ⟨x, _, rfl⟩ := List.mem_map.1 hu; rfl) (by unfold maxLen; omega) (by omega) hbase
    rw [← List.map_append] at h2
    exact ⟨v', w', hrun, h2, h3⟩
theorem wpList_append_u8 {ops : Array Oper} {rest : List Oper} {o : Oper} {a : Act} {Q : Exit → Act → World → Prop} {w : World} (hgd : o.guard = none) (s x : Operand)
    (ho : o.op = .call { callee := .builtin .append, args := #[s, x], argTypes := #[22, 22] })
    (base : Nat) (v : Value) (l1 : List Int) (n1 n2 : Nat) (hs : a.eval s = v) (hown : w.ownsRow base 5 1 v n1 (l1.map u8V)) (A : Option Addr) (m c : Nat) (l2 : List Int) (hx : a.eval x = .slice A m c) (hsrc : U8At w A l2) (hA : A = none → c = 0) (hm : l2.length = m) (h12 : n1 + m = n2) (hl : n1 + m ≤ 100000) (hbase : base ≤ w.heap.size)
    (h : ∀ A1 c1 w', w'.ownsRow base 5 1 (.slice A1 n2 c1) n2 ((l1 ++ l2).map u8V) → w.grownBy w' v.ownBlock → wpList Tryz.prog ops Q rest (a.put o.dst (.slice A1 n2 c1)) w') : wpList Tryz.prog ops Q (o :: rest) a w :=
  wpList_plain hgd fun _ hK => by
    subst h12
    obtain ⟨v', w', hrun, h2, h3⟩ := run_append_u8 base o.type w v l1 n1 hown A m c l2 hsrc hA hm hl hbase
    unfold Oper.wp execOp
    simp only [ho, resolve, invoke, builtin, Sem.run_bind, Sem.run_pure, Result.andThen_ok, List.map_toArray, List.map_cons, List.map_nil, hs, hx, hrun]
    obtain ⟨A1, c1, rfl⟩ := row_sliceU h2
    exact hK _ _ (h A1 c1 w' h2 h3)
/-- What the row owns is there to be read. -/
theorem u8_of_row {w : World} {base n cap : Nat} {A : Option Addr} {l : List Int} (h : w.ownsRow base 5 1 (.slice A n cap) n (l.map u8V)) (hn : l.length = n) (hl : ∀ v ∈ l, 0 ≤ v ∧ v ≤ 255) : n ≤ cap ∧ U8At w A l := by
  by_cases h0 : 0 < n
  · obtain ⟨g, cap2, e, h1, _, h2⟩ := row_u8 h hn h0 hl
    cases e
    exact ⟨h1, h2⟩
  · have : l = [] := List.eq_nil_of_length_eq_zero (by omega)
    subst this
    exact ⟨by omega, hl, fun e => absurd rfl e⟩
theorem below_row {base : Nat} {w0 w w' : World} {v : Value} {n : Nat} {xs : List Value} (hb : Below base w0 w) (hB : base ≤ w.heap.size) (h : w.ownsRow base 5 1 v n xs) (hg : w.grownBy w' v.ownBlock) : Below base w0 w' :=
  hb.grown hg hB (fun q hq => (h.lt q hq).1)
theorem u8_below {w w' : World} {A : Option Addr} {l : List Int} (h : U8At w A l) (hb : Below w.heap.size w w') : U8At w' A l := h.below hb
theorem turns_range (c : Nat) (hc : c ≤ 8) : ∀ n, ∀ v ∈ turnsL c n, 0 ≤ v ∧ v ≤ 255
  | 0, v, h => by cases h
  | n + 1, v, h => by
    unfold turnsL at h
    rcases List.mem_append.1 h with h | h
    · exact turns_range c hc n v h
    · unfold turn1 at h
      obtain ⟨k, hk, rfl⟩ := List.mem_map.1 h
      have := List.mem_range.1 hk
      omega
theorem ballo (w : World) (o : Obj) : Below w.heap.size w (w.alloc o) := (Below.refl _ w).alloc (Nat.le_refl _) _
theorem bcomp {a b c : World} (h : Below a.heap.size a b) (k : Below b.heap.size b c) : Below a.heap.size a c := h.trans (k.mono h.size)
set_option maxRecDepth 100000 in
set_option maxHeartbeats 16000000 in
theorem t_joins (cores more : Nat) (A B : Option Addr) (na ca nb cb : Nat) (la lb : List Int) (i c l r : Int) (x y : Nat) (w : World) (hc : cores ≤ 255) (hm : more ≤ 255) (hx : x ≤ 65535) (hy : y ≤ 65535)
    (ha : U8At w A la) (hb : U8At w B lb) (hla : la.length = na) (hlb : lb.length = nb) (hca : na ≤ ca) (hcb : nb ≤ cb) (hA0 : A = none → ca = 0) (hB0 : B = none → cb = 0) (hna : na ≤ 500) (hnb : nb ≤ 500) :
    Calls Tryz.prog 3 #[.int .u8 cores, .int .u8 more, .slice A na ca, .slice B nb cb, confV i c l r, .int .u16 x, .int .u16 y] w fun e w' => e = .returned (.bool true) ∧ Below w.heap.size w w' := by
  obtain ⟨n, hn⟩ : ∃ n : Nat, n = 1 + cores % 8 := ⟨_, rfl⟩
  obtain ⟨wd, hwd⟩ : ∃ wd : Nat, wd = n + more % 5 := ⟨_, rfl⟩
  obtain ⟨k, hk⟩ : ∃ k : Nat, k = na - na % wd := ⟨_, rfl⟩
  obtain ⟨tn, htn⟩ : ∃ tn : Nat, tn = 1 + x % 50 := ⟨_, rfl⟩
  have n1 : 1 ≤ n := by omega
  have n8 : n ≤ 8 := by omega
  have w1 : n ≤ wd := by omega
  have w12 : wd ≤ 12 := by omega
  have t1 : 1 ≤ tn := by omega
  have t50 : tn ≤ 50 := by omega
  have hmod := Nat.mod_le na wd
  have hkn : k ≤ na := by omega
  have hq : k = (na / wd) * wd := by rw [hk]; have := Nat.div_add_mod na wd; rw [Nat.mul_comm] at this; omega
  have e1 : (1 : Int) + (cores : Int) % 8 = (n : Int) := by omega
  have e2 : (n : Int) + (more : Int) % 5 = (wd : Int) := by omega
  have e3 : (na : Int) - (na : Int) % (wd : Int) = (k : Int) := by rw [hk]; have : ((na % wd : Nat) : Int) = (na : Int) % (wd : Int) := Int.natCast_emod na wd; omega
  have e4 : (1 : Int) + (x : Int) % 50 = (tn : Int) := by omega
  have hlk : (la.take k).length = k := by rw [List.length_take, hla]; omega
  obtain ⟨pa, hpa⟩ : ∃ q, (fairP (n : Int) wd (la.take k)).1 = q := ⟨_, rfl⟩
  obtain ⟨ba, hba⟩ : ∃ q, (fairP (n : Int) wd (la.take k)).2 = q := ⟨_, rfl⟩
  obtain ⟨pb, hpb⟩ : ∃ q, (fairP (n : Int) wd lb).1 = q := ⟨_, rfl⟩
  obtain ⟨bb, hbb⟩ : ∃ q, (fairP (n : Int) wd lb).2 = q := ⟨_, rfl⟩
  have hpa2 : pa ≤ 500 := by rw [← hpa]; show (la.take k).length / wd ≤ 500; have := Nat.div_le_self (la.take k).length wd; omega
  have hpb2 : pb ≤ 500 := by rw [← hpb]; show lb.length / wd ≤ 500; have := Nat.div_le_self lb.length wd; omega
  have hj := fair_join (c := (n : Int)) (w := wd) (a := la.take k) (b := lb) (by omega) (q := na / wd) (by rw [hlk]; exact hq)
  rw [hpa, hba, hpb, hbb] at hj
  have FF : ∀ (W : World) (A : Option Addr) (m cap : Nat) (z : List Int) (p : Nat) (f : Bool), U8At W A z → z.length = m → m ≤ 100000 → m ≤ cap → fairP (n : Int) wd z = (p, f) → Calls Tryz.prog 5 #[.int .i64 (n : Int), .int .i64 (wd : Int), .slice A m cap] W fun e w' => e = .returned (.tuple #[.int .i64 (p : Int), .bool f]) ∧ Below W.heap.size W w' := fun W A m cap z p f h1 h2 h3 h4 h5 => by
    have := callsIn_wide.1 (t_fair (n : Int) wd A m cap z W (by omega) (by omega) (by omega) h1 h2 h3 h4)
    rw [h5] at this
    exact this
  have FT : ∀ W : World, Calls Tryz.prog 6 #[.int .i64 (n : Int), .int .i64 (tn : Int)] W fun e w' => ∃ A cap, e = .returned (.slice A (tn * n) cap) ∧ tn * n ≤ cap ∧ U8At w' A (turnsL n tn) ∧ Below W.heap.size W w' := fun W => by
    refine (t_turns n tn W n1 n8 t1 (by omega)).mono ?_
    rintro e w' ⟨v, rfl, hr, hbl⟩
    obtain ⟨A1, c1, rfl⟩ := row_sliceU hr
    obtain ⟨g1, g2⟩ := u8_of_row hr (turns_length n tn) (turns_range n n8 tn)
    exact ⟨A1, c1, rfl, g1, g2, hbl⟩
  have FT2 : ∀ (W : World) (A : Option Addr) (cap : Nat), U8At W A (turnsL n tn) → tn * n ≤ cap → Calls Tryz.prog 5 #[.int .i64 (n : Int), .int .i64 (n : Int), .slice A (tn * n) cap] W fun e w' => e = .returned (.tuple #[.int .i64 (tn : Int), .bool true]) ∧ Below W.heap.size W w' := fun W A cap h1 h2 => by
    have hl : tn * n ≤ 50 * 8 := Nat.mul_le_mul t50 n8
    have := callsIn_wide.1 (t_fair (n : Int) n A (tn * n) cap (turnsL n tn) W (by omega) (Int.le_refl _) (by omega) h1 (turns_length n tn) (by omega) h2)
    rw [fair_turns n1 n8] at this
    exact this
  obtain ⟨s, hs⟩ : ∃ s, stepsF i r = s := ⟨_, rfl⟩
  obtain ⟨sb1, sb2⟩ := steps_bounds i r
  rw [hs] at sb1 sb2
  obtain ⟨s1, hs1⟩ : ∃ s1, ((1 : Int) + (x : Int)) * s = s1 := ⟨_, rfl⟩
  obtain ⟨s2, hs2⟩ : ∃ s2, ((1 : Int) + (y : Int)) * s = s2 := ⟨_, rfl⟩
  have s1a : 0 ≤ s1 := by rw [← hs1]; exact Int.mul_nonneg (by omega) sb1
  have s1b : s1 ≤ 65536 * 2000 := by rw [← hs1]; exact Int.mul_le_mul (by omega) sb2 sb1 (by omega)
  have s2a : 0 ≤ s2 := by rw [← hs2]; exact Int.mul_nonneg (by omega) sb1
  have s2b : s2 ≤ 65536 * 2000 := by rw [← hs2]; exact Int.mul_le_mul (by omega) sb2 sb1 (by omega)
  have G1 : ∀ W : World, Calls Tryz.prog 7 #[confV i c l r, .int .i64 (1 + (x : Int))] W fun e w' => e = .returned (.int .i64 s1) ∧ Below W.heap.size W w' := fun W => by
    have := t_bound i c l r (1 + (x : Int)) W (by omega) (by omega)
    rw [hs, hs1] at this
    exact this
  have G2 : ∀ W : World, Calls Tryz.prog 7 #[confV i c l r, .int .i64 (1 + (y : Int))] W fun e w' => e = .returned (.int .i64 s2) ∧ Below W.heap.size W w' := fun W => by
    have := t_bound i c l r (1 + (y : Int)) W (by omega) (by omega)
    rw [hs, hs2] at this
    exact this
  have G3 : ∀ W : World, Calls Tryz.prog 7 #[confV i c l r, .int .i64 (1 + (x : Int) + (1 + (y : Int)))] W fun e w' => e = .returned (.int .i64 (s1 + s2)) ∧ Below W.heap.size W w' := fun W => by
    have := t_bound i c l r (1 + (x : Int) + (1 + (y : Int))) W (by omega) (by omega)
    rw [hs, Int.add_mul, hs1, hs2] at this
    exact this
  have G4 : ∀ W : World, Calls Tryz.prog 8 #[confV i c l r] W fun e w' => e = .returned (.int .i64 s) ∧ Below W.heap.size W w' := fun W => by
    have := t_steps i c l r W
    rw [hs] at this
    exact this
  have HA := Lib.hid (ha.take k)
  have HB := Lib.hid hb
  have P1 := Lib.hid (show fairP (n : Int) wd (la.take k) = (pa, ba) from Prod.ext hpa hba)
  have P2 := Lib.hid (show fairP (n : Int) wd lb = (pb, bb) from Prod.ext hpb hbb)
  have P3 := Lib.hid hj
  have HK := Lib.hid hlk
  have HLB := Lib.hid hlb
  have HR : Hid (∀ v ∈ la.take k ++ lb, 0 ≤ v ∧ v ≤ 255) := fun v hv => by
    rcases List.mem_append.1 hv with h | h
    · exact (ha.take k).1 v h
    · exact hb.1 v h
  have hwd0 : (wd : Int) ≠ 0 := by omega
  have hkca : k ≤ ca := by omega
  clear ha hb hj hpa hba hpb hbb hla hlb hlk hk hn hwd htn hs hs2 hq
  obtain ⟨W0, hW0⟩ : ∃ W0, w.alloc (.cells #[.int .i64 i, .int .i64 c, .int .i64 l, .int .i64 r] 24) = W0 := ⟨_, rfl⟩
  have HW0 := Lib.hid hW0
  have BW : Hid (Below w.heap.size w W0) := by show Below _ _ _; rw [← hW0]; exact ballo w _
  have hcf : ∀ z, Below W0.heap.size W0 z → z.cell? ⟨w.heap.size, 0, none⟩ = some (.int .i64 i) ∧ z.cell? ⟨w.heap.size, 1, none⟩ = some (.int .i64 c) ∧ z.cell? ⟨w.heap.size, 2, none⟩ = some (.int .i64 l) ∧ z.cell? ⟨w.heap.size, 3, none⟩ = some (.int .i64 r) := fun z hz => by
    have h0 := World.alloc_heap_new w (.cells #[.int .i64 i, .int .i64 c, .int .i64 l, .int .i64 r] 24)
    rw [hW0] at h0
    have h1 := (hz.block w.heap.size (Array.getElem?_eq_some_iff.1 h0).1).trans h0
    refine ⟨?_, ?_, ?_, ?_⟩ <;> simp [World.cell?, h1]
  clear hW0
  cases ba <;> cases bb
  all_goals
    go_enter Tryz.func3, Tryz.ntmps3
    go_wp2_with (first
      | (go_at_call 5; rw [HW0.out]; (with_reducible refine (FF _ A k ca (la.take k) pa _ (u8_below HA.out BW.out) HK.out (by omega) hkca P1.out).mono ?_); rintro e z1 ⟨rfl, hb1⟩; have B1 := Lib.hid hb1; clear hb1)
      | (go_at_call 5; (with_reducible refine (FF _ B nb cb lb pb _ (u8_below HB.out (bcomp BW.out B1.out)) HLB.out (by omega) hcb P2.out).mono ?_); rintro e z2 ⟨rfl, hb2⟩; have B2 := Lib.hid (bcomp B1.out hb2); clear hb2)
      | (at_builtin; refine wpList_append_u8 rfl _ _ rfl W0.heap.size (.slice none 0 0) [] 0 k rfl (World.ownsRow_nil _ _ _ _) A k ca (la.take k) rfl (u8_below HA.out (bcomp BW.out B2.out)) hA0 HK.out (Nat.zero_add k) (by omega) B2.out.size ?_; intro A1 c1 z3 hr1 hg1; have B3 := Lib.hid (B2.out.grown hg1 B2.out.size (fun q hq => by cases hq)); rw [List.nil_append] at hr1; have R1 := Lib.hid hr1; clear hr1 hg1)
      | (at_builtin; refine wpList_append_u8 rfl _ _ rfl W0.heap.size _ (la.take k) k (k + nb) rfl R1.out B nb cb lb rfl (u8_below HB.out (bcomp BW.out B3.out)) hB0 HLB.out rfl (by omega) B3.out.size ?_; intro A2 c2 z4 hr2 hg2; have B4 := Lib.hid (below_row B3.out B3.out.size R1.out hg2); have U4 := Lib.hid (u8_of_row hr2 (by rw [List.length_append, HK.out, HLB.out]) HR.out); clear hr2 hg2)
      | (go_at_call 5; (with_reducible refine (FF _ _ (k + nb) _ (la.take k ++ lb) (pa + pb) _ U4.out.2 (by rw [List.length_append, HK.out, HLB.out]) (by omega) U4.out.1 P3.out).mono ?_); rintro e z5 ⟨rfl, hb5⟩; have B5 := Lib.hid (bcomp B4.out hb5); clear hb5)
      | (go_at_call 6; (with_reducible refine (FT _).mono ?_); rintro e z6 ⟨A3, c3, rfl, g3, u3, hb6⟩; have B6 := Lib.hid (bcomp B5.out hb6); have U6 := Lib.hid u3; clear hb6 u3)
      | (go_at_call 5; (with_reducible refine (FT2 _ _ _ U6.out g3).mono ?_); rintro e z7 ⟨rfl, hb7⟩; have B7 := Lib.hid (bcomp B6.out hb7); obtain ⟨q0, q1, q2, q3⟩ := hcf _ B7.out; clear hb7)
      | (go_at_call 7; (with_reducible refine (G2 _).mono ?_); rintro e z9 ⟨rfl, hb9⟩; have B9 := Lib.hid (bcomp B8.out hb9); obtain ⟨q0, q1, q2, q3⟩ := hcf _ B9.out; clear hb9)
      | (go_at_call 7; (with_reducible refine (G3 _).mono ?_); rintro e zA ⟨rfl, hbA⟩; have BA := Lib.hid (bcomp B9.out hbA); obtain ⟨q0, q1, q2, q3⟩ := hcf _ BA.out; clear hbA)
      | (go_at_call 7; (with_reducible refine (G1 _).mono ?_); rintro e zB ⟨rfl, hbB⟩; have BB := Lib.hid (bcomp BA.out hbB); obtain ⟨q0, q1, q2, q3⟩ := hcf _ BB.out; clear hbB)
      | (go_at_call 7; (with_reducible refine (G1 _).mono ?_); rintro e z8 ⟨rfl, hb8⟩; have B8 := Lib.hid (bcomp B7.out hb8); obtain ⟨q0, q1, q2, q3⟩ := hcf _ B8.out; clear hb8)
      | (go_at_call 8; (with_reducible refine (G4 _).mono ?_); rintro e zC ⟨rfl, hbC⟩; have BC := Lib.hid (bcomp BB.out hbC); clear hbC)
      | (go_at_call 4; (with_reducible refine (t_alive34 _).mono ?_); rintro e zD ⟨rfl, hbD⟩; have BD := Lib.hid (bcomp BC.out hbD); clear hbD))
    refine wp_region_rel RelB (phi [isV (confV i c l r), isV (.int .i64 (1 + (x : Int))), isV (.int .i64 s1), isV (confV i c l r), isV (.int .i64 (1 + (y : Int))), isV (.int .i64 s2), isV (.int .i64 (s1 + s2)), isV (confV i c l r), isV (.int .i64 (1 + (x : Int))), isV (.int .i64 (1 + (y : Int))), isV (.int .i64 (1 + (x : Int) + (1 + (y : Int)))), isV (.int .i64 (s1 + s2)), isV (.bool true), isV (.bool true), isV (confV i c l r), isV (.int .i64 (1 + (x : Int))), isV (.int .i64 s1), isV (.int .i64 (1 + (x : Int))), isV (confV i c l r), isV (.int .i64 s), isV (.int .i64 s1), isV (.bool true), isV (.bool true), isV (.bool true), isV (.bool true), isV (.bool true), isV (.bool true)]) (by kernel_rfl) (by kernel_rfl) (by kernel_rfl) (RelB.of (below_drew _)) (fun _ _ _ a b => a.trans b) ?_ ?_ ?_
    · refine stays_phiR ?_
      simp only [List.forall_mem_cons]
      exact ⟨fun _ _ _ h _ => h, fun _ _ _ h _ => h, fun _ _ _ h _ => h, fun _ _ _ h _ => h, fun _ _ _ h _ => h, fun _ _ _ h _ => h, fun _ _ _ h _ => h, fun _ _ _ h _ => h, fun _ _ _ h _ => h, fun _ _ _ h _ => h, fun _ _ _ h _ => h, fun _ _ _ h _ => h, fun _ _ _ h _ => h, fun _ _ _ h _ => h, fun _ _ _ h _ => h, fun _ _ _ h _ => h, fun _ _ _ h _ => h, fun _ _ _ h _ => h, fun _ _ _ h _ => h, fun _ _ _ h _ => h, fun _ _ _ h _ => h, fun _ _ _ h _ => h, fun _ _ _ h _ => h, fun _ _ _ h _ => h, fun _ _ _ h _ => h, fun _ _ _ h _ => h, fun _ _ _ h _ => h, fun _ h => absurd h (by simp)⟩
    · refine ⟨?_, ?_, ?_, ?_, ?_, ?_, ?_, ?_, ?_, ?_, ?_, ?_, ?_, ?_, ?_, ?_, ?_, ?_, ?_, ?_, ?_, ?_, ?_, ?_, ?_, ?_, ?_, trivial⟩
      · refine opR_mk rfl fun aa W2 hB hp hq K hK => ?_
        have e11 : aa.tmps[11]?.getD undef = .pointer (some ⟨w.heap.size, 0, none⟩) := hp 11 (by kernel_rfl)
        obtain ⟨q0, q1, q2, q3⟩ := hcf _ (bcomp B7.out hB)
        clear hp hq
        go_simp
        exact hK _ _ (RelB.refl _) rfl
      · refine opR_mk rfl fun aa W2 hB hp hq K hK => ?_
        have e26 : aa.tmps[26]?.getD undef = .int .i64 (1 + (x : Int)) := hp 26 (by kernel_rfl)
        clear hp hq
        go_simp
        exact hK _ _ (RelB.refl _) rfl
      · refine opR_mk rfl fun aa W2 hB hp hq K hK => ?_
        have e124 : aa.tmps[124]?.getD undef = confV i c l r := hq 0 _ (by kernel_rfl) rfl
        have e125 : aa.tmps[125]?.getD undef = .int .i64 (1 + (x : Int)) := hq 1 _ (by kernel_rfl) rfl
        clear hp hq
        go_simp
        go_at_call 7
        (with_reducible refine (G1 _).mono ?_)
        rintro e z8 ⟨rfl, hb8⟩
        exact hK _ _ (RelB.of hb8) rfl
      · refine opR_mk rfl fun aa W2 hB hp hq K hK => ?_
        have e11 : aa.tmps[11]?.getD undef = .pointer (some ⟨w.heap.size, 0, none⟩) := hp 11 (by kernel_rfl)
        obtain ⟨q0, q1, q2, q3⟩ := hcf _ (bcomp B7.out hB)
        clear hp hq
        go_simp
        exact hK _ _ (RelB.refl _) rfl
      · refine opR_mk rfl fun aa W2 hB hp hq K hK => ?_
        have e27 : aa.tmps[27]?.getD undef = .int .i64 (1 + (y : Int)) := hp 27 (by kernel_rfl)
        clear hp hq
        go_simp
        exact hK _ _ (RelB.refl _) rfl
      · refine opR_mk rfl fun aa W2 hB hp hq K hK => ?_
        have e127 : aa.tmps[127]?.getD undef = confV i c l r := hq 3 _ (by kernel_rfl) rfl
        have e128 : aa.tmps[128]?.getD undef = .int .i64 (1 + (y : Int)) := hq 4 _ (by kernel_rfl) rfl
        clear hp hq
        go_simp
        go_at_call 7
        (with_reducible refine (G2 _).mono ?_)
        rintro e z8 ⟨rfl, hb8⟩
        exact hK _ _ (RelB.of hb8) rfl
      · refine opR_mk rfl fun aa W2 hB hp hq K hK => ?_
        have e126 : aa.tmps[126]?.getD undef = .int .i64 s1 := hq 2 _ (by kernel_rfl) rfl
        have e129 : aa.tmps[129]?.getD undef = .int .i64 s2 := hq 5 _ (by kernel_rfl) rfl
        have hwr : IntKind.i64.wrap (s1 + s2) = s1 + s2 := by exact IntWalk.i64_in _ (by omega)
        clear hp hq
        go_simp
        try rw [hwr]
        exact hK _ _ (RelB.refl _) rfl
      · refine opR_mk rfl fun aa W2 hB hp hq K hK => ?_
        have e11 : aa.tmps[11]?.getD undef = .pointer (some ⟨w.heap.size, 0, none⟩) := hp 11 (by kernel_rfl)
        obtain ⟨q0, q1, q2, q3⟩ := hcf _ (bcomp B7.out hB)
        clear hp hq
        go_simp
        exact hK _ _ (RelB.refl _) rfl
      · refine opR_mk rfl fun aa W2 hB hp hq K hK => ?_
        have e26 : aa.tmps[26]?.getD undef = .int .i64 (1 + (x : Int)) := hp 26 (by kernel_rfl)
        clear hp hq
        go_simp
        exact hK _ _ (RelB.refl _) rfl
      · refine opR_mk rfl fun aa W2 hB hp hq K hK => ?_
        have e27 : aa.tmps[27]?.getD undef = .int .i64 (1 + (y : Int)) := hp 27 (by kernel_rfl)
        clear hp hq
        go_simp
        exact hK _ _ (RelB.refl _) rfl
      · refine opR_mk rfl fun aa W2 hB hp hq K hK => ?_
        have e132 : aa.tmps[132]?.getD undef = .int .i64 (1 + (x : Int)) := hq 8 _ (by kernel_rfl) rfl
        have e133 : aa.tmps[133]?.getD undef = .int .i64 (1 + (y : Int)) := hq 9 _ (by kernel_rfl) rfl
        have hwr : IntKind.i64.wrap (1 + (x : Int) + (1 + (y : Int))) = 1 + (x : Int) + (1 + (y : Int)) := by exact IntWalk.i64_in _ (by omega)
        clear hp hq
        go_simp
        try rw [hwr]
        exact hK _ _ (RelB.refl _) rfl
      · refine opR_mk rfl fun aa W2 hB hp hq K hK => ?_
        have e131 : aa.tmps[131]?.getD undef = confV i c l r := hq 7 _ (by kernel_rfl) rfl
        have e134 : aa.tmps[134]?.getD undef = .int .i64 (1 + (x : Int) + (1 + (y : Int))) := hq 10 _ (by kernel_rfl) rfl
        clear hp hq
        go_simp
        go_at_call 7
        (with_reducible refine (G3 _).mono ?_)
        rintro e z8 ⟨rfl, hb8⟩
        exact hK _ _ (RelB.of hb8) rfl
      · refine opR_mk rfl fun aa W2 hB hp hq K hK => ?_
        have e130 : aa.tmps[130]?.getD undef = .int .i64 (s1 + s2) := hq 6 _ (by kernel_rfl) rfl
        have e135 : aa.tmps[135]?.getD undef = .int .i64 (s1 + s2) := hq 11 _ (by kernel_rfl) rfl
        clear hp hq
        go_simp
        exact hK _ _ (RelB.refl _) rfl
      · refine opR_mk rfl fun aa W2 hB hp hq K hK => ?_
        have e136 : aa.tmps[136]?.getD undef = .bool true := hq 12 _ (by kernel_rfl) rfl
        clear hp hq
        go_simp
        exact hK _ _ (RelB.refl _) rfl
      · refine opR_guard (j := 13) (d := 137) (c := true) rfl rfl (by kernel_rfl) rfl rfl (fun v W h => h) (fun _ => RelB.refl _) (fun hne => absurd rfl hne) fun hc aa W2 hB hp hq K hK => ?_
        have e11 : aa.tmps[11]?.getD undef = .pointer (some ⟨w.heap.size, 0, none⟩) := hp 11 (by kernel_rfl)
        obtain ⟨q0, q1, q2, q3⟩ := hcf _ (bcomp B7.out hB)
        clear hp hq
        go_simp
        exact hK _ _ (RelB.refl _) rfl
      · refine opR_guard (j := 13) (d := 137) (c := true) rfl rfl (by kernel_rfl) rfl rfl (fun v W h => h) (fun _ => RelB.refl _) (fun hne => absurd rfl hne) fun hc aa W2 hB hp hq K hK => ?_
        have e26 : aa.tmps[26]?.getD undef = .int .i64 (1 + (x : Int)) := hp 26 (by kernel_rfl)
        clear hp hq
        go_simp
        exact hK _ _ (RelB.refl _) rfl
      · refine opR_guard (j := 13) (d := 137) (c := true) rfl rfl (by kernel_rfl) rfl rfl (fun v W h => h) (fun _ => RelB.refl _) (fun hne => absurd rfl hne) fun hc aa W2 hB hp hq K hK => ?_
        have e138 : aa.tmps[138]?.getD undef = confV i c l r := hq 14 _ (by kernel_rfl) rfl
        have e139 : aa.tmps[139]?.getD undef = .int .i64 (1 + (x : Int)) := hq 15 _ (by kernel_rfl) rfl
        clear hp hq
        go_simp
        go_at_call 7
        (with_reducible refine (G1 _).mono ?_)
        rintro e z8 ⟨rfl, hb8⟩
        exact hK _ _ (RelB.of hb8) rfl
      · refine opR_guard (j := 13) (d := 137) (c := true) rfl rfl (by kernel_rfl) rfl rfl (fun v W h => h) (fun _ => RelB.refl _) (fun hne => absurd rfl hne) fun hc aa W2 hB hp hq K hK => ?_
        have e26 : aa.tmps[26]?.getD undef = .int .i64 (1 + (x : Int)) := hp 26 (by kernel_rfl)
        clear hp hq
        go_simp
        exact hK _ _ (RelB.refl _) rfl
      · refine opR_guard (j := 13) (d := 137) (c := true) rfl rfl (by kernel_rfl) rfl rfl (fun v W h => h) (fun _ => RelB.refl _) (fun hne => absurd rfl hne) fun hc aa W2 hB hp hq K hK => ?_
        have e11 : aa.tmps[11]?.getD undef = .pointer (some ⟨w.heap.size, 0, none⟩) := hp 11 (by kernel_rfl)
        obtain ⟨q0, q1, q2, q3⟩ := hcf _ (bcomp B7.out hB)
        clear hp hq
        go_simp
        exact hK _ _ (RelB.refl _) rfl
      · refine opR_guard (j := 13) (d := 137) (c := true) rfl rfl (by kernel_rfl) rfl rfl (fun v W h => h) (fun _ => RelB.refl _) (fun hne => absurd rfl hne) fun hc aa W2 hB hp hq K hK => ?_
        have e142 : aa.tmps[142]?.getD undef = confV i c l r := hq 18 _ (by kernel_rfl) rfl
        clear hp hq
        go_simp
        go_at_call 8
        (with_reducible refine (G4 _).mono ?_)
        rintro e z8 ⟨rfl, hb8⟩
        exact hK _ _ (RelB.of hb8) rfl
      · refine opR_guard (j := 13) (d := 137) (c := true) rfl rfl (by kernel_rfl) rfl rfl (fun v W h => h) (fun _ => RelB.refl _) (fun hne => absurd rfl hne) fun hc aa W2 hB hp hq K hK => ?_
        have e141 : aa.tmps[141]?.getD undef = .int .i64 (1 + (x : Int)) := hq 17 _ (by kernel_rfl) rfl
        have e143 : aa.tmps[143]?.getD undef = .int .i64 s := hq 19 _ (by kernel_rfl) rfl
        have hwr : IntKind.i64.wrap (s1) = s1 := by exact IntWalk.i64_in _ (by omega)
        clear hp hq
        go_simp
        try rw [hwr]
        exact hK _ _ (RelB.refl _) rfl
      · refine opR_guard (j := 13) (d := 137) (c := true) rfl rfl (by kernel_rfl) rfl rfl (fun v W h => h) (fun _ => RelB.refl _) (fun hne => absurd rfl hne) fun hc aa W2 hB hp hq K hK => ?_
        have e140 : aa.tmps[140]?.getD undef = .int .i64 s1 := hq 16 _ (by kernel_rfl) rfl
        have e144 : aa.tmps[144]?.getD undef = .int .i64 s1 := hq 20 _ (by kernel_rfl) rfl
        clear hp hq
        go_simp
        exact hK _ _ (RelB.refl _) rfl
      · refine opR_mk rfl fun aa W2 hB hp hq K hK => ?_
        have e137 : aa.tmps[137]?.getD undef = .bool true := hq 13 _ (by kernel_rfl) rfl
        have e145 : aa.tmps[145]?.getD undef = .bool true := hq 21 _ (by kernel_rfl) rfl
        clear hp hq
        go_simp
        exact hK _ _ (RelB.refl _) rfl
      · refine opR_mk rfl fun aa W2 hB hp hq K hK => ?_
        have e146 : aa.tmps[146]?.getD undef = .bool true := hq 22 _ (by kernel_rfl) rfl
        clear hp hq
        go_simp
        exact hK _ _ (RelB.refl _) rfl
      · refine opR_guard (j := 23) (d := 147) (c := true) rfl rfl (by kernel_rfl) rfl rfl (fun v W h => h) (fun _ => RelB.refl _) (fun hne => absurd rfl hne) fun hc aa W2 hB hp hq K hK => ?_
        clear hp hq
        go_simp
        go_at_call 4
        (with_reducible refine (t_alive34 _).mono ?_)
        rintro e z8 ⟨rfl, hb8⟩
        exact hK _ _ (RelB.of hb8) rfl
      · refine opR_mk rfl fun aa W2 hB hp hq K hK => ?_
        have e147 : aa.tmps[147]?.getD undef = .bool true := hq 23 _ (by kernel_rfl) rfl
        have e148 : aa.tmps[148]?.getD undef = .bool true := hq 24 _ (by kernel_rfl) rfl
        clear hp hq
        go_simp
        exact hK _ _ (RelB.refl _) rfl
      · refine opR_mk rfl fun aa W2 hB hp hq K hK => ?_
        have e149 : aa.tmps[149]?.getD undef = .bool true := hq 25 _ (by kernel_rfl) rfl
        clear hp hq
        go_simp
        exact hK _ _ (RelB.refl _) rfl
    · intro vs W3 hB3 hv3 _
      have v26 : vs 26 = .bool true := hv3 26 _ rfl rfl
      have B8 := Lib.hid (bcomp BW.out (bcomp B7.out hB3))
      clear hB3 hv3
      simp only [putAll, Act.put, List.setIfInBounds_toArray, List.set_cons_succ, List.set_cons_zero, Nat.zero_add, Nat.reduceAdd, v26]
      go_wp2
      go_ret
      exact ⟨rfl, B8.out⟩

end Go.Proofs.YtmnombfgahmfkaaGreatDoor
