/- ClosureTells, walked. -/
import Derived.Test.YtehckjkihaalfaaGreatDI
namespace Go.Proofs.YtehckjkihaalfaaGreat
open Go.RowKit Go.Maps

/-- The places as numbers. -/
def numsT (l : List Nat) : List Int := l.map fun (n : Nat) => (n : Int)
theorem flatR_len (l : List R) : (flatR l).length = l.length * 12 := by
  induction l with
  | nil => rfl
  | cons a l ih =>
    unfold flatR at ih ⊢
    rw [List.flatMap_cons, List.length_append, ih, List.length_cons, show (cellsL a).length = 12 from rfl]
    omega
theorem flatR_at : ∀ {l : List R} {j : Nat} {u : Value}, (flatR l)[j]? = some u → ∃ r, l[j / 12]? = some r ∧ (cellsR r)[j % 12]? = some u
  | [], j, u, h => by simp [flatR] at h
  | a :: l, j, u, h => by
    have e : (cellsL a).length = 12 := rfl
    unfold flatR at h
    rw [List.flatMap_cons] at h
    by_cases hj : j < 12
    · rw [List.getElem?_append_left (by omega)] at h
      refine ⟨a, by rw [Nat.div_eq_of_lt hj]; rfl, ?_⟩
      rw [Nat.mod_eq_of_lt hj, ← Array.getElem?_toList]
      exact h
    · rw [List.getElem?_append_right (by omega), e] at h
      obtain ⟨r, h1, h2⟩ := flatR_at (l := l) h
      refine ⟨r, ?_, ?_⟩
      · rw [show j / 12 = (j - 12) / 12 + 1 by omega]
        simpa using h1
      · rw [show j % 12 = (j - 12) % 12 by omega]
        exact h2
theorem append_nils (ty c : Nat) (w : World) : (Builtin.append_ #[37, 37] ty #[.slice none 0 0, .slice none 0 c]).run Tryz.prog w = .ok (.slice none 0 0) w := by
  kernel_rfl
theorem cells_one (r : R) : ∀ u ∈ cellsL r, u.oneCell' = true := by simp [cellsL, Value.oneCell']
theorem run_copy_recs (base ty : Nat) (w : World) (A : Option Addr) (n c : Nat) (l : List R) (hl : RecsAt w A l) (hn : l.length = n) (hn2 : n ≤ 1000) (hbase : base ≤ w.heap.size) :
    ∃ v' w', (Builtin.append_ #[37, 37] ty #[.slice none 0 0, .slice A n c]).run Tryz.prog w = .ok v' w' ∧ w'.ownsRow base 34 12 v' n (flatR l) ∧ w.grownBy w' none := by
  obtain ⟨i0, hi, hz0, hz1, hz2⟩ := infoRec
  cases A with
  | none =>
    have h0 : l = [] := Decidable.byContradiction fun h => by
      obtain ⟨b, o, h1, _⟩ := hl.at_ h
      cases h1
    subst h0
    subst hn
    exact ⟨_, w, append_nils ty c w, World.ownsRow_nil _ _ _ _, rfl, rfl, rfl, Nat.le_refl _, fun _ _ _ => rfl⟩
  | some a =>
    obtain ⟨v', w', h1, h2, h3, _⟩ := run_append_own_at (P := Tryz.prog) w base 37 ty 34 i0 _ 12 96 Tryz.underlying37 hi hz0 hz1 hz2 rfl (by decide) (.slice none 0 0) 0 [] (World.ownsRow_nil _ _ _ _) a n c (flatR l) (by rw [flatR_len, hn]) (fun j u hu => by
      obtain ⟨r, h1, h2⟩ := flatR_at hu
      obtain ⟨b, o, h3, _, h4⟩ := hl.at_ (fun e => by rw [e] at h1; simp at h1)
      obtain rfl := Option.some.inj h3
      have := h4 _ r h1 _ u h2
      rw [Addr.add_mid]
      rw [show o + j / 12 * 12 + j % 12 = o + j by omega] at this
      exact this) (fun u hu => by
      unfold flatR at hu
      obtain ⟨r, _, h⟩ := List.mem_flatMap.1 hu
      exact cells_one r u h) (by unfold maxLen; omega) (by omega) hbase
    rw [Nat.zero_add, List.nil_append] at h2
    exact ⟨v', w', h1, h2, h3⟩
theorem wpList_copy_recs {ops : Array Oper} {rest : List Oper} {o : Oper} {a : Act} {Q : Exit → Act → World → Prop} {w : World} (hgd : o.guard = none) (s x : Operand)
    (ho : o.op = .call { callee := .builtin .append, args := #[s, x], argTypes := #[37, 37] }) (base : Nat) (hs : a.eval s = .slice none 0 0) (A : Option Addr) (n c : Nat) (l : List R) (hx : a.eval x = .slice A n c)
    (hl : RecsAt w A l) (hn : l.length = n) (hn2 : n ≤ 1000) (hbase : base ≤ w.heap.size)
    (h : ∀ A1 c1 w', w'.ownsRow base 34 12 (.slice A1 n c1) n (flatR l) → w.grownBy w' none → wpList Tryz.prog ops Q rest (a.put o.dst (.slice A1 n c1)) w') : wpList Tryz.prog ops Q (o :: rest) a w :=
  wpList_plain hgd fun _ hK => by
    obtain ⟨v', w', hrun, h2, h3⟩ := run_copy_recs base o.type w A n c l hl hn hn2 hbase
    unfold Oper.wp execOp
    simp only [ho, resolve, invoke, builtin, Sem.run_bind, Sem.run_pure, Result.andThen_ok, List.map_toArray, List.map_cons, List.map_nil, hs, hx, hrun]
    obtain ⟨A1, c1, rfl⟩ := row_slice h2
    exact hK _ _ (h A1 c1 w' h2 h3)
theorem rec_cap {w : World} {base size n c : Nat} {A : Option Addr} {e : TypeId} {xs : List Value} (h : w.ownsRow base e size (.slice A n c) n xs) : n ≤ c := by
  rcases h.2 with ⟨h1, h2⟩ | ⟨g, cap, cur, h1, _, _, h2, _⟩
  · omega
  · injection h1 with _ _ h1
    omega
set_option maxRecDepth 100000 in
set_option maxHeartbeats 8000000 in
theorem t_closureTells (A : Option Addr) (c n : Nat) (l : List R) (Ai : Option Addr) (ni ci : Nat) (inos : List Int) (k : Int) (hk : I64 k) (Ap : Option Addr) (np cp : Nat) (ps : List Int) (w : World) (hl : RecsAt w A l) (hn : l.length = n) (hnc : n ≤ c) (hnm : n ≤ maxLen) (hi : InosAt w Ai inos) (hni : inos.length = ni) (hni2 : ni ≤ maxLen)
    (hp : IntsAt w Ap ps) (hnp : ps.length = np) (hnp2 : np ≤ maxLen) (hps : ∀ x ∈ ps, I64 x) :
    Calls Tryz.prog 7 #[.slice A n c, .slice Ai ni ci, .int .i64 k, .slice Ap np cp] w fun e w' => e = .returned (.bool true) ∧ Below w.heap.size w w' := by
  have HL := Lib.hid hl
  have HN := Lib.hid hn
  have HI := Lib.hid hi
  have HNI := Lib.hid hni
  have HP := Lib.hid hp
  have HNP := Lib.hid hnp
  have HPS := Lib.hid hps
  have HLG := Lib.hid (t_long25 A c n l w hl hn hnc hnm)
  clear hl hn hi hni hp hnp hps
  by_cases hbig : 20 < ni ∨ 100 < np
  · by_cases h20 : 20 < ni
    · clear hbig
      go_enter Tryz.func7, Tryz.ntmps7
      go_wp2_with (first
        | (go_at_call 36; (with_reducible refine HLG.out.mono ?_); rintro e w1 ⟨b, rfl, h1, h2⟩; have H1 := Lib.hid h2; clear h1 h2; cases b)
        | (go_at_call 37; (with_reducible refine (t_alive25 _).mono ?_); rintro e w9 ⟨rfl, hb⟩; have HB9 := Lib.hid hb; clear hb))
      all_goals
        go_ret
        exact ⟨rfl, ptrans H1.out HB9.out⟩
    · have h100 : 100 < np := by omega
      clear hbig
      go_enter Tryz.func7, Tryz.ntmps7
      go_wp2_with (first
        | (go_at_call 36; (with_reducible refine HLG.out.mono ?_); rintro e w1 ⟨b, rfl, h1, h2⟩; have H1 := Lib.hid h2; clear h1 h2; cases b)
        | (go_at_call 37; (with_reducible refine (t_alive25 _).mono ?_); rintro e w9 ⟨rfl, hb⟩; have HB9 := Lib.hid hb; clear hb))
      all_goals
        go_ret
        exact ⟨rfl, ptrans H1.out HB9.out⟩
  · have h20 : ¬ 20 < ni := by omega
    have h100 : ¬ 100 < np := by omega
    clear hbig
    obtain ⟨pl, hpl⟩ : ∃ pl, placesL l inos = pl := ⟨_, rfl⟩
    obtain ⟨npl, hnpl⟩ : ∃ q, pl.length = q := ⟨_, rfl⟩
    have hnpl2 : npl ≤ n := by have := places_len l inos; rw [hpl, hnpl, HN.out] at this; exact this
    obtain ⟨pt, hpt⟩ : ∃ pt, pickL l inos true = pt := ⟨_, rfl⟩
    obtain ⟨pf, hpf⟩ : ∃ pf, pickL l inos false = pf := ⟨_, rfl⟩
    obtain ⟨npt, hnpt⟩ : ∃ q, pt.length = q := ⟨_, rfl⟩
    obtain ⟨npf, hnpf⟩ : ∃ q, pf.length = q := ⟨_, rfl⟩
    have hnpt2 : npt ≤ n := by have := pickTo_len l inos true l.length; rw [show pickTo l inos true l.length = pickL l inos true from rfl, hpt, hnpt, HN.out] at this; exact this
    have hnpf2 : npf ≤ n := by have := pickTo_len l inos false l.length; rw [show pickTo l inos false l.length = pickL l inos false from rfl, hpf, hnpf, HN.out] at this; exact this
    have hokt : ∀ r ∈ pt, RecOk r := by rw [← hpt]; exact pickL_ok HL.out.ok
    have hokf : ∀ r ∈ pf, RecOk r := by rw [← hpf]; exact pickL_ok HL.out.ok
    obtain ⟨on, hon⟩ : ∃ q, onZ l k = q := ⟨_, rfl⟩
    obtain ⟨non, hnon⟩ : ∃ q, on.length = q := ⟨_, rfl⟩
    have hnon2 : non ≤ n := by have := onZ_len l k; rw [hon, hnon, HN.out] at this; exact this
    obtain ⟨cb, hcb⟩ : ∃ q, closedB l ps = q := ⟨_, rfl⟩
    have HPL := Lib.hid hpl
    have HNPL := Lib.hid hnpl
    have HPT := Lib.hid hpt
    have HPF := Lib.hid hpf
    have HNPT := Lib.hid hnpt
    have HNPF := Lib.hid hnpf
    have HOKT := Lib.hid hokt
    have HOKF := Lib.hid hokf
    have HON := Lib.hid hon
    have HNON := Lib.hid hnon
    have HCB := Lib.hid hcb
    clear hpl hnpl hpt hpf hnpt hnpf hokt hokf hon hnon hcb
    go_enter Tryz.func7, Tryz.ntmps7
    go_wp2_with (first
      | (go_at_call 36; (with_reducible refine HLG.out.mono ?_); rintro e w1 ⟨b, rfl, h1, h2⟩; have H1 := Lib.hid h2; have H60 := Lib.hid h1; clear h1 h2; cases b)
      | (at_builtin; refine wpList_copy_recs rfl _ _ rfl w1.heap.size rfl A n c l rfl (HL.out.below H1.out) HN.out (by have h60 : n ≤ 60 := (by have h := H60.out; first | exact h rfl | exact h trivial); omega) (Nat.le_refl _) ?_; intro A0 c0 w2 g2 g3; have h60 : n ≤ 60 := (by have h := H60.out; first | exact h rfl | exact h trivial); have hc0 : n ≤ c0 := rec_cap g2; have HR0 := Lib.hid (recs_of_row g2 HN.out HL.out.ok); have HB2 := Lib.hid (H1.out.grown g3 H1.out.size (fun q h => by cases h)); clear g2 g3)
      | (go_at_call 39; (with_reducible refine (t_places A0 c0 n l Ai ni ci inos w2 HR0.out HN.out (by omega) hc0 (HI.out.below HB2.out) HNI.out (by omega)).mono ?_); rintro e w3 ⟨v3, rfl, h1, h2⟩; rw [HPL.out, HNPL.out] at h1; obtain ⟨A3, c3, rfl⟩ := row_slice h1; have HI3 := Lib.hid (ints_of_row h1 (show _ = numsT pl from rfl)); have H3 := Lib.hid h2; clear h1 h2)
      | (go_at_call 40; (with_reducible refine (t_rplaces A c n l Ai ni ci inos w3 (HL.out.below (ptrans HB2.out H3.out)) HN.out (by omega) hnc (HI.out.below (ptrans HB2.out H3.out)) HNI.out (by omega)).mono ?_); rintro e w4 ⟨v4, rfl, h1, h2⟩; rw [HPL.out, HNPL.out] at h1; obtain ⟨A4, c4, rfl⟩ := row_slice h1; have HI4 := Lib.hid (ints_of_row h1 (show _ = numsT pl from rfl)); have HI3' := Lib.hid (HI3.out.below h2); have H4 := Lib.hid (ptrans H3.out h2); clear h1 h2)
      | (go_at_call 38; (with_reducible refine (t_sameInts A3 A4 npl npl c3 c4 (numsT pl) (numsT pl) true (decide_eq_true rfl) w4 HI3'.out (by unfold numsT; rw [List.length_map]; exact HNPL.out) (by omega) HI4.out (by unfold numsT; rw [List.length_map]; exact HNPL.out) (by omega)).mono ?_); rintro e w5 ⟨rfl, h2⟩; have H5 := Lib.hid (ptrans H4.out h2); clear h2)
      | (go_at_call 41; (with_reducible refine (t_of A0 c0 n l Ai ni ci inos w5 (HR0.out.below H5.out) HN.out (by omega) hc0 (HI.out.below (ptrans HB2.out H5.out)) HNI.out (by omega)).mono ?_); rintro e w6 ⟨v6, rfl, h1, h2⟩; rw [HPT.out, HNPT.out] at h1; obtain ⟨A6, c6, rfl⟩ := row_slice h1; have HR6 := Lib.hid (recs_of_row h1 HNPT.out HOKT.out); have H6 := Lib.hid (ptrans H5.out h2); clear h1 h2)
      | (go_at_call 42; (with_reducible refine (t_rpick A c n l Ai ni ci inos true w6 (HL.out.below (ptrans HB2.out H6.out)) HN.out (by omega) hnc (HI.out.below (ptrans HB2.out H6.out)) HNI.out (by omega)).mono ?_); rintro e w7 ⟨v7, rfl, h1, h2⟩; rw [HPT.out, HNPT.out] at h1; obtain ⟨A7, c7, rfl⟩ := row_slice h1; have HR7 := Lib.hid (recs_of_row h1 HNPT.out HOKT.out); have HR6' := Lib.hid (HR6.out.below h2); have H7 := Lib.hid (ptrans H6.out h2); clear h1 h2)
      | (go_at_call 17; (with_reducible refine (t_same A6 A7 npt npt c6 c7 pt pt true (iff_of_true rfl rfl) w7 HR6'.out HNPT.out (by omega) HR7.out HNPT.out (by omega)).mono ?_); rintro e w8 ⟨rfl, h2⟩; have H8 := Lib.hid (ptrans H7.out h2); clear h2)
      | (go_at_call 43; (with_reducible refine (t_rest A0 c0 n l Ai ni ci inos w8 (HR0.out.below H8.out) HN.out (by omega) hc0 (HI.out.below (ptrans HB2.out H8.out)) HNI.out (by omega)).mono ?_); rintro e w9 ⟨v9, rfl, h1, h2⟩; rw [HPF.out, HNPF.out] at h1; obtain ⟨A9, c9, rfl⟩ := row_slice h1; have HR9 := Lib.hid (recs_of_row h1 HNPF.out HOKF.out); have H9 := Lib.hid (ptrans H8.out h2); clear h1 h2)
      | (go_at_call 42; (with_reducible refine (t_rpick A c n l Ai ni ci inos false w9 (HL.out.below (ptrans HB2.out H9.out)) HN.out (by omega) hnc (HI.out.below (ptrans HB2.out H9.out)) HNI.out (by omega)).mono ?_); rintro e wa ⟨va, rfl, h1, h2⟩; rw [HPF.out, HNPF.out] at h1; obtain ⟨Aa, ca, rfl⟩ := row_slice h1; have HRa := Lib.hid (recs_of_row h1 HNPF.out HOKF.out); have HR9' := Lib.hid (HR9.out.below h2); have Ha := Lib.hid (ptrans H9.out h2); clear h1 h2)
      | (go_at_call 17; (with_reducible refine (t_same A9 Aa npf npf c9 ca pf pf true (iff_of_true rfl rfl) wa HR9'.out HNPF.out (by omega) HRa.out HNPF.out (by omega)).mono ?_); rintro e wb ⟨rfl, h2⟩; have Hb := Lib.hid (ptrans Ha.out h2); clear h2)
      | (go_at_call 44; (with_reducible refine (t_onZ A0 c0 n k hk l wb (HR0.out.below Hb.out) HN.out (by omega) hc0).mono ?_); rintro e wc ⟨vc, rfl, h1, h2⟩; rw [HON.out, HNON.out] at h1; obtain ⟨Ac, cc, rfl⟩ := row_slice h1; have HIc := Lib.hid (ints_of_row h1 (show _ = numsT on from rfl)); have Hc := Lib.hid (ptrans Hb.out h2); clear h1 h2)
      | (go_at_call 45; (with_reducible refine (t_ron A c n k hk l wc (HL.out.below (ptrans HB2.out Hc.out)) HN.out (by omega) hnc).mono ?_); rintro e wd ⟨vd, rfl, h1, h2⟩; rw [HON.out, HNON.out] at h1; obtain ⟨Ad, cd, rfl⟩ := row_slice h1; have HId := Lib.hid (ints_of_row h1 (show _ = numsT on from rfl)); have HIc' := Lib.hid (HIc.out.below h2); have Hd := Lib.hid (ptrans Hc.out h2); clear h1 h2)
      | (go_at_call 38; (with_reducible refine (t_sameInts Ac Ad non non cc cd (numsT on) (numsT on) true (decide_eq_true rfl) wd HIc'.out (by unfold numsT; rw [List.length_map]; exact HNON.out) (by omega) HId.out (by unfold numsT; rw [List.length_map]; exact HNON.out) (by omega)).mono ?_); rintro e we ⟨rfl, h2⟩; have He := Lib.hid (ptrans Hd.out h2); clear h2)
      | (go_at_call 46; (with_reducible refine (t_closed A0 c0 n l Ap np cp ps we (HR0.out.below He.out) HN.out (by omega) hc0 (HP.out.below (ptrans HB2.out He.out)) HNP.out (by omega) HPS.out).mono ?_); rintro e wf ⟨rfl, h2⟩; rw [HCB.out]; have Hf := Lib.hid (ptrans He.out h2); clear h2)
      | (go_at_call 47; (with_reducible refine (t_rclosed A c n l Ap np cp ps wf (HL.out.below (ptrans HB2.out Hf.out)) HN.out (by omega) hnc (HP.out.below (ptrans HB2.out Hf.out)) HNP.out (by omega)).mono ?_); rintro e wg ⟨rfl, h2⟩; rw [HCB.out]; have Hg := Lib.hid (ptrans Hf.out h2); clear h2)
      | (go_at_call 17; (with_reducible refine (t_same A0 A n n c0 c l l true (iff_of_true rfl rfl) wg (HR0.out.below Hg.out) HN.out (by omega) (HL.out.below (ptrans HB2.out Hg.out)) HN.out (by omega)).mono ?_); rintro e wh ⟨rfl, h2⟩; have Hh := Lib.hid (ptrans Hg.out h2); clear h2)
      | (go_at_call 37; (with_reducible refine (t_alive25 w1).mono ?_); rintro e wi ⟨rfl, h2⟩; have Hj := Lib.hid (ptrans H1.out h2); clear h2)
      | (go_at_call 37; (with_reducible refine (t_alive25 wh).mono ?_); rintro e wi ⟨rfl, h2⟩; have Hi := Lib.hid (ptrans HB2.out (ptrans Hh.out h2)); clear h2))
    all_goals
      go_ret
      first
        | exact ⟨rfl, Hi.out⟩
        | exact ⟨rfl, Hj.out⟩
end Go.Proofs.YtehckjkihaalfaaGreat
