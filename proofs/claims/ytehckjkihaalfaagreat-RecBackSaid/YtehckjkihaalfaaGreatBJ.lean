/- Get's closures. -/
import Derived.Test.YtehckjkihaalfaaGreatBE
import Derived.Test.YtehckjkihaalfaaGreatBG
import Derived.Test.YtehckjkihaalfaaGreatBI
namespace Go.Proofs.YtehckjkihaalfaaGreat
open Go.RowKit Go.Maps

/-- The boxes of Get's closures: what is left, and whether something lacked. -/
structure RdAt (w : World) (Bs Bb : Nat) (d : Rd) : Prop where
  s : w.heap[Bs]? = some (.cells #[.string ⟨d.s.toArray⟩] 9 (0, 0))
  b : w.heap[Bb]? = some (.cells #[.bool d.bad] 4 (0, 0))
/-- What becomes of memory: the two boxes may be set. -/
structure Rel2 (Bs Bb : Nat) (W W' : World) : Prop where
  os : W'.os = W.os
  tape : W'.tape = W.tape
  output : W'.output = W.output
  size : W.heap.size ≤ W'.heap.size
  old : ∀ b, b < W.heap.size → b ≠ Bs → b ≠ Bb → W'.heap[b]? = W.heap[b]?
section
variable {w w' w2 : World} {Bs Bb : Nat} {d d' : Rd}
theorem Rel2.refl (w : World) : Rel2 Bs Bb w w := ⟨rfl, rfl, rfl, Nat.le_refl _, fun _ _ _ _ => rfl⟩
theorem Rel2.trans (h : Rel2 Bs Bb w w') (g : Rel2 Bs Bb w' w2) : Rel2 Bs Bb w w2 :=
  ⟨g.os.trans h.os, g.tape.trans h.tape, g.output.trans h.output, Nat.le_trans h.size g.size, fun b hb h1 h2 => (g.old b (Nat.lt_of_lt_of_le hb h.size) h1 h2).trans (h.old b hb h1 h2)⟩
theorem Rel2.of_below (h : Below w.heap.size w w') : Rel2 Bs Bb w w' := ⟨h.os, h.tape, h.output, h.size, fun b hb _ _ => h.block b hb⟩
theorem Rel2.of_s (h : w.grownBy w' (some Bs)) : Rel2 Bs Bb w w' := ⟨h.os, h.tape, h.output, h.size, fun b hb h1 _ => h.block b hb (fun e => h1 (by injection e))⟩
theorem Rel2.of_b (h : w.grownBy w' (some Bb)) : Rel2 Bs Bb w w' := ⟨h.os, h.tape, h.output, h.size, fun b hb _ h2 => h.block b hb (fun e => h2 (by injection e))⟩
theorem RdAt.below (h : RdAt w Bs Bb d) (hb : Below w.heap.size w w') : RdAt w' Bs Bb d :=
  ⟨(hb.block _ (Array.getElem?_eq_some_iff.1 h.s).1).trans h.s, (hb.block _ (Array.getElem?_eq_some_iff.1 h.b).1).trans h.b⟩
theorem RdAt.ne (h : RdAt w Bs Bb d) : Bs ≠ Bb := fun e => by
  have a := h.s
  rw [e, h.b] at a
  injection a with a
  injection a with _ a
  cases a
theorem RdAt.set_s (h : RdAt w Bs Bb d) (l : List UInt8) : RdAt (w.setCell ⟨Bs, 0, none⟩ (.string ⟨l.toArray⟩)) Bs Bb ⟨d.bad, l⟩ :=
  ⟨by rw [pheap_set w Bs 0 _ _ _ h.s]; rfl, ((pgrown_set w Bs 0 _).block _ (Array.getElem?_eq_some_iff.1 h.b).1 (fun e => h.ne (by injection e with e; exact e.symm))).trans h.b⟩
theorem RdAt.set_b (h : RdAt w Bs Bb d) (x : Bool) : RdAt (w.setCell ⟨Bb, 0, none⟩ (.bool x)) Bs Bb ⟨x, d.s⟩ :=
  ⟨((pgrown_set w Bb 0 _).block _ (Array.getElem?_eq_some_iff.1 h.s).1 (fun e => h.ne (by injection e))).trans h.s, by rw [pheap_set w Bb 0 _ _ _ h.b]; rfl⟩
theorem RdAt.cs (h : RdAt w Bs Bb d) : w.cell? ⟨Bs, 0, none⟩ = some (.string ⟨d.s.toArray⟩) := by simp only [World.cell?, h.s]; rfl
theorem RdAt.cb (h : RdAt w Bs Bb d) : w.cell? ⟨Bb, 0, none⟩ = some (.bool d.bad) := by simp only [World.cell?, h.b]; rfl
theorem RdAt.fs (h : RdAt w Bs Bb d) : w.frozen? ⟨Bs, 0, none⟩ = false := by simp [World.frozen?, h.s]
theorem RdAt.fb (h : RdAt w Bs Bb d) : w.frozen? ⟨Bb, 0, none⟩ = false := by simp [World.frozen?, h.b]
end
theorem repeat_zero (n : Nat) : Lib.repeatL ((⟨#[0]⟩ : ByteArray).data.toList) n = List.replicate n 0 := by
  induction n with
  | zero => rfl
  | succ n ih => show [0] ++ Lib.repeatL _ n = _; rw [ih]; rfl
set_option maxRecDepth 100000 in
set_option maxHeartbeats 2000000 in
theorem t_get1 (n : Nat) (hn : n ≤ 65536) (Bs Bb : Nat) (d : Rd) (w : World) (h : RdAt w Bs Bb d) (hl : d.s.length ≤ maxLen) :
    Calls Tryz.prog 81 #[.int .i64 (n : Int), .pointer (some ⟨Bs, 0, none⟩), .pointer (some ⟨Bb, 0, none⟩)] w fun e w' => e = .returned (.string ⟨(cutR n d).1.toArray⟩) ∧ RdAt w' Bs Bb (cutR n d).2 ∧ Rel2 Bs Bb w w' := by
  have cs := h.cs
  have hsz : (⟨d.s.toArray⟩ : ByteArray).size = d.s.length := by show d.s.toArray.size = _; simp
  obtain ⟨bad, s⟩ := d
  have H := Lib.hid h
  have HN := Lib.hid hn
  have HL := Lib.hid hl
  have HZ := Lib.hid hsz
  simp only at cs
  clear h hsz
  have hrp := fun w => s_repeat ⟨#[0]⟩ n w (Nat.le_trans hn (by decide)) (by show 1 * n ≤ _; omega)
  rw [repeat_zero] at hrp
  by_cases hc : s.length < n
  · have hr : cutR n ⟨bad, s⟩ = (List.replicate n 0, ⟨true, s⟩) := by unfold cutR; rw [if_pos (.inr hc)]
    rw [hr]
    clear hr
    cases bad <;>
      (go_enter Tryz.func81, Tryz.ntmps81
       go_wp2_with (first
         | (go_at_call 82; (with_reducible refine (t_ocut _ n (by rw [HZ.out]; exact HL.out) (Nat.le_trans HN.out (by decide)) _).mono ?_); rw [if_pos (by rw [HZ.out]; exact hc)]; rintro e w1 ⟨rfl, hb⟩; have H1 := Lib.hid (H.out.below hb); have HB1 := Lib.hid hb; have c1 := H1.out.cb; have f1 := H1.out.fb; clear hb)
         | (go_at_call 83; (with_reducible refine (hrp _).mono ?_); rintro e w2 ⟨rfl, hb⟩; have HB2 := Lib.hid hb; clear hb))
       go_ret
       refine ⟨rfl, (H1.out.set_b true).below HB2.out, ((Rel2.of_below HB1.out).trans (Rel2.of_b (pgrown_set _ Bb 0 _))).trans (Rel2.of_below HB2.out)⟩)
  · cases bad
    · have hr : cutR n ⟨false, s⟩ = (s.take n, ⟨false, s.drop n⟩) := by unfold cutR; rw [if_neg (by simp; omega)]
      rw [hr]
      clear hr
      go_enter Tryz.func81, Tryz.ntmps81
      go_wp2_with (go_at_call 82; (with_reducible refine (t_ocut _ n (by rw [HZ.out]; exact HL.out) (Nat.le_trans HN.out (by decide)) _).mono ?_); rw [if_neg (by rw [HZ.out]; exact hc)]; rintro e w1 ⟨rfl, hb⟩; have H1 := Lib.hid (H.out.below hb); have HB1 := Lib.hid hb; have c1 := H1.out.cb; have f1 := H1.out.fb; have H1' := Lib.hid (H1.out.set_b false); have c2 := H1'.out.cs; have f2 := H1'.out.fs; clear hb)
      go_ret
      exact ⟨rfl, H1'.out.set_s _, ((Rel2.of_below HB1.out).trans (Rel2.of_b (pgrown_set _ Bb 0 _))).trans (Rel2.of_s (pgrown_set _ Bs 0 _))⟩
    · have hr : cutR n ⟨true, s⟩ = (List.replicate n 0, ⟨true, s⟩) := by unfold cutR; rw [if_pos (.inl rfl)]
      rw [hr]
      clear hr
      go_enter Tryz.func81, Tryz.ntmps81
      go_wp2_with (first
         | (go_at_call 82; (with_reducible refine (t_ocut _ n (by rw [HZ.out]; exact HL.out) (Nat.le_trans HN.out (by decide)) _).mono ?_); rw [if_neg (by rw [HZ.out]; exact hc)]; rintro e w1 ⟨rfl, hb⟩; have H1 := Lib.hid (H.out.below hb); have HB1 := Lib.hid hb; have c1 := H1.out.cb; have f1 := H1.out.fb; clear hb)
         | (go_at_call 83; (with_reducible refine (hrp _).mono ?_); rintro e w2 ⟨rfl, hb⟩; have HB2 := Lib.hid hb; clear hb))
      go_ret
      refine ⟨rfl, (H1.out.set_b true).below HB2.out, ((Rel2.of_below HB1.out).trans (Rel2.of_b (pgrown_set _ Bb 0 _))).trans (Rel2.of_below HB2.out)⟩
theorem cut_len (n : Nat) (d : Rd) : (cutR n d).1.length = n := by
  unfold cutR
  split
  · simp
  · rename_i h
    simp only [List.length_take]
    have : ¬ d.s.length < n := fun e => h (.inr e)
    omega
theorem cut_left (n : Nat) (d : Rd) : (cutR n d).2.s.length ≤ d.s.length := by
  unfold cutR
  split
  · exact Nat.le_refl _
  · simp
theorem num1_lt (d : Rd) : (numR 1 d).1 < 256 := by
  have := leN_lt (cutR 1 d).1
  rw [cut_len] at this
  exact this
def rdW (d : Rd) : Nat → Rd
  | 0 => d
  | 1 => (numR 1 d).2
  | _ + 2 => (wordR d).2
theorem wrap_i64_nat (m : Nat) (h : m < 256) : IntKind.i64.wrap (m : Int) = m := by
  simp only [IntKind.wrap, IntKind.bits, IntKind.signed]
  simp
  omega
theorem size_mk (l : List UInt8) : (⟨l.toArray⟩ : ByteArray).size = l.length := by show l.toArray.size = _; simp
set_option maxRecDepth 100000 in
set_option maxHeartbeats 2000000 in
/-- number(n) -/
theorem t_get2 (n : Nat) (hn : n ≤ 8) (Bs Bb Bc : Nat) (d : Rd) (w : World) (h : RdAt w Bs Bb d) (hl : d.s.length ≤ maxLen)
    (hc : w.cell? ⟨Bc, 0, none⟩ = some (.func (.func 81) #[] #[.pointer (some ⟨Bs, 0, none⟩), .pointer (some ⟨Bb, 0, none⟩)])) :
    Calls Tryz.prog 84 #[.int .i64 (n : Int), .pointer (some ⟨Bc, 0, none⟩)] w fun e w' => e = .returned (.int .u64 ((numR n d).1 : Int)) ∧ RdAt w' Bs Bb (numR n d).2 ∧ Rel2 Bs Bb w w' := by
  have H := Lib.hid h
  have HL := Lib.hid hl
  clear h hl
  go_enter Tryz.func84, Tryz.ntmps84
  go_wp2_with (first
    | (go_at_call 81; (with_reducible refine (t_get1 n (by omega) Bs Bb d _ H.out HL.out).mono ?_); rintro e w1 ⟨rfl, g1, g2⟩; have H1 := Lib.hid (And.intro g1 g2); clear g1 g2)
    | (go_at_call 85; (with_reducible refine (t_oget _ (by rw [size_mk, cut_len]; exact hn) _).mono ?_); rintro e w2 ⟨rfl, hb⟩; have HB := Lib.hid hb; clear hb))
  go_ret
  refine ⟨?_, H1.out.1.below HB.out, H1.out.2.trans (Rel2.of_below HB.out)⟩
  unfold numR
  simp
set_option maxRecDepth 100000 in
set_option maxHeartbeats 2000000 in
/-- word() -/
theorem t_get3 (Bs Bb Bc Bn : Nat) (d : Rd) (w : World) (h : RdAt w Bs Bb d) (hl : d.s.length ≤ maxLen)
    (hc : w.heap[Bc]? = some (.cells #[.func (.func 81) #[] #[.pointer (some ⟨Bs, 0, none⟩), .pointer (some ⟨Bb, 0, none⟩)]] 134 (0, 0)))
    (hn : w.heap[Bn]? = some (.cells #[.func (.func 84) #[] #[.pointer (some ⟨Bc, 0, none⟩)]] 80 (0, 0))) :
    Calls Tryz.prog 86 #[.pointer (some ⟨Bc, 0, none⟩), .pointer (some ⟨Bn, 0, none⟩)] w fun e w' => e = .returned (.string ⟨(wordR d).1.toArray⟩) ∧ RdAt w' Bs Bb (wordR d).2 ∧ Rel2 Bs Bb w w' := by
  have c1 : w.cell? ⟨Bc, 0, none⟩ = some (.func (.func 81) #[] #[.pointer (some ⟨Bs, 0, none⟩), .pointer (some ⟨Bb, 0, none⟩)]) := by simp only [World.cell?, hc]; rfl
  have c2 : w.cell? ⟨Bn, 0, none⟩ = some (.func (.func 84) #[] #[.pointer (some ⟨Bc, 0, none⟩)]) := by simp only [World.cell?, hn]; rfl
  have ncs : Bc ≠ Bs := fun e => by rw [e, h.s] at hc; injection hc with hc; injection hc with _ hc; cases hc
  have ncb : Bc ≠ Bb := fun e => by rw [e, h.b] at hc; injection hc with hc; injection hc with _ hc; cases hc
  have nns : Bn ≠ Bs := fun e => by rw [e, h.s] at hn; injection hn with hn; injection hn with _ hn; cases hn
  have nnb : Bn ≠ Bb := fun e => by rw [e, h.b] at hn; injection hn with hn; injection hn with _ hn; cases hn
  have lc := (Array.getElem?_eq_some_iff.1 hc).1
  have ln := (Array.getElem?_eq_some_iff.1 hn).1
  have hm := num1_lt d
  have hml : (numR 1 d).2.s.length ≤ maxLen := Nat.le_trans (cut_left 1 d) hl
  obtain ⟨m, hm2⟩ : ∃ m, (numR 1 d).1 = m := ⟨_, rfl⟩
  rw [hm2] at hm
  have HM := Lib.hid hm2
  have H := Lib.hid h
  have HL := Lib.hid hl
  have HML := Lib.hid hml
  clear h hl hc hn hm2 hml
  go_enter Tryz.func86, Tryz.ntmps86
  go_wp2
  refine wp_region_st (fun n W => RdAt W Bs Bb (rdW d n) ∧ Rel2 Bs Bb w W) (fun W W' => Below W.heap.size W W') (Rel2 Bs Bb) [2, 4] (phi [isV (.func (.func 81) #[] #[.pointer (some ⟨Bs, 0, none⟩), .pointer (some ⟨Bb, 0, none⟩)]), isV (.func (.func 84) #[] #[.pointer (some ⟨Bc, 0, none⟩)]), isV (.int .u64 (m : Int)), isV (.int .i64 (m : Int)), isV (.string ⟨(wordR d).1.toArray⟩), isV (.string ⟨(wordR d).1.toArray⟩)]) (by kernel_rfl) (by kernel_rfl) (by kernel_rfl) (by kernel_rfl) (by kernel_rfl) ⟨H.out.below (below_drew _), Rel2.of_below (below_drew _)⟩ (fun _ _ _ h hr => ⟨h.1.below hr, h.2.trans (Rel2.of_below hr)⟩) (fun _ _ h => Rel2.of_below h) ?_ ?_ ?_
  · refine stays_phiR ?_
    simp only [List.forall_mem_cons]
    exact ⟨fun _ _ _ h _ => h, fun _ _ _ h _ => h, fun _ _ _ h _ => h, fun _ _ _ h _ => h, fun _ _ _ h _ => h, fun _ _ _ h _ => h, fun _ h => absurd h (by simp)⟩
  · refine ⟨?_, ?_, ?_, ?_, ?_, ?_, trivial⟩
    · refine opS_mk rfl rfl fun a W2 n hJ hp hq K hK => ?_
      have e0 : a.tmps[0]?.getD undef = .pointer (some ⟨Bc, 0, none⟩) := hp 0 (by kernel_rfl)
      have cc := (World.cell?_of_block (a := ⟨Bc, 0, none⟩) (hJ.2.old Bc lc ncs ncb)).trans c1
      clear hp hq hJ
      go_simp
      exact hK _ _ (Below.refl _ _) rfl
    · refine opS_mk rfl rfl fun a W2 n hJ hp hq K hK => ?_
      have e1 : a.tmps[1]?.getD undef = .pointer (some ⟨Bn, 0, none⟩) := hp 1 (by kernel_rfl)
      have cc := (World.cell?_of_block (a := ⟨Bn, 0, none⟩) (hJ.2.old Bn ln nns nnb)).trans c2
      clear hp hq hJ
      go_simp
      exact hK _ _ (Below.refl _ _) rfl
    · refine opS_at (m := 0) rfl rfl fun a W2 hJ hp hq K hK => ?_
      have e4 : a.tmps[4]?.getD undef = .func (.func 84) #[] #[.pointer (some ⟨Bc, 0, none⟩)] := hq 1 _ (by kernel_rfl) rfl
      have cc := (World.cell?_of_block (a := ⟨Bc, 0, none⟩) (hJ.2.old Bc lc ncs ncb)).trans c1
      have HJ := Lib.hid hJ
      clear hp hq hJ
      go_simp
      refine (t_get2 1 (by decide) Bs Bb Bc d W2 HJ.out.1 HL.out cc).mono ?_
      rintro e w2 ⟨rfl, g1, g2⟩
      exact hK _ _ g2 ⟨g1, HJ.out.2.trans g2⟩ (by show _ = _; rw [HM.out])
    · refine opS_mk rfl rfl fun a W2 n hJ hp hq K hK => ?_
      have e5 : a.tmps[5]?.getD undef = .int .u64 (m : Int) := hq 2 _ (by kernel_rfl) rfl
      clear hp hq hJ
      go_simp
      have hwr : IntKind.i64.wrap (m : Int) = m := wrap_i64_nat m (by omega)
      first | (rw [hwr]; exact hK _ _ (Below.refl _ _) rfl) | exact hK _ _ (Below.refl _ _) (by show _ = _; rw [hwr])
    · refine opS_at (m := 1) rfl rfl fun a W2 hJ hp hq K hK => ?_
      have e3 : a.tmps[3]?.getD undef = .func (.func 81) #[] #[.pointer (some ⟨Bs, 0, none⟩), .pointer (some ⟨Bb, 0, none⟩)] := hq 0 _ (by kernel_rfl) rfl
      have e6 : a.tmps[6]?.getD undef = .int .i64 (m : Int) := hq 3 _ (by kernel_rfl) rfl
      have HJ := Lib.hid hJ
      clear hp hq hJ
      go_simp
      refine (t_get1 m (by omega) Bs Bb (numR 1 d).2 W2 HJ.out.1 HML.out).mono ?_
      rintro e w2 ⟨rfl, g1, g2⟩
      have hw : wordR d = cutR m (numR 1 d).2 := by unfold wordR; rw [HM.out]
      exact hK _ _ g2 ⟨by show RdAt w2 Bs Bb (wordR d).2; rw [hw]; exact g1, HJ.out.2.trans g2⟩ (by show _ = _; rw [hw])
    · refine opS_mk rfl rfl fun a W2 n hJ hp hq K hK => ?_
      have e7 : a.tmps[7]?.getD undef = .string ⟨(wordR d).1.toArray⟩ := hq 4 _ (by kernel_rfl) rfl
      clear hp hq hJ
      go_simp
      exact hK _ _ (Below.refl _ _) rfl
  · intro vs W3 hJ3 hv _
    have H3 : Hid (RdAt W3 Bs Bb (wordR d).2 ∧ Rel2 Bs Bb w W3) := hJ3
    have hv5 : vs 5 = .string ⟨(wordR d).1.toArray⟩ := hv 5 _ rfl rfl
    clear hJ3 hv
    simp only [List.take_succ_cons, List.take_zero, putAll, Act.put, List.setIfInBounds_toArray, List.set_cons_succ, List.set_cons_zero, Nat.zero_add, Nat.reduceAdd, hv5]
    go_wp2
    go_ret
    exact ⟨rfl, H3.out⟩
end Go.Proofs.YtehckjkihaalfaaGreat
