/- Take, walked. -/
import Derived.Test.YtehckjkihaalfaaGreatEI
import Derived.Test.YtehckjkihaalfaaGreatEZ
namespace Go.Proofs.YtehckjkihaalfaaGreat
open Go.RowKit Go.Maps

def takeR (st : List Int) (l : List R) : List R := delL (fun r => hasI st r.stamp) l
theorem takeR_len (st : List Int) (l : List R) : (takeR st l).length ≤ l.length := List.length_filter_le _ _
theorem takeR_mem {st : List Int} {l : List R} {r : R} (h : r ∈ takeR st l) : r ∈ l := (List.mem_filter.1 h).1
theorem takeR_twice (st : List Int) (l : List R) : takeR st (takeR st l) = takeR st l := by
  unfold takeR delL
  rw [List.filter_filter]
  simp
theorem PLog.eq_ {x y : PLog} (h1 : x.cores = y.cores) (h2 : x.most = y.most) (h3 : ∀ k, x.rows k = y.rows k) (h4 : x.last = y.last) : x = y := by
  obtain ⟨_, _, f, _⟩ := x
  obtain ⟨_, _, g, _⟩ := y
  simp only at h1 h2 h3 h4
  subst h1
  subst h2
  subst h4
  rw [show f = g from funext h3]
/-- The first i rows have been taken from. -/
def takenTo (x : PLog) (st : List Int) (i : Nat) : PLog := { x with rows := fun k => if k < i then takeR st (x.rows k) else x.rows k }
def takeP (x : PLog) (st : List Int) : PLog := { x with rows := fun k => takeR st (x.rows k) }
def takeN (x : PLog) (st : List Int) : Nat → Nat
  | 0 => 0
  | i + 1 => takeN x st i + ((x.rows i).length - (takeR st (x.rows i)).length)
theorem takenTo_zero (x : PLog) (st : List Int) : takenTo x st 0 = x := by
  unfold takenTo
  simp
theorem takenTo_succ (x : PLog) (st : List Int) (i : Nat) : { takenTo x st i with rows := setF (takenTo x st i).rows i (takeR st (x.rows i)) } = takenTo x st (i + 1) := by
  refine PLog.eq_ rfl rfl (fun k => ?_) rfl
  show (if k = i then takeR st (x.rows i) else if k < i then _ else _) = if k < i + 1 then _ else _
  by_cases h : k = i
  · subst h
    simp
  · rw [if_neg h]
    by_cases h2 : k < i
    · rw [if_pos h2, if_pos (by omega)]
    · rw [if_neg h2, if_neg (by omega)]
theorem takenTo_all {x : PLog} (hx : LogOk x) (st : List Int) : takenTo x st x.cores = takeP x st := by
  refine PLog.eq_ rfl rfl (fun k => ?_) rfl
  show (if k < x.cores then takeR st (x.rows k) else x.rows k) = takeR st (x.rows k)
  by_cases h : k < x.cores
  · rw [if_pos h]
  · rw [if_neg h, hx.out k (by omega)]
    rfl
theorem takeN_le {x : PLog} (st : List Int) (hl : ∀ k, k < 8 → (x.rows k).length ≤ 256) : ∀ i, i ≤ 8 → takeN x st i ≤ 256 * i
  | 0, _ => Nat.zero_le _
  | i + 1, h => by
    have h1 := takeN_le st hl i (by omega)
    have h2 := hl i (by omega)
    unfold takeN
    omega
theorem U64At.turn {w w' : World} {F F' : Nat → Prop} {A : Option Addr} {l : List Int} (h : U64At w A l) (ht : Turn w w' F F') (hF : l ≠ [] → ∀ b o, A = some ⟨b, o, none⟩ → ¬ F b) : U64At w' A l := fun hn => by
  obtain ⟨b, o, h1, h2, h3⟩ := h hn
  exact ⟨b, o, h1, Nat.lt_of_lt_of_le h2 ht.size, fun k x hk => (World.cell?_of_block (a := ⟨b, _, none⟩) (ht.block b h2 (hF hn b o h1))).trans (h3 k x hk)⟩
theorem grown_below {w w' : World} {q : Option Nat} (h : Below w.heap.size w w') : w.grownBy w' q := ⟨h.os, h.tape, h.output, h.size, fun b hb _ => h.block b hb⟩
theorem LogOk.take {x : PLog} (hx : LogOk x) (st : List Int) : LogOk (takeP x st) :=
  ⟨fun k hk => (hx.rising k hk).filter _, fun k hk r hr => hx.last k hk r (takeR_mem hr), fun k hk => by show takeR st (x.rows k) = []; rw [hx.out k hk]; rfl⟩
set_option maxRecDepth 100000 in
set_option maxHeartbeats 8000000 in
theorem t_takeLog (P : Nat) (ls : Nat → Value) (x : PLog) (w : World) (h : LogAt w P ls x) (hx : LogOk x) (As : Option Addr) (ns cs : Nat) (st : List Int) (hU : U64At w As st) (hns : st.length = ns) (hns2 : ns ≤ 9223372036854775807) (hF : st ≠ [] → ∀ b o, As = some ⟨b, o, none⟩ → ¬ Fl P ls b) :
    Calls Tryz.prog 16 #[.pointer (some ⟨P, 0, none⟩), .slice As ns cs] w fun e w' => e = .returned (.int .i64 (takeN x st x.cores : Nat)) ∧ ∃ ls', LogAt w' P ls' (takeP x st) ∧ Turn w w' (Fl P ls) (Fl P ls') := by
  have HNS := Lib.hid hns
  have HF := Lib.hid hF
  have hLa := h.below (below_a1' w (.cells #[.slice As ns cs] 23))
  have hUa := hU.below (below_a1' w (.cells #[.slice As ns cs] 23))
  have hbox : (w.alloc (.cells #[.slice As ns cs] 23)).heap[w.heap.size]? = some (.cells #[.slice As ns cs] 23 (0, 0)) := heap_alloc_new _ _
  have hBF : ¬ Fl P ls w.heap.size := fun hf => by have := (h.fl hf).2; omega
  have hT0 : Turn w (w.alloc (.cells #[.slice As ns cs] 23)) (Fl P ls) (Fl P ls) := Turn.of_below _ (below_a1' w _)
  have h8 := h.cores8
  have c0 := hLa.c0
  obtain ⟨wa, hwa⟩ : ∃ wa, wa = w.alloc (.cells #[.slice As ns cs] 23) := ⟨_, rfl⟩
  rw [← hwa] at hLa hUa hbox hT0
  have HLA := Lib.hid hLa
  have HUA := Lib.hid hUa
  have HBX := Lib.hid hbox
  have HBF := Lib.hid hBF
  have HT0 := Lib.hid hT0
  have HX := Lib.hid hx
  have HSZ : Hid (w.heap.size < wa.heap.size) := lt_heap hbox
  have HLEN := Lib.hid h.len
  clear hns hF hLa hUa hbox hBF hT0 hx h hU
  go_enter Tryz.func16, Tryz.ntmps16
  go_wp2
  rw [← hwa]
  clear hwa c0
  go_loopw [4, 13] (fun v y wr => ∃ i : Nat, v = .int .i64 (takeN x st i : Nat) ∧ y = .int .i64 (i : Int) ∧ i ≤ x.cores ∧ Hid (∃ ls2, LogAt wr P ls2 (takenTo x st i) ∧ Turn wa wr (Fl P ls) (Fl P ls2))) (fun _ y _ => x.cores - (intOf y).toNat)
  case atStart => exact ⟨0, rfl, rfl, Nat.zero_le _, ls, by rw [takenTo_zero]; exact HLA.out, Turn.refl _ _⟩
  case round =>
    obtain ⟨i, rfl, rfl, hi, HI⟩ := hrel
    obtain ⟨ls2, hL, hT⟩ := HI.out
    by_cases hic : i < x.cores
    · have hi8 : i < 8 := by omega
      have hi8' : ((i : Nat) : Int) < 8 := by omega
      have HUr := Lib.hid (HUA.out.turn hT (fun hn b o e => HF.out hn b o e))
      have HBr : Hid (wr.heap[w.heap.size]? = some (.cells #[.slice As ns cs] 23 (0, 0))) := (hT.block _ HSZ.out HBF.out).trans HBX.out
      obtain ⟨l, hl⟩ : ∃ l, l = x.rows i := ⟨_, rfl⟩
      have hrow : (takenTo x st i).rows i = l := by show (if i < i then _ else x.rows i) = l; rw [if_neg (by omega), hl]
      have hOW := hL.own i hi8
      have hOK := hL.ok i hi8
      have hLE := hL.len i hi8
      obtain ⟨A, cap, hsl⟩ := hL.slice hi8
      rw [hrow] at hOW hOK hLE hsl
      obtain ⟨n, hn⟩ : ∃ n, n = l.length := ⟨_, rfl⟩
      rw [← hn] at hOW hLE hsl
      rw [hsl] at hOW
      have HN : Hid (l.length = n) := hn.symm
      have HSL := Lib.hid hsl
      have HOWr := Lib.hid hOW
      have HOK := Lib.hid hOK
      have HL := Lib.hid hL
      have HT := Lib.hid hT
      have HLl := Lib.hid hl
      have HBlt : Hid (w.heap.size < wr.heap.size) := Nat.lt_of_lt_of_le HSZ.out hT.size
      have HP : Hid (P + 1 ≤ wr.heap.size) := hL.lt
      have hn6 : n ≤ 60000 := by omega
      have ht : takeN x st i ≤ 2048 := by have := takeN_le st HLEN.out i (by omega); omega
      obtain ⟨m, hm⟩ : ∃ m, m = (takeR st l).length := ⟨_, rfl⟩
      have hmn : m ≤ n := by rw [hm, ← HN.out]; exact takeR_len _ _
      have HM := Lib.hid hm.symm
      have HTN : Hid (takeN x st (i + 1) = takeN x st i + (n - m)) := by
        show takeN x st i + ((x.rows i).length - (takeR st (x.rows i)).length) = _
        rw [← HLl.out, HN.out, ← hm]
      have crow := HL.out.row hi8
      rw [HSL.out] at crow
      obtain ⟨t, htt⟩ : ∃ t, t = takeN x st i := ⟨_, rfl⟩
      rw [← htt] at ht HTN ⊢
      clear HI hL hT hl hrow hOW hOK hsl hn hm htt
      go_wp2
      refine wp_region_midD 14 10 (fun j => j == 8) RelB (fun W W' => wr.heap.size ≤ W.heap.size → Below wr.heap.size W W') (fun W W' => wr.heap.size ≤ W.heap.size → Below wr.heap.size W W') (phi [isV (.pointer (some ⟨P, 0, none⟩)), isV (.int .i64 (i : Int)), isV (.pointer (some ⟨P, 0, none⟩)), isV (.int .i64 (i : Int)), isV (.pointer (some ⟨P, 0, none⟩)), isV (.pointer (some ⟨P, 2, none⟩)), isV (.pointer (some ⟨P, 2 + i, none⟩)), isV (.slice A n cap), (fun v W => ∃ A1 c1, v = .slice A1 n c1 ∧ W.ownsRow wr.heap.size 34 12 (.slice A1 n c1) n (flatR l)), isV (.func (.func 59) #[] #[.pointer (some ⟨w.heap.size, 0, none⟩)]), (fun v W => ∃ A2 c2, v = .slice A2 m c2 ∧ W.ownsRow wr.heap.size 34 12 (.slice A2 m c2) m (flatR (takeR st l))), isV (.pointer (some ⟨P, 0, none⟩)), isV (.pointer (some ⟨P, 2, none⟩)), isV (.pointer (some ⟨P, 2 + i, none⟩))]) (fun W => ∃ ls3, LogAt W P ls3 (takenTo x st (i + 1)) ∧ Turn wr W (Fl P ls2) (Fl P ls3)) (by kernel_rfl) (by kernel_rfl) (by kernel_rfl) (by decide) (RelB.of (below_drew _)) (fun _ _ _ a b => a.trans b) (fun _ _ h hs => Below.mono h hs) (fun _ _ h => h) (fun _ _ _ a b hs => (a hs).trans (b (Nat.le_trans hs (a hs).size))) ?_ ?_ ?_ ?_ ?_
      · refine stays_phiR ?_
        simp only [List.forall_mem_cons]
        exact ⟨fun _ _ _ h _ => h, fun _ _ _ h _ => h, fun _ _ _ h _ => h, fun _ _ _ h _ => h, fun _ _ _ h _ => h, fun _ _ _ h _ => h, fun _ _ _ h _ => h, fun _ _ _ h _ => h, fun _ _ _ h hb => by obtain ⟨A1, c1, h1, h2⟩ := h; exact ⟨A1, c1, h1, row_below h2 hb⟩, fun _ _ _ h _ => h, fun _ _ _ h hb => by obtain ⟨A1, c1, h1, h2⟩ := h; exact ⟨A1, c1, h1, row_below h2 hb⟩, fun _ _ _ h _ => h, fun _ _ _ h _ => h, fun _ _ _ h _ => h, fun _ h => absurd h (by simp)⟩
      · intro i v W W3 hne hD hph hPP
        rcases i with _ | _ | _ | _ | _ | _ | _ | _ | _ | _ | _ | _ | _ | _ | i
        · exact hph
        · exact hph
        · exact hph
        · exact hph
        · exact hph
        · exact hph
        · exact hph
        · exact hph
        · exact absurd hD (by decide)
        · exact hph
        · exact absurd rfl hne
        · exact hph
        · exact hph
        · exact hph
        · trivial
      · refine ⟨?_, ?_, ?_, ?_, ?_, ?_, ?_, ?_, ?_, ?_, ?_, ?_, ?_, ?_, trivial⟩
        · refine opA_mkD (by decide) rfl fun aa W2 hB hp hq K hK => ?_
          have e0 : aa.tmps[0]?.getD undef = .pointer (some ⟨P, 0, none⟩) := hp 0 (by kernel_rfl)
          clear hp hq
          go_simp
          exact hK _ _ (RelB.refl _) rfl
        · refine opA_mkD (by decide) rfl fun aa W2 hB hp hq K hK => ?_
          have e5 : aa.tmps[5]?.getD undef = .int .i64 (i : Int) := hp 5 (by kernel_rfl)
          clear hp hq
          go_simp
          exact hK _ _ (RelB.refl _) rfl
        · refine opA_mkD (by decide) rfl fun aa W2 hB hp hq K hK => ?_
          have e0 : aa.tmps[0]?.getD undef = .pointer (some ⟨P, 0, none⟩) := hp 0 (by kernel_rfl)
          clear hp hq
          go_simp
          exact hK _ _ (RelB.refl _) rfl
        · refine opA_mkD (by decide) rfl fun aa W2 hB hp hq K hK => ?_
          have e5 : aa.tmps[5]?.getD undef = .int .i64 (i : Int) := hp 5 (by kernel_rfl)
          clear hp hq
          go_simp
          exact hK _ _ (RelB.refl _) rfl
        · refine opA_mkD (by decide) rfl fun aa W2 hB hp hq K hK => ?_
          have e25 : aa.tmps[25]?.getD undef = .pointer (some ⟨P, 0, none⟩) := hq 2 _ (by kernel_rfl) rfl
          clear hp hq
          go_simp
          exact hK _ _ (RelB.refl _) rfl
        · refine opA_mkD (by decide) rfl fun aa W2 hB hp hq K hK => ?_
          have e27 : aa.tmps[27]?.getD undef = .pointer (some ⟨P, 0, none⟩) := hq 4 _ (by kernel_rfl) rfl
          clear hp hq
          go_simp
          exact hK _ _ (RelB.refl _) rfl
        · refine opA_mkD (by decide) rfl fun aa W2 hB hp hq K hK => ?_
          have e28 : aa.tmps[28]?.getD undef = .pointer (some ⟨P, 2, none⟩) := hq 5 _ (by kernel_rfl) rfl
          have e26 : aa.tmps[26]?.getD undef = .int .i64 (i : Int) := hq 3 _ (by kernel_rfl) rfl
          clear hp hq
          go_simp
          exact hK _ _ (RelB.refl _) rfl
        · refine opA_mkD (by decide) rfl fun aa W2 hB hp hq K hK => ?_
          have e29 : aa.tmps[29]?.getD undef = .pointer (some ⟨P, 2 + i, none⟩) := hq 6 _ (by kernel_rfl) rfl
          have hb := hB (Nat.le_refl _)
          have cr := (HL.out.below hb).row hi8
          rw [HSL.out] at cr
          clear hp hq
          go_simp
          exact hK _ _ (RelB.refl _) rfl
        · refine opA_mkD (by decide) rfl fun aa W2 hB hp hq K hK => ?_
          have e30 : aa.tmps[30]?.getD undef = .slice A n cap := hq 7 _ (by kernel_rfl) rfl
          have hb := hB (Nat.le_refl _)
          clear hp hq
          go_simp
          refine (t_cloneRec A n cap (P + 1) l W2 (row_below HOWr.out hb) HN.out hn6).mono ?_
          rintro e w3 ⟨A1, c1, rfl, h1, h2⟩
          exact hK _ _ (RelB.of h2) ⟨A1, c1, rfl, own_low h1 hb.size⟩
        · refine opA_mkD (by decide) rfl fun aa W2 hB hp hq K hK => ?_
          have e3 : aa.tmps[3]?.getD undef = .pointer (some ⟨w.heap.size, 0, none⟩) := hp 3 (by kernel_rfl)
          clear hp hq
          go_simp
          exact hK _ _ (RelB.refl _) rfl
        · refine opP_mkD rfl rfl fun aa W2 hB hp hq K hK => ?_
          have e32 : aa.tmps[32]?.getD undef = .func (.func 59) #[] #[.pointer (some ⟨w.heap.size, 0, none⟩)] := hq 9 _ (by kernel_rfl) rfl
          obtain ⟨A1, c1, e31, hrow⟩ := hq 8 _ (by kernel_rfl) rfl
          have e31 : aa.tmps[31]?.getD undef = .slice A1 n c1 := e31
          clear hp hq
          go_simp
          refine (t_deleteTake A1 n c1 wr.heap.size l W2 hrow HN.out hn6 HOK.out w.heap.size As ns cs st HNS.out hns2 (Below.size hB) (fun W hW => ⟨HUr.out.below (Below.trans hB hW), (Below.block (Below.trans hB hW) _ HBlt.out).trans HBr.out⟩)).mono ?_
          rintro e w3 ⟨A2, m2, c2, rfl, hm2, h1, h2⟩
          obtain rfl : m2 = m := hm2.trans HM.out
          exact hK _ _ (fun _ => h2) ⟨A2, c2, rfl, h1⟩
        · refine opA_mkD (by decide) rfl fun aa W2 hB hp hq K hK => ?_
          have e23 : aa.tmps[23]?.getD undef = .pointer (some ⟨P, 0, none⟩) := hq 0 _ (by kernel_rfl) rfl
          clear hp hq
          go_simp
          exact hK _ _ (RelB.refl _) rfl
        · refine opA_mkD (by decide) rfl fun aa W2 hB hp hq K hK => ?_
          have e34 : aa.tmps[34]?.getD undef = .pointer (some ⟨P, 0, none⟩) := hq 11 _ (by kernel_rfl) rfl
          clear hp hq
          go_simp
          exact hK _ _ (RelB.refl _) rfl
        · refine opA_mkD (by decide) rfl fun aa W2 hB hp hq K hK => ?_
          have e35 : aa.tmps[35]?.getD undef = .pointer (some ⟨P, 2, none⟩) := hq 12 _ (by kernel_rfl) rfl
          have e24 : aa.tmps[24]?.getD undef = .int .i64 (i : Int) := hq 1 _ (by kernel_rfl) rfl
          clear hp hq
          go_simp
          exact hK _ _ (RelB.refl _) rfl
      · intro oN hoN aa W2 hB hp hq K hK
        obtain rfl := Option.some.inj hoN
        have hb := hB (Nat.le_refl _)
        have e36 : aa.tmps[36]?.getD undef = .pointer (some ⟨P, 2 + i, none⟩) := hq 13 _ (by decide) (by decide) rfl
        obtain ⟨A2, c2, e33, hrow⟩ := hq 10 _ (by decide) (by decide) rfl
        have e33 : aa.tmps[33]?.getD undef = .slice A2 m c2 := e33
        have hL2 := HL.out.below hb
        have cl := hL2.row hi8
        have fl := hL2.frozen (2 + i)
        have hset := HL.out.setRow hi8 (W2 := W2) (grown_below hb) (.slice A2 m c2) (takeR st l) (by rw [HM.out]; exact own_low hrow HP.out) (fun q hq => .inr (hrow.lt q hq).1) (fun r hr => HOK.out r (takeR_mem hr)) (by rw [HM.out]; omega)
        rw [show { takenTo x st i with rows := setF (takenTo x st i).rows i (takeR st l) } = takenTo x st (i + 1) by rw [HLl.out]; exact takenTo_succ x st i] at hset
        have HSET := Lib.hid hset
        clear hp hq hset hrow
        go_simp
        exact hK _ ⟨_, HSET.out⟩
      · intro vs3 W3 hF hv
        obtain ⟨ls3, hL3, hT3⟩ := hF
        obtain ⟨A3, c3, hsl3⟩ := hL3.slice hi8
        have hrow3 : ((takenTo x st (i + 1)).rows i).length = m := by rw [← HM.out]; show (if i < i + 1 then takeR st (x.rows i) else _).length = _; rw [if_pos (by omega), HLl.out]
        rw [hrow3] at hsl3
        have crow3 := hL3.row hi8
        rw [hsl3] at crow3
        have HL3 := Lib.hid hL3
        have HT3 := Lib.hid hT3
        clear hL3 hT3 hsl3 hrow3 hv crow
        simp only [List.take_succ_cons, List.take_zero, putAll, Act.put, List.setIfInBounds_toArray, List.set_cons_succ, List.set_cons_zero, Nat.zero_add, Nat.reduceAdd]
        go_wp2
        go_roundw
        case rel =>
          refine ⟨i + 1, ?_, rfl, hic, ls3, HL3.out, HT.out.trans HT3.out⟩
          rw [HTN.out]
          congr 1
          omega
        case measure => simp only [intOf]; omega
    · obtain rfl : i = x.cores := by omega
      go_wp2
      go_ret
      exact ⟨rfl, ls2, takenTo_all HX.out st ▸ hL, HT0.out.trans hT⟩
end Go.Proofs.YtehckjkihaalfaaGreat

/- Len, List, Room, Last, walked. -/
namespace Go.Proofs.YtehckjkihaalfaaGreat
open Go.RowKit Go.Maps

def lenN (x : PLog) : Nat → Nat
  | 0 => 0
  | i + 1 => lenN x i + (x.rows i).length
theorem lenN_le {x : PLog} (hl : ∀ k, k < 8 → (x.rows k).length ≤ 256) : ∀ i, i ≤ 8 → lenN x i ≤ 256 * i
  | 0, _ => Nat.zero_le _
  | i + 1, h => by
    have h1 := lenN_le hl i (by omega)
    have h2 := hl i (by omega)
    unfold lenN
    omega
set_option maxRecDepth 100000 in
set_option maxHeartbeats 4000000 in
theorem t_lenLog (P : Nat) (ls : Nat → Value) (x : PLog) (w : World) (h : LogAt w P ls x) :
    Calls Tryz.prog 21 #[.pointer (some ⟨P, 0, none⟩)] w fun e w' => e = .returned (.int .i64 (lenN x x.cores : Nat)) ∧ w = w' := by
  have h8 := h.cores8
  have c0 := h.c0
  have HH := Lib.hid h
  clear h
  have hlen : ∀ i, i ≤ 8 → lenN x i ≤ 256 * i := lenN_le HH.out.len
  go_enter Tryz.func21, Tryz.ntmps21
  go_wp2
  go_loopw [2, 10] (fun v y wr => ∃ i : Nat, v = .int .i64 (lenN x i : Nat) ∧ y = .int .i64 (i : Int) ∧ i ≤ x.cores ∧ w = wr) (fun _ y _ => x.cores - (intOf y).toNat)
  case atStart => exact ⟨0, rfl, rfl, Nat.zero_le _, rfl⟩
  case round =>
    obtain ⟨i, rfl, rfl, hi, rfl⟩ := hrel
    by_cases hic : i < x.cores
    · have hi8 : i < 8 := by omega
      have hi8' : ((i : Nat) : Int) < 8 := by omega
      have crow := HH.out.row hi8
      obtain ⟨A, cap, hsl⟩ := HH.out.slice hi8
      obtain ⟨n, hn⟩ : ∃ n, n = (x.rows i).length := ⟨_, rfl⟩
      have hn2 := HH.out.len i hi8
      rw [← hn] at hsl hn2
      rw [hsl] at crow
      have HS : Hid (lenN x (i + 1) = lenN x i + n) := by show _ + _ = _; rw [hn]
      have ht := hlen i (by omega)
      obtain ⟨t, htt⟩ : ∃ t, t = lenN x i := ⟨_, rfl⟩
      rw [← htt] at ht HS ⊢
      clear hsl hn htt hlen
      go_wp2
      go_roundw
      case rel => exact ⟨i + 1, by rw [HS.out]; congr 1, rfl, hic, by first | rfl | trivial⟩
      case measure => simp only [intOf]; omega
    · obtain rfl : i = x.cores := by omega
      go_wp2
      go_ret
      exact ⟨rfl, rfl⟩
set_option maxRecDepth 100000 in
set_option maxHeartbeats 4000000 in
theorem t_listLog (P : Nat) (ls : Nat → Value) (x : PLog) (k : Nat) (w : World) (h : LogAt w P ls x) (hk : k < x.cores) :
    Calls Tryz.prog 19 #[.pointer (some ⟨P, 0, none⟩), .int .i64 (k : Int)] w fun e w' => ∃ A c, e = .returned (.slice A (x.rows k).length c) ∧ w'.ownsRow w.heap.size 34 12 (.slice A (x.rows k).length c) (x.rows k).length (flatR (x.rows k)) ∧ Below w.heap.size w w' := by
  have h8 := h.cores8
  have c0 := h.c0
  have hk8 : k < 8 := by omega
  have hk8' : (k : Int) < 8 := by omega
  have crow := h.row hk8
  have hown := h.own k hk8
  have hlen := h.len k hk8
  obtain ⟨A, cap, hsl⟩ := h.slice hk8
  obtain ⟨n, hn⟩ : ∃ n, n = (x.rows k).length := ⟨_, rfl⟩
  rw [← hn] at hsl hown hlen ⊢
  rw [hsl] at crow hown
  have hhas := t_has P (k : Int) (x.cores : Int) true (by simp; omega) w h.c0
  have HHAS := Lib.hid hhas
  have hcl := t_cloneRec A n cap (P + 1) (x.rows k) w hown hn.symm (by omega)
  have HCL := Lib.hid hcl
  clear h hown hhas hcl hsl hn
  go_enter Tryz.func19, Tryz.ntmps19
  go_wp2_with (go_at_call 53; (with_reducible refine HHAS.out.mono ?_); rintro e w' ⟨rfl, rfl⟩)
  go_wp2_with (go_at_call 58; (with_reducible refine HCL.out.mono ?_); rintro e w2 ⟨A1, c1, rfl, h1, h2⟩; have H2 := Lib.hid (And.intro h1 h2); clear h1 h2)
  go_ret
  exact ⟨A1, c1, rfl, H2.out.1, H2.out.2⟩
set_option maxRecDepth 100000 in
set_option maxHeartbeats 4000000 in
theorem t_roomLog (P : Nat) (ls : Nat → Value) (x : PLog) (k : Nat) (w : World) (h : LogAt w P ls x) (hk : k < x.cores) :
    Calls Tryz.prog 51 #[.pointer (some ⟨P, 0, none⟩), .int .i64 (k : Int)] w fun e w' => e = .returned (.int .i64 ((x.most : Int) - ((x.rows k).length : Nat))) ∧ Below w.heap.size w w' := by
  have h8 := h.cores8
  have h256 := h.most256
  have c1 := h.c1
  have hk8 : k < 8 := by omega
  have hk8' : (k : Int) < 8 := by omega
  have crow := h.row hk8
  have hlen := h.len k hk8
  obtain ⟨A, cap, hsl⟩ := h.slice hk8
  obtain ⟨n, hn⟩ : ∃ n, n = (x.rows k).length := ⟨_, rfl⟩
  rw [← hn] at hsl hlen ⊢
  rw [hsl] at crow
  have hhas := t_has P (k : Int) (x.cores : Int) true (by simp; omega) w h.c0
  have HHAS := Lib.hid hhas
  have hw1 : wrap64 ((x.most : Int) - (n : Int)) = (x.most : Int) - (n : Int) := by unfold wrap64; omega
  clear h hhas hsl hn
  go_enter Tryz.func51, Tryz.ntmps51
  go_wp2_with (go_at_call 53; (with_reducible refine HHAS.out.mono ?_); rintro e w' ⟨rfl, rfl⟩)
  go_quiet (fail)
  generalize hw2 : w.drewN _ = w2
  have HB2 : Hid (Below w.heap.size w w2) := by rw [← hw2]; exact pbelow_drewN (Below.refl _ _) _
  clear hw2
  go_wp2
  go_ret
  exact ⟨rfl, HB2.out⟩
set_option maxRecDepth 100000 in
set_option maxHeartbeats 4000000 in
theorem t_lastLog (P : Nat) (ls : Nat → Value) (x : PLog) (k : Nat) (w : World) (h : LogAt w P ls x) (hk : k < x.cores) :
    Calls Tryz.prog 52 #[.pointer (some ⟨P, 0, none⟩), .int .i64 (k : Int)] w fun e w' => e = .returned (.int .u64 (x.last k)) ∧ w = w' := by
  have h8 := h.cores8
  have hk8 : k < 8 := by omega
  have hk8' : (k : Int) < 8 := by omega
  have crow := h.lst hk8
  have hhas := t_has P (k : Int) (x.cores : Int) true (by simp; omega) w h.c0
  have HHAS := Lib.hid hhas
  clear h hhas
  go_enter Tryz.func52, Tryz.ntmps52
  go_wp2_with (go_at_call 53; (with_reducible refine HHAS.out.mono ?_); rintro e w' ⟨rfl, rfl⟩)
  go_ret
  exact ⟨rfl, rfl⟩
end Go.Proofs.YtehckjkihaalfaaGreat
